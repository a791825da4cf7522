/-
  The law EncodingMatches, walked: the law itself.
-/
import Derived.Test.YtbcadgooelcnhaaDoorEncMatch
import Derived.Laws.EntriesVeiled
import Derived.IntWalk
namespace Go.Proofs.YtbcadgooelcnhaaDoor
open Go.RowKit

theorem refEncode_any (x : Wh.Enc) (a : Option Addr) (c : Nat) (s : ByteArray) (w : World) (hE : Env w) (hX : EncOk x a w) (hs : s.size ≤ 9223372036854775807) (he : Wh.encErr x = 0) :
    Calls Tryd.prog 56 #[encVal x a c, .string s] w fun e w' => e = .returned (.tuple #[.string (encGives x s), .int .i64 (encCode x s)]) ∧ Below w.heap.size w w' := by
  rcases Wh.pathErr_cases s.data.toList with hp | hp
  · have h := refEncode_bad x a c s w hE hs (pathErr_not hp)
    simpa [encGives, encCode, hp, he] using h
  · have h := refEncode_path x a c s w hE hX (Wh.pathErr_zero hp)
    have hc : encCode x s = Wh.encErrP x s := by simp [encCode, hp, he]
    have hg : encGives x s = Wh.encText x s := by
      unfold encGives
      rw [hc]
      split
      · rfl
      · rename_i h0
        simp [Wh.encText, h0]
    rw [hc, hg]
    exact h

set_option maxHeartbeats 1000000 in
theorem lower_small (s : ByteArray) (w : World) (hs : s.size ≤ 255) :
    Calls Tryd.prog 49 #[.string s] w fun e w' => e = .returned (.string ⟨(Wh.lower s.data.toList).toArray⟩) ∧ Below w.heap.size w w' := lower_any s w (by omega)

theorem last_of {n : ByteArray} (h : n.size - 1 < n.size) : n.data.toList.getLast? = some (n[n.size - 1]'h) := by
  have e := Lib.data_getElem? n (n.size - 1) h
  rw [List.getLast?_eq_getElem?, ← Lib.size_eq]
  exact e
theorem head_of {n : ByteArray} (h : 0 < n.size) : n.data.toList.head? = some (n[0]'h) := by
  have e := Lib.data_getElem? n 0 h
  rw [List.head?_eq_getElem?]
  exact e

set_option maxHeartbeats 4000000 in
set_option maxRecDepth 100000 in
theorem encMatch_good (x : Wh.Enc) (a : Option Addr) (c : Nat) (q : ByteArray) (w : World) (hE : Env w) (hX : EncOk x a w) (hs : q.size ≤ 9223372036854775807) (he : Wh.encErr x = 0) (hcode : encCode x q = 0) :
    Calls Tryd.prog 14 #[encVal x a c, .string q] w fun e w' => e = .returned (.bool true) ∧ Below w.heap.size w w' := by
  obtain ⟨hE0, hGv, hTs⟩ := code_zero hcode
  have hp : Wh.isPath q.data.toList = true := by
    rcases Wh.pathErr_cases q.data.toList with hp | hp
    · simp [encCode, he, hp] at hcode
    · exact Wh.pathErr_zero hp
  have hTp := Wh.encText_path he hp hE0
  have hgood : Wh.goodB x (Wh.encText x q) q = true := Wh.goodB_iff.2 ⟨hp, hE0, rfl⟩
  have hdec := Wh.dec_good hgood
  have hperm := fun e (hm : e ∈ Wh.encsOf x q) => Wh.permitted_of he hp hE0 hm
  rw [← Wh.good_names hgood] at hperm
  have hpe : Wh.pathErr (Wh.encText x q).data.toList = 0 := by simp [Wh.pathErr, hTp]
  have HR := Lib.hid (fun W (hb : Below w.heap.size w W) => refCheckEnc x a c W (hE.under hb) (hX.under hb))
  have HA := Lib.hid (fun W (hb : Below w.heap.size w W) => encode_any x a c q W (hE.under hb) (hX.under hb) hs)
  have HA2 := Lib.hid (fun W (hb : Below w.heap.size w W) => refEncode_any x a c q W (hE.under hb) (hX.under hb) hs he)
  have HD := Lib.hid (fun W (hb : Below w.heap.size w W) => decode_path x a c (Wh.encText x q) W (hE.under hb) (hX.under hb) he hpe)
  have HI := Lib.hid (fun W (hb : Below w.heap.size w W) => refIsPath_any (Wh.encText x q) W (hE.under hb) (by omega))
  have HSp := Lib.hid (fun W (hb : Below w.heap.size w W) => split_one 47 (Wh.encText x q) W (hE.under hb) (by omega))
  have HCn := Lib.hid (fun y W (hb : Below w.heap.size w W) => contains_names a c x.names y W hX.len (hX.holds.under hb))
  rw [hdec.1, hdec.2] at HD
  rw [hTp] at HI
  rw [he] at HR
  rw [hcode, hGv] at HA HA2
  have HE := Lib.hid hE
  have HPm := Lib.hid hperm
  have hpl := Wh.pieces_le 47 (Wh.encText x q)
  have HNs := Lib.hid (fun h => Wh.namesOf_some (s := Wh.encText x q) h)
  clear hE hX hE0 hGv hp hTp hgood hdec hperm hpe he hcode
  generalize Wh.encText x q = T at *
  unfold encVal at *
  go_enter Tryd.func14, Tryd.ntmps14
  go_wp2_with fail
  refine (landed_any _ (HE.out.alloc _)).mono ?_
  rintro e w1 ⟨rfl, hb1⟩
  have hbb := bTrans (bAlloc (Below.refl _ w) _) hb1
  have HX1 := Lib.hid ((encBox_new w 61 x a c).under hb1)
  clear hb1
  obtain ⟨k0, k1, k2, k3, k4, k5, k6⟩ := HX1.out
  go_wp2_with fail
  refine (HR.out _ hbb).mono ?_
  rintro e w2 ⟨rfl, hb2⟩
  have hbb := bTrans hbb hb2
  have HX2 := Lib.hid (HX1.out.under hb2)
  clear hb2 k0 k1 k2 k3 k4 k5 k6 HX1
  obtain ⟨k0, k1, k2, k3, k4, k5, k6⟩ := HX2.out
  go_wp2_with fail
  refine (HA.out _ hbb).mono ?_
  rintro e w3 ⟨rfl, hb3⟩
  have hbb := bTrans hbb hb3
  have HX3 := Lib.hid (HX2.out.under hb3)
  clear hb3 k0 k1 k2 k3 k4 k5 k6 HX2
  obtain ⟨k0, k1, k2, k3, k4, k5, k6⟩ := HX3.out
  go_wp2_with fail
  refine (HA2.out _ hbb).mono ?_
  rintro e w4 ⟨rfl, hb4⟩
  have hbb := bTrans hbb hb4
  have HX4 := Lib.hid (HX3.out.under hb4)
  clear hb4 k0 k1 k2 k3 k4 k5 k6 HX3
  obtain ⟨k0, k1, k2, k3, k4, k5, k6⟩ := HX4.out
  go_wp2_with fail
  refine (HD.out _ hbb).mono ?_
  rintro e w5 ⟨rfl, hb5⟩
  have hbb := bTrans hbb hb5
  have HX5 := Lib.hid (HX4.out.under hb5)
  clear hb5 k0 k1 k2 k3 k4 k5 k6 HX4 HA HA2 HD HR
  go_wp2_with fail
  refine (HSp.out _ hbb).mono ?_
  rintro e w6 ⟨rfl, hw6⟩
  have hb6 : Below w5.heap.size w5 w6 := by rw [hw6]; exact bAlloc (Below.refl _ _) _
  have hH : Holds w6 (some ⟨w5.heap.size, 0, none⟩) ((Wh.pieces 47 T).map Value.string) := by rw [hw6]; exact holds_new w5 9 _
  have HH := Lib.hid hH
  have HX6 := Lib.hid (HX5.out.under hb6)
  have hbb := bTrans hbb hb6
  clear hH hw6 HX5 HSp
  have hpp := Wh.pieces_pos 47 T
  cases hT0 : T.toList.isEmpty
  case true =>
    clear HNs HPm HCn
    generalize Wh.pieces 47 T = ns at *
    obtain ⟨n, hn⟩ : ∃ n, ns[0]? = some n := ⟨_, List.getElem?_eq_getElem hpp⟩
    obtain ⟨ba, off, ha, hba, hca⟩ := HH.out.at (k := 0) (u := .string n) (by simp [hn])
    injection ha with ha
    injection ha with ha1 ha2
    subst ha1 ha2
    rw [Nat.zero_add] at hca
    have hpi : (0 : Int) < (ns.length : Int) := by omega
    clear hn
    go_wp2_with fail
    refine wp_loop_rounds 1 ?_
    rw [rounds_succ]
    go_wp2_with fail
    refine (HI.out _ hbb).mono ?_
    rintro e w7 ⟨rfl, hb7⟩
    go_wp2_with fail
    go_ret
    exact ⟨rfl, bTrans hbb hb7⟩
  case false =>
    have hns := HNs.out (by rw [← Lib.toList_data]; exact hT0)
    rw [hns] at HPm
    clear hns HNs
    generalize Wh.pieces 47 T = ns at *
    go_wp2_with fail
    go_loopg [57] ns.length (fun g s57 wx => ∃ k : Nat, k + g = ns.length ∧ s57 = .int .i64 k ∧ Below w6.heap.size w6 wx)
    case atStart => exact ⟨0, by omega, rfl, Below.refl _ _⟩
    case round =>
      obtain ⟨k, hk, rfl, hb⟩ := hrel
      by_cases hlt : k < ns.length
      · obtain ⟨g, rfl⟩ : ∃ g, gk = g + 1 := ⟨gk - 1, by omega⟩
        obtain ⟨n, hn⟩ : ∃ n, ns[k]? = some n := ⟨_, List.getElem?_eq_getElem hlt⟩
        obtain ⟨ba, off, ha, hba, hca⟩ := (HH.out.under hb).at (k := k) (u := .string n) (by simp [hn])
        obtain ⟨p1, p2, p3, p4, p5, p6, p7, p8⟩ := HPm.out n (List.mem_of_getElem? hn)
        clear hn p8
        injection ha with ha
        injection ha with ha1 ha2
        subst ha1 ha2
        rw [Nat.zero_add] at hca
        have HP4 := Lib.hid p4
        have HP5 := Lib.hid p5
        have HP6 := Lib.hid p6
        have HP7 := Lib.hid p7
        clear p4 p5 p6 p7
        go_upto_region 19 with fail
        have hcz : (wr.alloc (.cells #[.func (.func 58) #[] #[]] 67)).cell? ⟨wr.heap.size, 0, none⟩ = some (.func (.func 58) #[] #[]) := by rw [World.cell?_alloc_at _ _ _ _ rfl]; rfl
        have hbz : Below wr.heap.size wr (wr.alloc (.cells #[.func (.func 58) #[] #[]] 67)) := bAlloc (Below.refl _ _) _
        have hlz : wr.heap.size < (wr.alloc (.cells #[.func (.func 58) #[] #[]] 67)).heap.size := by simp
        have hb6z := bTrans hb hbz
        have HXz := Lib.hid ((HX6.out.under hb).under hbz)
        clear hbz hca
        generalize wr.alloc (.cells #[.func (.func 58) #[] #[]] 67) = wz at *
        obtain ⟨c0, hc0⟩ : ∃ c0 : UInt8, n[0]'p1 = c0 := ⟨_, rfl⟩
        obtain ⟨cl, hcl⟩ : ∃ cl : UInt8, n[n.size - 1]'(by omega) = cl := ⟨_, rfl⟩
        have hq1 := fun W => encMatch1_any x.head c0 W
        rw [HP4.out c0 (by rw [← hc0]; exact head_of p1)] at hq1
        have hq2 := fun W => encMatch1_any x.tail cl W
        rw [HP5.out cl (by rw [← hcl]; exact last_of (by omega))] at hq2
        have HQ1 := Lib.hid hq1
        have HQ2 := Lib.hid hq2
        have hF := fun W => lower_small n W p3
        have hB := fun W (hb : Below w.heap.size w W) => HCn.out ⟨(Wh.lower n.data.toList).toArray⟩ W hb
        obtain ⟨F, hFe⟩ : ∃ F : ByteArray, (⟨(Wh.lower n.data.toList).toArray⟩ : ByteArray) = F := ⟨_, rfl⟩
        have hFd : F.data.toList = Wh.lower n.data.toList := by rw [← hFe]
        rw [hFe] at hF hB
        rw [hFd, HP6.out] at hB
        have HF := Lib.hid hF
        have HB := Lib.hid hB
        clear hq1 hq2 hF hB hFe hFd
        have hbz0 := bTrans hbb hb6z
        obtain ⟨k0, k1, k2, k3, k4, k5, k6⟩ := HXz.out
        clear k1 k5
        have hen := enters_encMatch1
        have i1 : IntKind.i64.wrap ((n.size : Int) - 1) = (n.size : Int) - 1 := IntWalk.i64_in _ (by omega)
        have i2 : (0 : Int) ≤ (n.size : Int) - 1 := by omega
        have i3 : (n.size : Int) - 1 < n.size := by omega
        have i4 : ((n.size : Int) - 1).toNat = n.size - 1 := by omega
        have i5 : (0 : Int) < n.size := by omega
        have i6 : decide (x.max < (n.size : Int)) = false := by simpa using p2
        go_cut [93] (fun s93 wx => s93 = .bool false ∧ Below wz.heap.size wz wx)
        case first =>
          go_region_held3 (fun w' => w'.cell? ⟨w.heap.size, 1, none⟩ = some (.string x.head) ∧ w'.cell? ⟨w.heap.size, 2, none⟩ = some (.string x.tail) ∧ w'.cell? ⟨w.heap.size, 3, none⟩ = some (.slice a x.names.length c) ∧ w'.cell? ⟨w.heap.size, 5, none⟩ = some (.int .i64 x.max) ∧ w'.cell? ⟨wr.heap.size, 0, none⟩ = some (.func (.func 58) #[] #[]))
            (first | go_keep | exact ⟨(hbF.cell (p := ⟨w.heap.size, 1, none⟩) k0).trans k2, (hbF.cell (p := ⟨w.heap.size, 2, none⟩) k0).trans k3, (hbF.cell (p := ⟨w.heap.size, 3, none⟩) k0).trans k4, (hbF.cell (p := ⟨w.heap.size, 5, none⟩) k0).trans k6, (hbF.cell (p := ⟨wr.heap.size, 0, none⟩) hlz).trans hcz⟩)
            (first | (go_at_call_of 58 (Value.string x.head); refine (HQ1.out _).mono ?_; rintro e w' ⟨rfl, hw'⟩; subst w') | (go_at_call_of 58 (Value.string x.tail); refine (HQ2.out _).mono ?_; rintro e w' ⟨rfl, hw'⟩; subst w') | (go_at_call 49; refine (HF.out _).mono ?_; rintro e w2 ⟨rfl, hbF⟩) | (go_at_call 60; refine (HB.out _ (bTrans hbz0 (undrew hbF))).mono ?_; rintro e w3 ⟨rfl, hw3⟩; subst w3))
          all_goals go_wp2_with fail
          all_goals go_meet
          all_goals exact ⟨rfl, undrew hbF⟩
        case rest =>
          obtain ⟨rfl, hbc⟩ := hcut
          clear i1 i2 i3 i4 i5 i6 k0 k2 k3 k4 k6 hen
          have hcc : wc.cell? ⟨wr.heap.size, 0, none⟩ = some (.func (.func 58) #[] #[]) := (hbc.cell (p := ⟨wr.heap.size, 0, none⟩) hlz).trans hcz
          have HXc := Lib.hid (HXz.out.under hbc)
          have hzc := Nat.lt_of_lt_of_le hlz hbc.size
          clear hcz HQ1 HQ2 HF HB HXz
          have hcv := conv_bytes wc n
          obtain ⟨hb8, hz8, hA8⟩ := bytesWorld_facts wc 5 n
          have hH8 : Holds (Lib.bytesWorld wc 5 n) (some ⟨wc.heap.size, 0, none⟩) (n.data.toList.map vb) := .inr ⟨wc.heap.size, 0, rfl, by rw [hz8]; exact Nat.lt_succ_self _, fun j u hu => by
            rw [List.getElem?_map] at hu
            cases hj : n.data.toList[j]? with
            | none => rw [hj] at hu; simp at hu
            | some y =>
              rw [hj] at hu
              simp at hu
              subst hu
              rw [Nat.zero_add]
              exact (hA8 j y hj).1⟩
          have hcf : (Lib.bytesWorld wc 5 n).cell? ⟨wr.heap.size, 0, none⟩ = some (.func (.func 58) #[] #[]) := (hb8.cell (p := ⟨wr.heap.size, 0, none⟩) hzc).trans hcc
          obtain ⟨k0, k1, k2, k3, k4, k5, k6⟩ := HXc.out.under hb8
          clear k0 k2 k3 k4 k5 k6
          have hCF := containsFunc_none 62 (.pointer (some ⟨wr.heap.size, 0, none⟩)) (.pointer (some ⟨w.heap.size, 0, none⟩)) (some ⟨wc.heap.size, 0, none⟩) (grownCap wc n.size 0 5) n.data.toList (Lib.bytesWorld wc 5 n) enters_encMatch2 (by rw [← Lib.size_eq]; omega) hH8 (fun b hb => encMatch2_any x.forbid b _ _ _ hcf k1 (HP7.out b hb))
          rw [← Lib.size_eq] at hCF
          have HCF := Lib.hid hCF
          clear hCF hH8 hA8 hz8 hcf k1 hcc HXc HP4 HP5 HP6 HP7
          generalize grownCap wc n.size 0 5 = gc at *
          generalize Lib.bytesWorld wc 5 n = w8 at *
          have hb68 := bTrans (bTrans hb6z hbc) hb8
          go_wp2_with fail
          refine HCF.out.mono ?_
          rintro e w9 ⟨rfl, hw9⟩
          subst w9
          go_wp2_with fail
          go_roundg g
          case measure => omega
          case rel => exact ⟨k + 1, by omega, by go_num, hb68⟩
      · go_wp2_with fail
        refine (HI.out _ (bTrans hbb hb)).mono ?_
        rintro e w7 ⟨rfl, hb7⟩
        go_wp2_with fail
        go_ret
        exact ⟨rfl, bTrans (bTrans hbb hb) hb7⟩

set_option maxHeartbeats 4000000 in
set_option maxRecDepth 100000 in
theorem encodingMatches_walk (x : Wh.Enc) (a : Option Addr) (c : Nat) (s : ByteArray) (w : World) (hE : Env w) (hX : EncOk x a w) (hs : s.size ≤ 9223372036854775807) :
    Calls Tryd.prog 14 #[encVal x a c, .string s] w fun e w' => e = .returned (.bool true) ∧ Below w.heap.size w w' := by
  by_cases he : Wh.encErr x = 0
  · by_cases hc : encCode x s = 0
    · exact encMatch_good x a c s w hE hX hs he hc
    have HR := Lib.hid (fun W (hb : Below w.heap.size w W) => refCheckEnc x a c W (hE.under hb) (hX.under hb))
    have HE := Lib.hid hE
    have HA := Lib.hid (fun W (hb : Below w.heap.size w W) => encode_any x a c s W (hE.under hb) (hX.under hb) hs)
    have HB := Lib.hid (fun W (hb : Below w.heap.size w W) => refEncode_any x a c s W (hE.under hb) (hX.under hb) hs he)
    generalize encGives x s = T at *
    generalize encCode x s = E at *
    rw [he] at HR
    have h1 := err_ne hc
    clear hE hX he hc
    unfold encVal at *
    go_enter Tryd.func14, Tryd.ntmps14
    go_wp2_with fail
    refine (landed_any _ (HE.out.alloc _)).mono ?_
    rintro e w1 ⟨rfl, hb1⟩
    have hbb := bTrans (bAlloc (Below.refl _ w) _) hb1
    have HX1 := Lib.hid ((encBox_new w 61 x a c).under hb1)
    clear hb1
    obtain ⟨k0, k1, k2, k3, k4, k5, k6⟩ := HX1.out
    go_wp2_with fail
    refine (HR.out _ hbb).mono ?_
    rintro e w2 ⟨rfl, hb2⟩
    have hbb := bTrans hbb hb2
    have HX2 := Lib.hid (HX1.out.under hb2)
    clear hb2 k0 k1 k2 k3 k4 k5 k6 HX1
    obtain ⟨k0, k1, k2, k3, k4, k5, k6⟩ := HX2.out
    go_wp2_with fail
    refine (HA.out _ hbb).mono ?_
    rintro e w4 ⟨rfl, hb4⟩
    have hbb := bTrans hbb hb4
    have HX4 := Lib.hid (HX2.out.under hb4)
    clear hb4 k0 k1 k2 k3 k4 k5 k6 HX2
    obtain ⟨k0, k1, k2, k3, k4, k5, k6⟩ := HX4.out
    go_wp2_with fail
    refine (HB.out _ hbb).mono ?_
    rintro e w5 ⟨rfl, hb5⟩
    have hbb := bTrans hbb hb5
    clear hb5 k0 k1 k2 k3 k4 k5 k6 HX4
    go_wp2_with fail
    go_ret
    exact ⟨rfl, hbb⟩
  · have HR := Lib.hid (fun W (hb : Below w.heap.size w W) => refCheckEnc x a c W (hE.under hb) (hX.under hb))
    have HE := Lib.hid hE
    have h1 := err_ne he
    generalize Wh.encErr x = E at *
    clear hE hX he
    unfold encVal at *
    go_enter Tryd.func14, Tryd.ntmps14
    go_wp2_with fail
    refine (landed_any _ (HE.out.alloc _)).mono ?_
    rintro e w1 ⟨rfl, hb1⟩
    have hbb := bTrans (bAlloc (Below.refl _ w) _) hb1
    have HX1 := Lib.hid ((encBox_new w 61 x a c).under hb1)
    clear hb1
    obtain ⟨k0, k1, k2, k3, k4, k5, k6⟩ := HX1.out
    go_wp2_with fail
    refine (HR.out _ hbb).mono ?_
    rintro e w2 ⟨rfl, hb2⟩
    have hbb := bTrans hbb hb2
    clear hb2 k0 k1 k2 k3 k4 k5 k6 HX1
    go_wp2_with fail
    go_ret
    exact ⟨rfl, hbb⟩
end Go.Proofs.YtbcadgooelcnhaaDoor
