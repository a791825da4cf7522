/-
  The reference's namesOf and Encode, walked.
-/
import Derived.Test.YtbcadgooelcnhaaDoorRefEnc
import Derived.Test.YtbcadgooelcnhaaDoorOneLaw
import Derived.IntWalk
namespace Go.Proofs.YtbcadgooelcnhaaDoor
open Go.RowKit

set_option maxHeartbeats 1000000 in
theorem refNamesOf_any (s : ByteArray) (w : World) (hE : Env w) (hs : s.size < 4294967281) :
    Calls Tryd.prog 76 #[.string s] w (StrsPost (Wh.namesOf s) w) := by
  have HE := Lib.hid hE
  clear hE
  cases h0 : s.toList.isEmpty
  · have e1 : Wh.namesOf s = Wh.pieces 47 s := Wh.namesOf_some (by rw [← Lib.toList_data]; exact h0)
    rw [e1]
    clear e1
    go_enter Tryd.func76, Tryd.ntmps76
    go_wp2_with fail
    refine (split_one 47 s _ HE.out hs).mono ?_
    rintro e w' ⟨rfl, rfl⟩
    have hh := Lib.hid (holds_new w 9 (Wh.pieces 47 s))
    go_wp2_with fail
    go_ret
    exact ⟨_, _, rfl, Nat.le_refl _, hh.out, bAlloc (Below.refl _ _) _⟩
  · have e1 : Wh.namesOf s = [] := Wh.namesOf_none (by rw [← Lib.toList_data]; exact h0)
    rw [e1]
    clear e1
    go_enter Tryd.func76, Tryd.ntmps76
    go_wp2_with fail
    go_ret
    exact ⟨none, 0, rfl, Nat.le_refl _, .inl rfl, Below.refl _ _⟩

set_option maxHeartbeats 1000000 in
set_option maxRecDepth 100000 in
theorem refEncode_bad (x : Wh.Enc) (a : Option Addr) (c : Nat) (s : ByteArray) (w : World) (hE : Env w) (hs : s.size ≤ 9223372036854775807) (hp : Wh.isPath s.data.toList = false) :
    Calls Tryd.prog 56 #[encVal x a c, .string s] w fun e w' => e = .returned (.tuple #[.string ⟨#[]⟩, .int .i64 1]) ∧ Below w.heap.size w w' := by
  have HP := Lib.hid (fun W (hb : Below w.heap.size w W) => refIsPath_any s W (hE.under hb) hs)
  rw [hp] at HP
  clear hE hp
  unfold encVal
  go_enter Tryd.func56, Tryd.ntmps56
  go_wp2_with fail
  refine (HP.out _ (bAlloc (Below.refl _ _) _)).mono ?_
  rintro e w1 ⟨rfl, hb1⟩
  go_wp2_with fail
  go_ret2
  exact ⟨rfl, bTrans (bAlloc (Below.refl _ _) _) hb1⟩

theorem OwnS.cell {w0 wx : World} {g cap : Nat} {out : List ByteArray} {y : ByteArray} (h : OwnS w0 wx (some ⟨g, 0, none⟩) cap out) {k : Nat} (hk : out[k]? = some y) : wx.cell? ⟨g, k, none⟩ = some (.string y) := by
  obtain ⟨b, off, hb, _, hc⟩ := (Own.holds h).at (k := k) (u := .string y) (by simp [hk])
  injection hb with hb
  injection hb with h1 h2
  rw [← h1, ← h2, Nat.zero_add] at hc
  exact hc

theorem encs_len {x : Wh.Enc} {s e : ByteArray} (hp : Wh.isPath s.data.toList = true) (he : e ∈ Wh.encsOf x s) : e.size ≤ 765 := by
  unfold Wh.encsOf at he
  obtain ⟨n, hn, rfl⟩ := List.mem_map.1 he
  have h1 := Wh.name_size (List.all_eq_true.1 (Wh.namesOf_names hp) n hn)
  have h2 := (Wh.encFrom_length x (x.names.any (fun y => y.data.toList == Wh.lower n.data.toList)) n.data.toList.length 0 n.data.toList).2
  have e1 : (⟨(Wh.encName x n.data.toList).toArray⟩ : ByteArray).size = (Wh.encName x n.data.toList).length := by simp [ByteArray.size]
  rw [e1]
  unfold Wh.encName
  omega

theorem encJoin_len2 {x : Wh.Enc} {s : ByteArray} (hp : Wh.isPath s.data.toList = true) : (Wh.encJoin x s).length ≤ 1000000 := by
  have h0 := Wh.join_length 47 (Wh.encsOf x s)
  have h1 : ∀ l : List ByteArray, (∀ e ∈ l, e.size ≤ 765) → Wh.total l ≤ 766 * l.length := by
    intro l
    induction l with
    | nil => simp [Wh.total]
    | cons a l ih =>
      intro h
      have := h a (by simp)
      have := ih (fun e he => h e (by simp [he]))
      have e : Wh.total (a :: l) = a.size + 1 + Wh.total l := by simp [Wh.total]
      simp only [List.length_cons]
      omega
  have h2 := h1 (Wh.encsOf x s) (fun e he => encs_len hp he)
  have h3 := Wh.encsOf_length x s
  have h4 := Wh.namesOf_le s
  have h5 := Wh.path_size hp
  unfold Wh.encJoin
  omega

set_option maxHeartbeats 4000000 in
set_option maxRecDepth 100000 in
theorem refEncode_path (x : Wh.Enc) (a : Option Addr) (c : Nat) (s : ByteArray) (w : World) (hE : Env w) (hX : EncOk x a w) (hp : Wh.isPath s.data.toList = true) :
    Calls Tryd.prog 56 #[encVal x a c, .string s] w fun e w' => e = .returned (.tuple #[.string (Wh.encText x s), .int .i64 (Wh.encErrP x s)]) ∧ Below w.heap.size w w' := by
  have hsz := Wh.path_size hp
  have hnl := Wh.namesOf_le s
  have hyl := Wh.encsOf_length x s
  have HNm := Lib.hid (fun n (hn : n ∈ Wh.namesOf s) => show n.size ≤ 255 by
    have := List.all_eq_true.1 (Wh.namesOf_names hp) n hn
    rw [Lib.size_eq]
    exact Wh.name_size this)
  have HP := Lib.hid (fun W (hb : Below w.heap.size w W) => refIsPath_any s W (hE.under hb) (by omega))
  rw [hp] at HP
  have HEn := Lib.hid (fun n W (hb : Below w.heap.size w W) hn => encoded_any x a c n W (hX.under hb) hn)
  have HSp := Lib.hid (fun W (hb : Below w.heap.size w W) => refNamesOf_any s W (hE.under hb) (by omega))
  have HB := Lib.hid (encBox_new w 61 x a c)
  have HG := Lib.hid (fun n k (h : (Wh.namesOf s)[k]? = some n) => Wh.encsOf_at (x := x) h)
  have HL := Lib.hid (fun e (he : e ∈ Wh.encsOf x s) h => Wh.encP_long (x := x) (s := s) he h)
  have HBig := Lib.hid (fun h => Wh.encP_big (x := x) (s := s) h)
  have HGood := Lib.hid (fun h0 h => Wh.encP_good (x := x) (s := s) h0 h)
  have hjl := encJoin_len2 (x := x) hp
  have hj0 : Wh.encJoin x s = Lib.join ((Wh.encsOf x s).map (·.data.toList)) [47] := rfl
  have HJ0 := Lib.hid hj0
  have hmx := hX.max
  clear hj0 hE hX hp
  generalize Wh.encsOf x s = ys at *
  generalize Wh.encText x s = T at *
  generalize Wh.encErrP x s = E at *
  generalize Wh.encJoin x s = J at *
  unfold encVal at *
  have hb1 : Below w.heap.size w (w.alloc (.cells #[.string x.forbid, .string x.head, .string x.tail, .slice a x.names.length c, .bool x.cs, .int .i64 x.max] 61)) := bAlloc (Below.refl _ _) _
  go_enter Tryd.func56, Tryd.ntmps56
  go_wp2_with fail
  refine (HP.out _ hb1).mono ?_
  rintro e w2 ⟨rfl, hb2⟩
  generalize w.alloc (.cells #[.string x.forbid, .string x.head, .string x.tail, .slice a x.names.length c, .bool x.cs, .int .i64 x.max] 61) = w1 at *
  have HB2 := Lib.hid (HB.out.under hb2)
  have hb02 := bTrans hb1 hb2
  clear hb1 hb2 HB HP
  go_wp2_with fail
  refine (HSp.out _ hb02).mono ?_
  rintro e w3 ⟨a1, c1, rfl, hc1, hH, hb3⟩
  have HH := Lib.hid hH
  have HB3 := Lib.hid (HB2.out.under hb3)
  have hb03 := bTrans hb02 hb3
  clear hH HB2 hb02 hb3 HSp
  generalize Wh.namesOf s = ns at *
  go_wp2_with fail
  go_loopg [6, 16] ns.length (fun g s6 s16 wx => ∃ (k : Nat) (a' : Option Addr) (cap : Nat), k + g = ns.length ∧ s16 = .int .i64 k ∧ s6 = .slice a' k cap ∧
    Hid (OwnS w3 wx a' cap (ys.take k)) ∧ Hid (∀ (j : Nat) (e : ByteArray), j < k → ys[j]? = some e → Wh.longB x e = false))
  case atStart => exact ⟨0, none, 0, by omega, rfl, rfl, Lib.hid (by rw [List.take_zero]; exact OwnS.nil (Below.refl _ _)), Lib.hid (fun j e hj => absurd hj (by omega))⟩
  case round =>
    obtain ⟨k, a', cap, hk, rfl, rfl, HW, HLo⟩ := hrel
    have htl : (ys.take k).length = k := by rw [List.length_take]; omega
    by_cases hlt : k < ns.length
    · obtain ⟨g, rfl⟩ : ∃ g, gk = g + 1 := ⟨gk - 1, by omega⟩
      obtain ⟨n, hn⟩ : ∃ n, ns[k]? = some n := ⟨_, List.getElem?_eq_getElem hlt⟩
      obtain ⟨ba, off, ha, hba, hca⟩ := (HH.out.under HW.out.below).at (k := k) (u := .string n) (by simp [hn])
      have Hn := Lib.hid hn
      have Hy := Lib.hid (HG.out n k hn)
      have hns := HNm.out n (List.mem_of_getElem? hn)
      have HEx := Lib.hid (HEn.out n wr (bTrans hb03 HW.out.below) (by omega))
      clear hn hns
      subst ha
      generalize (⟨(Wh.encName x n.data.toList).toArray⟩ : ByteArray) = y at *
      obtain ⟨k0, k1, k2, k3, k4, k5, k6⟩ := HB3.out.under HW.out.below
      have HTL := Lib.hid htl
      clear htl
      go_wp2_with fail
      refine HEx.out.mono ?_
      rintro e w4 ⟨rfl, hb4⟩
      have hW4 : OwnS w3 w4 a' cap (ys.take k) := HW.out.under hb4
      have HW4 := Lib.hid hW4
      have hl1 : (ys.take k).length + 1 ≤ 8796093022208 := by rw [HTL.out]; omega
      have HS := Lib.hid HTL.out
      clear k0 k1 k2 k3 k4 k5 k6 hca hW4
      go_upto_region 8 with (at_builtin; refine wp_appS HW4.out y hl1 rfl (.tmp 20) (.tmp 24) rfl (by rw [HTL.out]; rfl) rfl ?_; rw [HTL.out])
      intro gb cap2 w5 hO5
      have hc5 := OwnS.cell (k := k) (y := y) hO5 (by rw [List.getElem?_append_right (Nat.le_of_eq HTL.out), HTL.out, Nat.sub_self]; rfl)
      have hsn : ys.take k ++ [y] = ys.take (k + 1) := by rw [List.take_add_one, Hy.out]; rfl
      rw [hsn] at hO5
      have HW5 := Lib.hid hO5
      obtain ⟨k0, k1, k2, k3, k4, k5, k6⟩ := HB3.out.under hO5.below
      clear k0 k1 k2 k3 k4 k5 hsn hO5
      go_upto_region 8 with fail
      have i1 : IntKind.i64.wrap ((k : Int) + 1 - 1) = (k : Int) := by rw [show (k : Int) + 1 - 1 = (k : Int) by omega]; exact IntWalk.i64_in _ (by omega)
      have i2 : (k : Int) < (k : Int) + 1 := by omega
      go_quiet (fail)
      clear i1 i2 hc5 k6
      have HW6 := Lib.hid (OwnS.under HW5.out (w' := w5.drewN nq) ⟨rfl, rfl, rfl, Nat.le_refl _, fun _ _ => rfl⟩)
      generalize w5.drewN nq = w6 at *
      have hlg0 : Wh.longB x y = decide (x.max < (y.size : Int)) := rfl
      have HLG := Lib.hid hlg0
      clear hlg0
      cases hlg : decide (x.max < (y.size : Int))
      · rw [hlg] at HLG
        have HLo2 : Hid (∀ (j : Nat) (e : ByteArray), j < k + 1 → ys[j]? = some e → Wh.longB x e = false) := Lib.hid (fun j e hj hje => by
          rcases Nat.lt_or_ge j k with h1 | h1
          · exact HLo.out j e h1 hje
          · obtain rfl : j = k := by omega
            rw [Hy.out] at hje
            cases hje
            exact HLG.out)
        clear hlg
        go_wp2_with fail
        go_roundg g
        case measure => omega
        case rel => exact ⟨k + 1, _, cap2, by omega, by go_num, rfl, HW6, HLo2⟩
      · rw [hlg] at HLG
        have HF := Lib.hid (HL.out y (List.mem_of_getElem? Hy.out) HLG.out)
        clear hlg
        go_wp2_with fail
        go_ret2
        rw [HF.out.1, HF.out.2]
        exact ⟨rfl, bTrans hb03 HW6.out.below⟩
    · obtain rfl : k = ns.length := by omega
      have hW := HW.out
      rw [List.take_of_length_le (by omega)] at hW
      have HLa : Hid (∀ e ∈ ys, Wh.longB x e = false) := Lib.hid (fun e he => by
        obtain ⟨j, hj⟩ := List.mem_iff_getElem?.1 he
        exact HLo.out j e (by have := (List.getElem?_eq_some_iff.1 hj).1; omega) hj)
      have hcap := Own.cap hW
      have hJo := join_any a' cap ys ⟨#[47]⟩ wr (Own.holds hW) (by omega) (by omega) (by have := HJ0.out; rw [show (⟨#[47]⟩ : ByteArray).data.toList = [47] from rfl, ← this]; omega)
      rw [show (⟨#[47]⟩ : ByteArray).data.toList = [47] from rfl, ← HJ0.out, hyl] at hJo
      have HJo := Lib.hid hJo
      have hb := hW.below
      clear hJo hW hcap htl
      have HG2 := Lib.hid (fun h => HGood.out HLa.out h)
      go_wp2_with fail
      refine HJo.out.mono ?_
      rintro e w4 ⟨rfl, hb4⟩
      have hsJ : (⟨J.toArray⟩ : ByteArray).size = J.length := by simp [ByteArray.size]
      have HsJ := Lib.hid hsJ
      clear hsJ
      by_cases hbig : 1024 < J.length
      · have HF := Lib.hid (HBig.out hbig)
        have hg : (1024 : Int) < ((⟨J.toArray⟩ : ByteArray).size : Int) := by rw [HsJ.out]; omega
        generalize (⟨J.toArray⟩ : ByteArray) = jt at *
        go_wp2_with fail
        go_ret2
        rw [HF.out.1, HF.out.2]
        exact ⟨rfl, bTrans (bTrans hb03 hb) hb4⟩
      · have HF := Lib.hid (HG2.out hbig)
        have hg : ¬ (1024 : Int) < ((⟨J.toArray⟩ : ByteArray).size : Int) := by rw [HsJ.out]; omega
        generalize (⟨J.toArray⟩ : ByteArray) = jt at *
        go_wp2_with fail
        go_ret2
        rw [HF.out.1, HF.out.2]
        exact ⟨rfl, bTrans (bTrans hb03 hb) hb4⟩
end Go.Proofs.YtbcadgooelcnhaaDoor
