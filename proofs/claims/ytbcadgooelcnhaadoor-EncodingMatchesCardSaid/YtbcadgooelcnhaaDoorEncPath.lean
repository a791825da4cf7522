/-
  names.encodePath, names.Encode, walked.
-/
import Derived.Test.YtbcadgooelcnhaaDoorEncName
import Derived.Test.YtbcadgooelcnhaaDoorPlainPath
import Derived.Deep.OwnRows
import Derived.BigQuiet
namespace Go.Proofs.YtbcadgooelcnhaaDoor
open Go.RowKit

/-- A block's first cells are these texts, and can be written. -/
def StrsAt (w : World) (b : Nat) (l : List ByteArray) : Prop := ∀ (j : Nat) (x : ByteArray), l[j]? = some x → w.cell? ⟨b, j, none⟩ = some (.string x) ∧ w.frozen? ⟨b, j, none⟩ = false

theorem StrsAt.set {w : World} {b k : Nat} {l : List ByteArray} (h : StrsAt w b l) (hk : k < l.length) (v : ByteArray) : StrsAt (w.setCell ⟨b, k, none⟩ (.string v)) b (l.set k v) := by
  intro j x hj
  obtain ⟨h1, h2⟩ := h k l[k] (List.getElem?_eq_getElem hk)
  by_cases e : k = j
  · subst e
    rw [List.getElem?_set_self (by simpa using hk)] at hj
    cases hj
    exact ⟨World.cell?_setCell_same _ _ _ h1, (World.frozen?_setCell ..).trans h2⟩
  · rw [List.getElem?_set_ne e] at hj
    obtain ⟨h3, h4⟩ := h j x hj
    exact ⟨(World.cell?_setCell_other _ _ _ _ (fun h => e (by injection h))).trans h3, (World.frozen?_setCell ..).trans h4⟩

theorem StrsAt.keep {w w' : World} {b B : Nat} {l : List ByteArray} (h : StrsAt w b l) (hb : Below B w w') (hB : b < B) : StrsAt w' b l := by
  intro j x hj
  obtain ⟨h1, h2⟩ := h j x hj
  exact ⟨(hb.cell (p := ⟨b, j, none⟩) hB).trans h1, (hb.frozen (p := ⟨b, j, none⟩) hB).trans h2⟩

theorem StrsAt.made (w : World) (t : TypeId) (n : Nat) : StrsAt (w.alloc (.cells (madeCells #[.string ByteArray.empty] n) t)) w.heap.size (List.replicate n ByteArray.empty) := by
  intro j x hj
  have hg := heap_alloc_new w (.cells (madeCells #[.string ByteArray.empty] n) t)
  obtain ⟨hjn, rfl⟩ : j < n ∧ ByteArray.empty = x := by
    rw [List.getElem?_replicate] at hj
    split at hj
    · exact ⟨by assumption, by simpa using hj⟩
    · simp at hj
  refine ⟨?_, ?_⟩
  · simp only [World.cell?, hg]
    rw [← Array.getElem?_toList, toList_madeCells_one, List.getElem?_replicate, if_pos hjn]
    rfl
  · simp only [World.frozen?, hg]
    simp

theorem StrsAt.holds {w : World} {b : Nat} {l : List ByteArray} (h : StrsAt w b l) (hb : b < w.heap.size) : Holds w (some ⟨b, 0, none⟩) (l.map Value.string) := by
  refine .inr ⟨b, 0, rfl, hb, fun j u hu => ?_⟩
  rw [Nat.zero_add]
  rw [List.getElem?_map] at hu
  cases hj : l[j]? with
  | none => rw [hj] at hu; simp at hu
  | some x =>
    rw [hj] at hu
    obtain rfl : Value.string x = u := by simpa using hu
    exact (h j x hj).1

/-- What is done, and what is still empty. -/
def part (ys : List ByteArray) (k : Nat) : List ByteArray := ys.take k ++ List.replicate (ys.length - k) ByteArray.empty

theorem part_zero (ys : List ByteArray) : part ys 0 = List.replicate ys.length ByteArray.empty := by simp [part]
theorem part_end (ys : List ByteArray) {k : Nat} (h : k = ys.length) : part ys k = ys := by subst h; simp [part]
theorem part_length (ys : List ByteArray) {k : Nat} (h : k ≤ ys.length) : (part ys k).length = ys.length := by simp [part]; omega
theorem part_set {ys : List ByteArray} {k : Nat} {y : ByteArray} (h : ys[k]? = some y) : (part ys k).set k y = part ys (k + 1) := by
  have hk := (List.getElem?_eq_some_iff.1 h).1
  unfold part
  have e : (ys.take k).length = k := by rw [List.length_take]; omega
  obtain ⟨m, hm⟩ : ∃ m, ys.length - k = m + 1 := ⟨ys.length - k - 1, by omega⟩
  have hm2 : ys.length - (k + 1) = m := by omega
  rw [hm, hm2, List.replicate_succ, List.set_append_right _ _ (by omega), e, Nat.sub_self, List.set_cons_zero, List.take_add_one, h, Option.toList_some, List.append_assoc]
  rfl
theorem part_get {ys : List ByteArray} {k : Nat} (h : k < ys.length) : (part ys k)[k]? = some ByteArray.empty := by
  unfold part
  have e : (ys.take k).length = k := by rw [List.length_take]; omega
  rw [List.getElem?_append_right (by omega), e, List.getElem?_replicate, if_pos (by omega)]

set_option maxHeartbeats 4000000 in
set_option maxRecDepth 100000 in
theorem encodePath_any (x : Wh.Enc) (a : Option Addr) (c : Nat) (s : ByteArray) (w : World) (hE : Env w) (hX : EncOk x a w) (he : Wh.encErr x = 0) (hp : Wh.isPath s.data.toList = true) :
    Calls Tryd.prog 88 #[encVal x a c, .string s] w fun e w' => e = .returned (.tuple #[.string (Wh.encText x s), .int .i64 (Wh.encErrP x s)]) ∧ Below w.heap.size w w' := by
  obtain ⟨hfo, hn0, hm3, hm255⟩ := Wh.encErr_zero he
  have hS := Wh.sorted_of hn0
  have hsz := Wh.path_size hp
  have hnl := Wh.namesOf_le s
  have hyl := Wh.encsOf_length x s
  have HNm := Lib.hid (fun n (hn : n ∈ Wh.namesOf s) => show n.size ≤ 255 by
    have := List.all_eq_true.1 (Wh.namesOf_names hp) n hn
    rw [Lib.size_eq]
    exact Wh.name_size this)
  have HEn := Lib.hid (fun n W (hb : Below w.heap.size w W) hn => encodeName_any x a c n W (hX.under hb) hn hS)
  have HSp := Lib.hid (fun W (hb : Below w.heap.size w W) => split_any s W (hE.under hb) (by omega))
  have hmk := fun W => run_make_row' (P := Tryd.prog) 48 9 (.string ByteArray.empty) 16 Tryd.underlying48 info_str rfl .i64 .i64 (Wh.namesOf s).length (by omega) (by omega) W
  have HB := Lib.hid (encBox_new w 61 x a c)
  have HG := Lib.hid (fun n k (h : (Wh.namesOf s)[k]? = some n) => Wh.encsOf_at (x := x) h)
  have HL := Lib.hid (fun e (he : e ∈ Wh.encsOf x s) h => Wh.encP_long (x := x) (s := s) he h)
  have HBig := Lib.hid (fun h => Wh.encP_big (x := x) (s := s) h)
  have HGood := Lib.hid (fun h0 h => Wh.encP_good (x := x) (s := s) h0 h)
  have HJl := Lib.hid (fun h => Wh.encJoin_len (x := x) (s := s) h)
  have hj0 : Wh.encJoin x s = Lib.join ((Wh.encsOf x s).map (·.data.toList)) [47] := rfl
  have HJ0 := Lib.hid hj0
  clear hfo hj0 hn0 hS hE hX he hp
  generalize Wh.encsOf x s = ys at *
  generalize Wh.encText x s = T at *
  generalize Wh.encErrP x s = E at *
  generalize Wh.encJoin x s = J at *
  unfold encVal at *
  have hb1 : Below w.heap.size w (w.alloc (.cells #[.string x.forbid, .string x.head, .string x.tail, .slice a x.names.length c, .bool x.cs, .int .i64 x.max] 61)) := bAlloc (Below.refl _ _) _
  go_enter Tryd.func88, Tryd.ntmps88
  go_wp2_with fail
  generalize w.alloc (.cells #[.string x.forbid, .string x.head, .string x.tail, .slice a x.names.length c, .bool x.cs, .int .i64 x.max] 61) = w1 at *
  refine (HSp.out _ hb1).mono ?_
  rintro e w2 ⟨a1, c1, rfl, hc1, hH, hb2⟩
  have HH := Lib.hid hH
  have HB2 := Lib.hid (HB.out.under hb2)
  have hb12 := bTrans hb1 hb2
  clear hH HB hb1 hb2 HSp
  generalize Wh.namesOf s = ns at *
  go_wp2_with fail
  have hA := StrsAt.made w2 9 ns.length
  have hbA : Below w2.heap.size w2 (w2.alloc (.cells (madeCells #[.string ByteArray.empty] ns.length) 9)) := bAlloc (Below.refl _ _) _
  have hA2 : w2.heap.size < (w2.alloc (.cells (madeCells #[.string ByteArray.empty] ns.length) 9)).heap.size := by simp
  rw [← hyl, ← part_zero] at hA
  rw [hyl] at hA
  have HA := Lib.hid hA
  clear hA hmk
  generalize w2.alloc (.cells (madeCells #[.string ByteArray.empty] ns.length) 9) = w3 at *
  go_loopg [18] ns.length (fun g s18 wx => ∃ k : Nat, k + g = ns.length ∧ s18 = .int .i64 k ∧ Below w2.heap.size w2 wx ∧ w2.heap.size < wx.heap.size ∧ Hid (StrsAt wx w2.heap.size (part ys k)) ∧ Hid (∀ (j : Nat) (e : ByteArray), j < k → ys[j]? = some e → Wh.longB x e = false))
  case atStart => exact ⟨0, by omega, rfl, hbA, hA2, HA, Lib.hid (fun j e hj => absurd hj (by omega))⟩
  case round =>
    clear hbA hA2 HA
    obtain ⟨k, hk, rfl, hb, hlt2, HSt, HLo⟩ := hrel
    by_cases hlt : k < ns.length
    · obtain ⟨g, rfl⟩ : ∃ g, gk = g + 1 := ⟨gk - 1, by omega⟩
      obtain ⟨n, hn⟩ : ∃ n, ns[k]? = some n := ⟨_, List.getElem?_eq_getElem hlt⟩
      obtain ⟨ba, off, ha, hba, hca⟩ := (HH.out.under hb).at (k := k) (u := .string n) (by simp [hn])
      have Hn := Lib.hid hn
      have Hy := Lib.hid (HG.out n k hn)
      have HEx := Lib.hid (HEn.out n wr (bTrans hb12 hb) (HNm.out n (List.mem_of_getElem? hn)))
      clear hn
      subst ha
      generalize (⟨(Wh.encName x n.data.toList).toArray⟩ : ByteArray) = y at *
      obtain ⟨k0, k1, k2, k3, k4, k5, k6⟩ := HB2.out.under hb
      go_wp2_with fail
      refine HEx.out.mono ?_
      rintro e w4 ⟨rfl, hb4⟩
      have hS4 := HSt.out.keep hb4 hlt2
      obtain ⟨hc4, hf4⟩ := hS4 k _ (part_get (by omega))
      have hS5 : StrsAt (w4.setCell ⟨w2.heap.size, k, none⟩ (.string y)) w2.heap.size (part ys (k + 1)) := by
        rw [← part_set Hy.out]
        exact hS4.set (by rw [part_length _ (by omega)]; omega) y
      have hc5 : (w4.setCell ⟨w2.heap.size, k, none⟩ (.string y)).cell? ⟨w2.heap.size, k, none⟩ = some (.string y) := World.cell?_setCell_same _ _ _ hc4
      have hb5 : Below w2.heap.size w2 (w4.setCell ⟨w2.heap.size, k, none⟩ (.string y)) := Below.setCell (p := ⟨w2.heap.size, k, none⟩) (hb.trans (hb4.mono (by omega))) (Nat.le_refl _) _
      have hz5 : w2.heap.size < (w4.setCell ⟨w2.heap.size, k, none⟩ (.string y)).heap.size := by
        have := hb4.size
        simp
        omega
      have HC5 := Lib.hid hc5
      have HS5 := Lib.hid hS5
      clear k0 k1 k2 k3 k4 k5 k6 hca hS4 hS5 hc5
      go_upto_region 7 with fail
      generalize w4.setCell ⟨w2.heap.size, k, none⟩ (.string y) = w5 at *
      obtain ⟨k0, k1, k2, k3, k4, k5, k6⟩ := HB2.out.under hb5
      clear k0 k1 k2 k3 k4 k5
      have hc5 := HC5.out
      go_quiet (fail)
      have hb6 : Below w2.heap.size w2 (w5.drewN nq) := ⟨hb5.os, hb5.tape, hb5.output, hb5.size, hb5.block⟩
      have hz6 : w2.heap.size < (w5.drewN nq).heap.size := hz5
      have HS6 : Hid (StrsAt (w5.drewN nq) w2.heap.size (part ys (k + 1))) := Lib.hid (fun j u hj => HS5.out j u hj)
      clear hc5 k6 hb5 hz5 HS5 HC5
      generalize w5.drewN nq = w6 at *
      have hlg0 : Wh.longB x y = decide (x.max < (y.size : Int)) := rfl
      have HLG := Lib.hid hlg0
      clear hlg0
      cases hlg : decide (x.max < (y.size : Int))
      · rw [hlg] at HLG
        have HLo2 : Hid (∀ (j : Nat) (e : ByteArray), j < k + 1 → ys[j]? = some e → Wh.longB x e = false) := Lib.hid (fun j e hj hje => by
          rcases Nat.lt_or_ge j k with h1 | h1
          · exact HLo.out j e h1 hje
          · obtain rfl : j = k := by omega
            rw [Hy.out] at hje
            cases hje
            exact HLG.out)
        clear hlg
        go_wp2_with fail
        go_roundg g
        case measure => omega
        case rel => exact ⟨k + 1, by omega, by go_num, hb6, hz6, HS6, HLo2⟩
      · rw [hlg] at HLG
        have HF := Lib.hid (HL.out y (List.mem_of_getElem? Hy.out) HLG.out)
        clear hlg
        go_wp2_with fail
        go_ret2
        rw [HF.out.1, HF.out.2]
        exact ⟨rfl, bTrans hb12 hb6⟩
    · obtain rfl : k = ns.length := by omega
      have hSt := HSt.out
      rw [part_end ys hyl.symm] at hSt
      have HLa : Hid (∀ e ∈ ys, Wh.longB x e = false) := Lib.hid (fun e he => by
        obtain ⟨j, hj⟩ := List.mem_iff_getElem?.1 he
        exact HLo.out j e (by have := (List.getElem?_eq_some_iff.1 hj).1; omega) hj)
      have hjl := HJl.out (fun e he => by
        have h1 := HLa.out e he
        have h2 : ¬ (x.max < (e.size : Int)) := by simpa [Wh.longB] using h1
        omega)
      have hJo := join_any (some ⟨w2.heap.size, 0, none⟩) ns.length ys ⟨#[47]⟩ wr (hSt.holds hlt2) (by omega) (by omega) (by have := HJ0.out; rw [show (⟨#[47]⟩ : ByteArray).data.toList = [47] from rfl, ← this]; omega)
      rw [show (⟨#[47]⟩ : ByteArray).data.toList = [47] from rfl, ← HJ0.out, hyl] at hJo
      have HJo := Lib.hid hJo
      clear hJo hSt
      have HG2 := Lib.hid (fun h => HGood.out HLa.out h)
      go_wp2_with fail
      refine HJo.out.mono ?_
      rintro e w4 ⟨rfl, hb4⟩
      have hsJ : (⟨J.toArray⟩ : ByteArray).size = J.length := by simp [ByteArray.size]
      have HsJ := Lib.hid hsJ
      clear hsJ
      by_cases hbig : 1024 < J.length
      · have HF := Lib.hid (HBig.out hbig)
        have hg : (1024 : Int) < ((⟨J.toArray⟩ : ByteArray).size : Int) := by rw [HsJ.out]; omega
        generalize (⟨J.toArray⟩ : ByteArray) = jt at *
        go_wp2_with fail
        go_ret2
        rw [HF.out.1, HF.out.2]
        exact ⟨rfl, bTrans (bTrans hb12 hb) hb4⟩
      · have HF := Lib.hid (HG2.out hbig)
        have hg : ¬ (1024 : Int) < ((⟨J.toArray⟩ : ByteArray).size : Int) := by rw [HsJ.out]; omega
        generalize (⟨J.toArray⟩ : ByteArray) = jt at *
        go_wp2_with fail
        go_ret2
        rw [HF.out.1, HF.out.2]
        exact ⟨rfl, bTrans (bTrans hb12 hb) hb4⟩
end Go.Proofs.YtbcadgooelcnhaaDoor
