/-
  The texts Mat1, Mat2, Mat3, Mat4, Mat5, Mat6, in one.
-/
import Derived.Test.YtnpcbcnclncniaaDoorGlobM1
import Derived.Test.YtnpcbcnclncniaaDoorGlobP2
import Derived.Test.YtnpcbcnclncniaaDoorOwn
import Derived.IntWalk
namespace Go.Proofs.YtnpcbcnclncniaaDoor
open Go.RowKit

theorem elem_places : ElemOk Tryd.prog 97 4 (.bool false) 1 := by
  obtain ⟨i0, hi, hz0, hz1, hz2⟩ := info_parts (show (Tryd.prog.info? 4).map (fun i => (i.zero, i.size, i.bytes)) = some (some (.bool false), 1, 1) by kernel_rfl)
  exact ⟨i0, Tryd.underlying97, hi, hz0, hz1, hz2, rfl⟩
theorem elem_bools : ElemOk Tryd.prog 75 4 (.bool false) 1 := by
  obtain ⟨i0, hi, hz0, hz1, hz2⟩ := info_parts (show (Tryd.prog.info? 4).map (fun i => (i.zero, i.size, i.bytes)) = some (some (.bool false), 1, 1) by kernel_rfl)
  exact ⟨i0, Tryd.underlying75, hi, hz0, hz1, hz2, rfl⟩
theorem zero_cellsU (n : Nat) : madeCells #[Value.bool false] n = Array.replicate n (Value.bool false) := by
  apply Array.toList_inj.1
  rw [toList_madeCells_one]
  simp
theorem make_of {t : TypeId} (hE : ElemOk Tryd.prog t 4 (.bool false) 1) (n : Nat) (w : World) (hn : n ≤ 1000000) :
    (Instr.makeSlice t (.int .i64 n) (.int .i64 n)).run Tryd.prog w = .ok (.slice (some ⟨w.heap.size, 0, none⟩) n n) (w.alloc (.cells (Array.replicate n (Value.bool false)) 4)) := by
  obtain ⟨i, ht, hi, hz0, hz1, hz2, hz3⟩ := hE
  have h := run_makeSlice (P := Tryd.prog) w t 4 i (.bool false) ht hi hz0 .i64 .i64 n n (by omega) (by omega) (by rw [hz1]; omega) (by rw [hz2]; omega) (by omega)
  rw [hz1] at h
  simp only [Int.toNat_natCast, Nat.mul_one] at h
  have hc : (Value.bool false).cells = #[Value.bool false] := rfl
  rw [hc, zero_cellsU] at h
  exact h

/-- A block of truths. -/
def RowU (w : World) (g : Nat) (bs : List Bool) : Prop := w.heap[g]? = some (.cells (bs.map Value.bool).toArray 4 (0, 0))
theorem RowU.lt {w : World} {g : Nat} {bs : List Bool} (h : RowU w g bs) : g < w.heap.size := (Array.getElem?_eq_some_iff.1 h).1
theorem RowU.under {w w' : World} {g : Nat} {bs : List Bool} (h : RowU w g bs) (hb : Below w.heap.size w w') : RowU w' g bs := by
  unfold RowU
  rw [hb.block g h.lt]
  exact h
theorem RowU.cell {w : World} {g : Nat} {bs : List Bool} (h : RowU w g bs) {i : Nat} {b : Bool} (hi : bs[i]? = some b) : w.cell? ⟨g, i, none⟩ = some (.bool b) ∧ w.frozen? ⟨g, i, none⟩ = false := by
  constructor
  · rw [Lib.cell_of_heap h]
    simp [hi]
  · exact Lib.frozen_of_heap h i
theorem RowU.set {w : World} {g : Nat} {bs : List Bool} (h : RowU w g bs) (i : Nat) (v : Bool) : RowU (w.setCell ⟨g, i, none⟩ (.bool v)) g (bs.set i v) := by
  unfold RowU at *
  simp [World.setCell, Array.getElem?_modify, h, List.map_set]
theorem RowU.new (w : World) (n : Nat) : RowU (w.alloc (.cells (Array.replicate n (Value.bool false)) 4)) w.heap.size (List.replicate n false) := by
  unfold RowU
  rw [heap_alloc_new]
  congr 2
  apply Array.toList_inj.1
  simp
theorem RowU.holds {w : World} {g : Nat} {bs : List Bool} (h : RowU w g bs) : Holds w (some ⟨g, 0, none⟩) (bs.map Value.bool) := by
  refine .inr ⟨g, 0, rfl, h.lt, fun j u hu => ?_⟩
  rw [Nat.zero_add, Lib.cell_of_heap h]
  simpa using hu

/-- A range that takes a byte. -/
def rgHas (c : Int) (r : Int × Int) : Bool := decide (r.1 ≤ c) && decide (c ≤ r.2)
theorem inRg_eq (l : List (Int × Int)) (c : Int) : inRg l c = l.any (rgHas c) := rfl

set_option maxHeartbeats 1000000 in
set_option maxRecDepth 100000 in
theorem inRanges_any (s : Sl (Int × Int)) (c : UInt8) (w : World) (hs : SlHolds w 2 rgCells s) (hl : s.xs.length ≤ 1048576) :
    Calls Tryd.prog 119 #[.slice s.a s.xs.length s.c, .int .u8 c.toNat] w fun e w' => e = .returned (.bool (inRg s.xs c.toNat)) ∧ Below w.heap.size w w' := by
  have HS := Lib.hid hs
  have HE : Hid (inRg s.xs c.toNat = (s.xs.drop 0).any (rgHas c.toNat)) := Lib.hid rfl
  generalize inRg s.xs c.toNat = E at *
  clear hs
  have hc := c.toNat_lt
  generalize hcn : c.toNat = cn at *
  clear hcn
  obtain ⟨sa, sc, xs⟩ := s
  simp only [] at *
  go_enter Tryd.func119, Tryd.ntmps119
  go_wp2_with fail
  go_loopg [9] xs.length (fun g i wx => ∃ k : Nat, k + g = xs.length ∧ i = .int .i64 k ∧ Below w.heap.size w wx ∧ Hid (E = (xs.drop k).any (rgHas cn)))
  case atStart => exact ⟨0, by omega, rfl, Below.refl _ _, HE⟩
  case round =>
    clear HE
    obtain ⟨k, hk, rfl, hb, HE⟩ := hrel
    by_cases hlt : k < xs.length
    · obtain ⟨g, rfl⟩ : ∃ g, gk = g + 1 := ⟨gk - 1, by omega⟩
      obtain ⟨⟨x, y⟩, hx⟩ : ∃ r : Int × Int, xs[k]? = some r := ⟨_, List.getElem?_eq_getElem hlt⟩
      obtain ⟨ba, off, ha, hba, r0, r1⟩ := pairRow (HS.out.under hb) hx
      rw [any_step hx] at HE
      have HR : Hid (rgHas cn (x, y) = (decide (x ≤ (cn : Int)) && decide ((cn : Int) ≤ y))) := Lib.hid rfl
      generalize rgHas cn (x, y) = R at *
      simp only [] at ha r0 r1
      subst ha
      have hbx := bAlloc (Below.refl wr.heap.size wr) (.cells #[.int .i64 x, .int .i64 y] 67)
      have HX5 := Lib.hid (BoxIs.new wr #[.int .i64 x, .int .i64 y] 67)
      have hb5 := bTrans hb hbx
      clear hx hbx
      go_upto_region 4 with fail
      generalize wr.alloc _ = w5 at *
      clear r0 r1
      obtain ⟨q0, q1, q2⟩ := HX5.out.pair
      by_cases d1 : x ≤ (cn : Int)
      · by_cases d2 : (cn : Int) ≤ y
        · have HT : Hid (E = true) := Lib.hid (by rw [HE.out, HR.out, decide_eq_true d1, decide_eq_true d2]; rfl)
          clear HE HR
          go_wp2_with fail
          go_ret
          exact ⟨ret_bool HT.out.symm, hb5⟩
        · have HT : Hid (E = (xs.drop (k + 1)).any (rgHas cn)) := Lib.hid (by rw [HE.out, HR.out, decide_eq_false d2, Bool.and_false, Bool.false_or])
          clear HE HR
          go_wp2_with fail
          go_roundg g
          case measure => omega
          case rel => exact ⟨k + 1, by omega, by go_num, hb5, HT⟩
      · have HT : Hid (E = (xs.drop (k + 1)).any (rgHas cn)) := Lib.hid (by rw [HE.out, HR.out, decide_eq_false d1, Bool.false_and, Bool.false_or])
        clear HE HR
        go_wp2_with fail
        go_roundg g
        case measure => omega
        case rel => exact ⟨k + 1, by omega, by go_num, hb5, HT⟩
    · have HT : Hid (E = false) := Lib.hid (by rw [HE.out, List.drop_of_length_le (by omega)]; rfl)
      go_wp2_with fail
      go_ret
      exact ⟨ret_bool HT.out.symm, hb⟩

set_option maxHeartbeats 2000000 in
set_option maxRecDepth 100000 in
theorem oneByte_any {α : Type} (q : PartOf α) (c : UInt8) (w : World) (hs : SlHolds w 2 rgCells q.rg) (hl : q.rg.xs.length ≤ 1048576) :
    Calls Tryd.prog 105 #[partVal q, .int .u8 c.toNat] w fun e w' => e = .returned (.bool (oneB q c)) ∧ Below w.heap.size w w' := by
  have hb1 := bAlloc (Below.refl w.heap.size w) (.cells (partArr q) 64)
  have HQ := Lib.hid (BoxIs.new w (partArr q) 64)
  have HI := Lib.hid (fun W (hb : Below w.heap.size w W) => inRanges_any q.rg c W (hs.under hb) hl)
  have HE : Hid (oneB q c = (c != 47 && (q.kind == 2 || (inRg q.rg.xs c.toNat != q.neg)))) := Lib.hid rfl
  generalize oneB q c = E at *
  generalize inRg q.rg.xs c.toNat = I at *
  clear hs
  obtain ⟨kind, text, neg, ⟨ra, rc, rxs⟩, ⟨wa, wcap, wxs⟩⟩ := q
  simp only [] at *
  go_enter Tryd.func105, Tryd.ntmps105
  go_upto_region 1 with fail
  generalize w.alloc _ = w1 at *
  obtain ⟨p0, p1, p2, p3, p4, p5⟩ := HQ.out.part (p := (⟨kind, text, neg, ⟨ra, rc, rxs⟩, ⟨wa, wcap, wxs⟩⟩ : PartOf α))
  simp only [] at p1 p3 p4
  by_cases hc : c = 47
  · have e1 : ((c.toNat : Int) != 47) = false := by rw [hc]; rfl
    have HT : Hid (E = false) := Lib.hid (by rw [HE.out, hc]; rfl)
    clear hc HE
    go_quiet (fail)
    go_wp2_with fail
    go_ret
    exact ⟨ret_bool HT.out.symm, bDrewN hb1 _⟩
  have e1 : ((c.toNat : Int) != 47) = true := by
    have : c.toNat ≠ 47 := fun e => hc (UInt8.toNat_inj.1 (by simpa using e))
    simp only [bne_iff_ne, ne_eq]
    omega
  have hc2 : (c != 47) = true := by simpa using hc
  rw [hc2, Bool.true_and] at HE
  clear hc hc2
  cases k2 : (kind == 2)
  case true =>
    have HT : Hid (E = true) := Lib.hid (by rw [HE.out, k2]; rfl)
    clear HE
    go_quiet (fail)
    go_wp2_with fail
    go_ret
    exact ⟨ret_bool HT.out.symm, bDrewN hb1 _⟩
  have HT : Hid (E = (I != neg)) := Lib.hid (by rw [HE.out, k2]; rfl)
  clear HE p2 p5
  go_region_held3 (fun w' => w'.cell? ⟨w.heap.size, 0, none⟩ = some (.int .i64 kind) ∧ w'.cell? ⟨w.heap.size, 3, none⟩ = some (.slice ra rxs.length rc) ∧ w'.cell? ⟨w.heap.size, 2, none⟩ = some (.bool neg))
    (first | go_keep | exact ⟨(hb3.cell (p := ⟨w.heap.size, 0, none⟩) p0).trans p1, (hb3.cell (p := ⟨w.heap.size, 3, none⟩) p0).trans p4, (hb3.cell (p := ⟨w.heap.size, 2, none⟩) p0).trans p3⟩)
    ((go_at_call 119; refine (HI.out w1.drew ⟨hb1.os, hb1.tape, hb1.output, hb1.size, hb1.block⟩).mono ?_; rintro e w3 ⟨rfl, hb3⟩))
  go_wp2_with fail
  go_ret
  exact ⟨ret_bool (by rw [HT.out]; cases I <;> cases neg <;> rfl), bTrans hb1 ⟨hb3.os, hb3.tape, hb3.output, hb3.size, hb3.block⟩⟩
end Go.Proofs.YtnpcbcnclncniaaDoor
namespace Go.Proofs.YtnpcbcnclncniaaDoor
open Go.RowKit

/-- What a loop over the places has marked so far. -/
def Marks (r : Nat → Nat → Prop) (frm : List Bool) (k : Nat) (tos : List Bool) : Prop := tos.length = frm.length ∧ ∀ j, tos[j]? = some true ↔ ∃ i, i < k ∧ frm[i]? = some true ∧ r i j
theorem Marks.start (r : Nat → Nat → Prop) (frm : List Bool) : Marks r frm 0 (List.replicate frm.length false) := by
  refine ⟨by simp, fun j => ⟨fun h => ?_, fun ⟨i, hi, _⟩ => absurd hi (Nat.not_lt_zero _)⟩⟩
  rw [List.getElem?_replicate] at h
  split at h <;> simp at h
theorem Marks.skip {r : Nat → Nat → Prop} {frm tos : List Bool} {k : Nat} (h : Marks r frm k tos) (hn : frm[k]? = some true → ∀ j, ¬ r k j) : Marks r frm (k + 1) tos := by
  refine ⟨h.1, fun j => (h.2 j).trans ⟨fun ⟨i, hi, hf, hr⟩ => ⟨i, by omega, hf, hr⟩, fun ⟨i, hi, hf, hr⟩ => ?_⟩⟩
  by_cases e : i = k
  · subst e
    exact absurd hr (hn hf j)
  · exact ⟨i, by omega, hf, hr⟩
theorem Marks.set {r : Nat → Nat → Prop} {frm tos : List Bool} {k m : Nat} (h : Marks r frm k tos) (hk : frm[k]? = some true) (hm : m < frm.length) (hr : ∀ j, r k j ↔ j = m) : Marks r frm (k + 1) (tos.set m true) := by
  refine ⟨by rw [List.length_set]; exact h.1, fun j => ?_⟩
  rw [List.getElem?_set]
  by_cases e : m = j
  · subst e
    rw [if_pos rfl, if_pos (by rw [h.1]; exact hm)]
    exact ⟨fun _ => ⟨k, by omega, hk, (hr m).2 rfl⟩, fun _ => rfl⟩
  · rw [if_neg e, h.2 j]
    constructor
    · rintro ⟨i, hi, hf, hr'⟩
      exact ⟨i, by omega, hf, hr'⟩
    · rintro ⟨i, hi, hf, hr'⟩
      by_cases e2 : i = k
      · subst e2
        exact absurd ((hr j).1 hr').symm e
      · exact ⟨i, by omega, hf, hr'⟩
theorem Marks.done {r : Nat → Nat → Prop} {frm tos : List Bool} (h : Marks r frm frm.length tos) : Leads r frm tos :=
  ⟨h.1, fun j => (h.2 j).trans ⟨fun ⟨i, _, hf, hr⟩ => ⟨i, hf, hr⟩, fun ⟨i, hf, hr⟩ => ⟨i, (List.getElem?_eq_some_iff.1 hf).1, hf, hr⟩⟩⟩

theorem BoxIs.setOther {w : World} {b g : Nat} {vs : Array Value} {t : TypeId} (h : BoxIs w b vs t) (hne : b ≠ g) (i : Nat) (v : Value) : BoxIs (w.setCell ⟨g, i, none⟩ v) b vs t := by
  unfold BoxIs
  rw [Below.heap_setCell _ _ _ _ (fun e => hne e)]
  exact h
theorem RowU.setOther {w : World} {b g : Nat} {bs : List Bool} (h : RowU w b bs) (hne : b ≠ g) (i : Nat) (v : Value) : RowU (w.setCell ⟨g, i, none⟩ v) b bs := by
  unfold RowU
  rw [Below.heap_setCell _ _ _ _ (fun e => hne e)]
  exact h

/-- What a part's places are, behind a call. -/
def PassRes (r : Nat → Nat → Prop) (frm : List Bool) (w : World) (e : Ending) (w' : World) : Prop :=
  ∃ g tos, e = .returned (.slice (some ⟨g, 0, none⟩) frm.length frm.length) ∧ w.heap.size ≤ g ∧ RowU w' g tos ∧ Leads r frm tos ∧ Below w.heap.size w w'
/-- The rows of a call of pass. -/
def PassAt {α : Type} (w : World) (q : PartOf α) (z : Nat) (frm tos : List Bool) (wx : World) : Prop :=
  BoxIs wx z (partArr q) 64 ∧ RowU wx (z + 1) tos ∧ Below w.heap.size w wx ∧ tos.length = frm.length
theorem PassAt.under {α : Type} {w wx w' : World} {q : PartOf α} {z : Nat} {frm tos : List Bool} (h : PassAt w q z frm tos wx) (hb : Below wx.heap.size wx w') : PassAt w q z frm tos w' :=
  ⟨h.1.under hb, h.2.1.under hb, bTrans h.2.2.1 hb, h.2.2.2⟩
theorem PassAt.drewN {α : Type} {w wx : World} {q : PartOf α} {z : Nat} {frm tos : List Bool} (h : PassAt w q z frm tos wx) (n : Nat) : PassAt w q z frm tos (wx.drewN n) :=
  ⟨h.1.under (bDrewN (Below.refl _ _) n), h.2.1.under (bDrewN (Below.refl _ _) n), bDrewN h.2.2.1 n, h.2.2.2⟩
theorem PassAt.set {α : Type} {w wx : World} {q : PartOf α} {frm tos : List Bool} (h : PassAt w q w.heap.size frm tos wx) (i : Nat) (v : Bool) : PassAt w q w.heap.size frm (tos.set i v) (wx.setCell ⟨w.heap.size + 1, i, none⟩ (.bool v)) :=
  ⟨h.1.setOther (by omega) _ _, h.2.1.set i v, h.2.2.1.setCell (p := ⟨w.heap.size + 1, i, none⟩) (Nat.le_succ _) _, by rw [List.length_set]; exact h.2.2.2⟩

theorem ret_slc {a : Option Addr} {n m : Nat} (h : n = m) : Ending.returned (.slice a n n) = .returned (.slice a m m) := by rw [h]
theorem ext_eq (s t : ByteArray) (k e : Nat) (he : k + t.size = e) : ((s.extract k e).toList == t.toList) = true ↔ (s.data.toList.drop k).take t.size = t.data.toList := by
  rw [Lib.toList_data, Lib.toList_data, beq_iff_eq, Lib.extract_data, show e - k = t.size by omega]

set_option maxHeartbeats 4000000 in
set_option maxRecDepth 100000 in
theorem pass_text (n : Nat) (q : PartOf (P n)) (s : ByteArray) (frm : List Bool) (a : Option Addr) (c : Nat) (w : World) (hk1 : q.kind = 1) (hN : frm.length = s.size + 1) (hs : s.size ≤ 100000) (hts : q.text.size ≤ 1048576) (hF : Holds w a (frm.map Value.bool)) :
    Calls Tryd.prog 96 #[partVal q, .string s, .slice a frm.length c] w (PassRes (PR s.data.toList n q) frm w) := by
  have HF := Lib.hid hF
  have hmk := fun W => make_of elem_places frm.length W (by omega)
  have HPA : Hid (PassAt w q w.heap.size frm (List.replicate frm.length false) ((w.alloc (.cells (partArr q) 64)).alloc (.cells (Array.replicate frm.length (Value.bool false)) 4))) := Lib.hid (by
    refine ⟨(BoxIs.new w _ _).under (bAlloc (Below.refl _ _) _), ?_, bAlloc (bAlloc (Below.refl _ _) _) _, by simp⟩
    have := RowU.new (w.alloc (.cells (partArr q) 64)) frm.length
    rwa [show (w.alloc (.cells (partArr q) 64)).heap.size = w.heap.size + 1 by simp] at this)
  have HM : Hid (Marks (PR s.data.toList n q) frm 0 (List.replicate frm.length false)) := Lib.hid (Marks.start _ _)
  have HPR : Hid (∀ i j, PR s.data.toList n q i j ↔ (j = i + q.text.size ∧ j ≤ s.data.toList.length ∧ (s.data.toList.drop i).take q.text.size = q.text.data.toList)) := Lib.hid (fun i j => by
    unfold PR PRel
    rw [if_pos hk1])
  generalize PR s.data.toList n q = R at *
  clear hF
  obtain ⟨kind, text, neg, rg, wys⟩ := q
  simp only [] at *
  subst hk1
  obtain ⟨N, hN0⟩ : ∃ N, frm.length = N := ⟨_, rfl⟩
  have HN := Lib.hid hN0
  have hN1 : N ≤ s.size + 1 := by omega
  have hN2 : s.size < N := by omega
  rw [hN0] at hmk HPA HM
  rw [hN0]
  clear hN hN0
  go_enter Tryd.func96, Tryd.ntmps96
  go_upto_region 2 with fail
  generalize (w.alloc _).alloc _ = w1 at *
  obtain ⟨p0, p1, p2, p3, p4, p5⟩ := HPA.out.1.part (p := (⟨1, text, neg, rg, wys⟩ : PartOf (P n)))
  simp only [] at p1
  clear p2 p3 p4 p5 hmk
  go_wp2_with fail
  go_loopg [28] N (fun g i wx => ∃ (k : Nat) (tos : List Bool), k + g = N ∧ i = .int .i64 k ∧ Hid (PassAt w (⟨1, text, neg, rg, wys⟩ : PartOf (P n)) w.heap.size frm tos wx) ∧ Hid (Marks R frm k tos))
  case atStart => exact ⟨0, _, by omega, rfl, HPA, HM⟩
  case round =>
    clear HPA HM p0 p1
    obtain ⟨k, tos, hk, rfl, HPA, HM⟩ := hrel
    obtain ⟨p0, p1, p2, p3, p4, p5⟩ := HPA.out.1.part (p := (⟨1, text, neg, rg, wys⟩ : PartOf (P n)))
    simp only [] at p2
    clear p1 p3 p4 p5
    by_cases hlt : k < N
    · obtain ⟨g, rfl⟩ : ∃ g, gk = g + 1 := ⟨gk - 1, by omega⟩
      obtain ⟨b, hb⟩ : ∃ b, frm[k]? = some b := ⟨_, List.getElem?_eq_getElem (by rw [HN.out]; exact hlt)⟩
      obtain ⟨ba, off, ha, hba, hca⟩ := (HF.out.under HPA.out.2.2.1).at (k := k) (u := .bool b) (by rw [List.getElem?_map, hb]; rfl)
      have HB := Lib.hid hb
      subst ha
      clear hb
      go_upto_region 7 with fail
      cases b
      · have HM2 : Hid (Marks R frm (k + 1) tos) := Lib.hid (HM.out.skip (fun h => by rw [HB.out] at h; cases h))
        go_quiet (fail)
        go_wp2_with fail
        go_roundg g
        case measure => omega
        case rel => exact ⟨k + 1, tos, by omega, by go_num, Lib.hid (HPA.out.drewN _), HM2⟩
      · obtain ⟨d, hd⟩ : ∃ d : Nat, s.size - k = d := ⟨_, rfl⟩
        have w1 : IntKind.i64.wrap ((s.size : Int) - (k : Int)) = (d : Int) := by rw [IntWalk.i64_in _ (by omega)]; omega
        by_cases hle : text.size ≤ d
        · obtain ⟨e, he⟩ : ∃ e : Nat, k + text.size = e := ⟨_, rfl⟩
          have w2 : IntKind.i64.wrap ((k : Int) + (text.size : Int)) = (e : Int) := by rw [IntWalk.i64_in _ (by omega)]; omega
          have hle2 : decide (text.size ≤ d) = true := decide_eq_true hle
          have hb1 : (0 : Int) ≤ (k : Int) := by omega
          have hb2 : (k : Int) ≤ (e : Int) := by omega
          have hb3 : (e : Int) ≤ (s.size : Int) := by omega
          have He := Lib.hid he
          have hx := ext_eq s text k e he
          obtain ⟨x, htx⟩ : ∃ x, tos[e]? = some x := ⟨_, List.getElem?_eq_getElem (by rw [HPA.out.2.2.2, HN.out]; omega)⟩
          obtain ⟨f1, f2⟩ := HPA.out.2.1.cell htx
          have hb4 : (e : Int) < (N : Int) := by omega
          have HR := Lib.hid (HPR.out k)
          clear hd he hle htx
          cases hq : ((s.extract k e).toList == text.toList)
          · have HM2 : Hid (Marks R frm (k + 1) tos) := Lib.hid (HM.out.skip (fun _ j h => by
              have h3 := ((HR.out j).1 h).2.2
              rw [hx.2 h3] at hq
              cases hq))
            clear hx f1 f2
            go_quiet (fail)
            go_wp2_with fail
            go_roundg g
            case measure => omega
            case rel => exact ⟨k + 1, tos, by omega, by go_num, Lib.hid (HPA.out.drewN _), HM2⟩
          · have HM2 : Hid (Marks R frm (k + 1) (tos.set e true)) := Lib.hid (HM.out.set HB.out (by rw [HN.out]; omega) (fun j => (HR.out j).trans ⟨fun h => h.1.trans He.out, fun h => ⟨h.trans He.out.symm, by rw [h, ← Lib.size_eq]; omega, hx.1 hq⟩⟩))
            clear hx
            go_quiet (fail)
            go_wp2_with fail
            go_roundg g
            case measure => omega
            case rel => exact ⟨k + 1, tos.set e true, by omega, by go_num, Lib.hid (PassAt.set (HPA.out.drewN _) e true), HM2⟩
        · have HM2 : Hid (Marks R frm (k + 1) tos) := Lib.hid (HM.out.skip (fun _ j h => by
            obtain ⟨h1, h2, _⟩ := (HPR.out k j).1 h
            rw [← Lib.size_eq] at h2
            omega))
          have hle2 : decide (text.size ≤ d) = false := decide_eq_false hle
          clear hd hle
          go_quiet (fail)
          go_wp2_with fail
          go_roundg g
          case measure => omega
          case rel => exact ⟨k + 1, tos, by omega, by go_num, Lib.hid (HPA.out.drewN _), HM2⟩
    · obtain rfl : k = N := by omega
      have HL : Hid (Leads R frm tos) := Lib.hid (Marks.done (by rw [HN.out]; exact HM.out))
      clear HM
      go_wp2_with fail
      go_ret
      exact ⟨w.heap.size + 1, tos, ret_slc HN.out.symm, Nat.le_succ _, HPA.out.2.1, HL.out, HPA.out.2.2.1⟩
end Go.Proofs.YtnpcbcnclncniaaDoor
namespace Go.Proofs.YtnpcbcnclncniaaDoor
open Go.RowKit

set_option maxHeartbeats 4000000 in
set_option maxRecDepth 100000 in
theorem pass_one (n : Nat) (q : PartOf (P n)) (s : ByteArray) (frm : List Bool) (a : Option Addr) (c : Nat) (w : World) (hk1 : q.kind = 2 ∨ q.kind = 5) (hN : frm.length = s.size + 1) (hs : s.size ≤ 100000) (hrg : SlHolds w 2 rgCells q.rg) (hrl : q.rg.xs.length ≤ 1048576) (hF : Holds w a (frm.map Value.bool)) :
    Calls Tryd.prog 96 #[partVal q, .string s, .slice a frm.length c] w (PassRes (PR s.data.toList n q) frm w) := by
  have HF := Lib.hid hF
  have hmk := fun W => make_of elem_places frm.length W (by omega)
  have HPA : Hid (PassAt w q w.heap.size frm (List.replicate frm.length false) ((w.alloc (.cells (partArr q) 64)).alloc (.cells (Array.replicate frm.length (Value.bool false)) 4))) := Lib.hid (by
    refine ⟨(BoxIs.new w _ _).under (bAlloc (Below.refl _ _) _), ?_, bAlloc (bAlloc (Below.refl _ _) _) _, by simp⟩
    have := RowU.new (w.alloc (.cells (partArr q) 64)) frm.length
    rwa [show (w.alloc (.cells (partArr q) 64)).heap.size = w.heap.size + 1 by simp] at this)
  have HM : Hid (Marks (PR s.data.toList n q) frm 0 (List.replicate frm.length false)) := Lib.hid (Marks.start _ _)
  have HPR : Hid (∀ i j, PR s.data.toList n q i j ↔ (j = i + 1 ∧ ∃ c, s.data.toList[i]? = some c ∧ oneB q c = true)) := Lib.hid (fun i j => by
    unfold PR PRel
    rw [if_neg (by omega), if_pos hk1])
  have HO := Lib.hid (fun ch W (hb : Below w.heap.size w W) => oneByte_any q ch W (hrg.under hb) hrl)
  generalize hq : PR s.data.toList n q = R at *
  have HOB := Lib.hid (fun ch => (⟨oneB q ch, rfl⟩ : ∃ B, oneB q ch = B))
  clear hF hrg hq
  obtain ⟨kind, text, neg, ⟨ra, rc, rxs⟩, ⟨wa, wcap, wxs⟩⟩ := q
  simp only [] at *
  obtain ⟨N, hN0⟩ : ∃ N, frm.length = N := ⟨_, rfl⟩
  have HN := Lib.hid hN0
  have hN1 : N ≤ s.size + 1 := by omega
  have hN2 : s.size < N := by omega
  rw [hN0] at hmk HPA HM
  rw [hN0]
  clear hN hN0
  have hkind : (kind == 1) = false ∧ ((kind == 2) = true ∨ ((kind == 2) = false ∧ (kind == 5) = true)) := by
    rcases hk1 with rfl | rfl
    · exact ⟨rfl, .inl rfl⟩
    · exact ⟨rfl, .inr ⟨rfl, rfl⟩⟩
  clear hk1
  go_enter Tryd.func96, Tryd.ntmps96
  go_upto_region 2 with fail
  generalize (w.alloc _).alloc _ = w1 at *
  obtain ⟨p0, p1, p2, p3, p4, p5⟩ := HPA.out.1.part (p := (⟨kind, text, neg, ⟨ra, rc, rxs⟩, ⟨wa, wcap, wxs⟩⟩ : PartOf (P n)))
  simp only [] at p1
  clear p2 p3 p4 p5 hmk
  obtain ⟨k1, k2⟩ := hkind
  rcases k2 with k2 | ⟨k2, k5⟩
  all_goals
    go_wp2_with fail
    go_loopg [70] N (fun g i wx => ∃ (k : Nat) (tos : List Bool), k + g = N ∧ i = .int .i64 k ∧ Hid (PassAt w (⟨kind, text, neg, ⟨ra, rc, rxs⟩, ⟨wa, wcap, wxs⟩⟩ : PartOf (P n)) w.heap.size frm tos wx) ∧ Hid (Marks R frm k tos))
    case atStart => exact ⟨0, _, by omega, rfl, HPA, HM⟩
    case round =>
      clear HPA HM p0 p1
      obtain ⟨k, tos, hk, rfl, HPA, HM⟩ := hrel
      by_cases hlt : k < N
      · obtain ⟨g, rfl⟩ : ∃ g, gk = g + 1 := ⟨gk - 1, by omega⟩
        obtain ⟨b, hb⟩ : ∃ b, frm[k]? = some b := ⟨_, List.getElem?_eq_getElem (by rw [HN.out]; exact hlt)⟩
        obtain ⟨ba, off, ha, hba, hca⟩ := (HF.out.under HPA.out.2.2.1).at (k := k) (u := .bool b) (by rw [List.getElem?_map, hb]; rfl)
        have HB := Lib.hid hb
        subst ha
        clear hb
        go_upto_region 15 with fail
        cases b
        · have HM2 : Hid (Marks R frm (k + 1) tos) := Lib.hid (HM.out.skip (fun h => by rw [HB.out] at h; cases h))
          go_quiet (fail)
          go_wp2_with fail
          go_roundg g
          case measure => omega
          case rel => exact ⟨k + 1, tos, by omega, by go_num, Lib.hid (HPA.out.drewN _), HM2⟩
        · by_cases hks : k < s.size
          case neg =>
            have HM2 : Hid (Marks R frm (k + 1) tos) := Lib.hid (HM.out.skip (fun _ j h => by
              obtain ⟨_, ch, h1, _⟩ := (HPR.out k j).1 h
              have := (List.getElem?_eq_some_iff.1 h1).1
              rw [← Lib.size_eq] at this
              omega))
            have hkd : decide (k < s.size) = false := decide_eq_false hks
            clear hks
            go_quiet (fail)
            go_wp2_with fail
            go_roundg g
            case measure => omega
            case rel => exact ⟨k + 1, tos, by omega, by go_num, Lib.hid (HPA.out.drewN _), HM2⟩
          obtain ⟨ch, hch⟩ : ∃ ch : UInt8, s[k]'hks = ch := ⟨_, rfl⟩
          have HCh : Hid (s.data.toList[k]? = some ch) := Lib.hid (by rw [← hch]; exact Lib.data_getElem? s k hks)
          have HR := Lib.hid (HPR.out k)
          have HC := Lib.hid (HO.out ch wr.drew (show Below w.heap.size w wr.drew from ⟨HPA.out.2.2.1.os, HPA.out.2.2.1.tape, HPA.out.2.2.1.output, HPA.out.2.2.1.size, HPA.out.2.2.1.block⟩))
          obtain ⟨B, hB⟩ := HOB.out ch
          rw [hB] at HC
          have HB2 := Lib.hid hB
          have hkd : decide (k < s.size) = true := decide_eq_true hks
          have hk0 : (0 : Int) ≤ (k : Int) := by omega
          have hk1 : (k : Int) < (s.size : Int) := by omega
          obtain ⟨x, htx⟩ : ∃ x, tos[k + 1]? = some x := ⟨_, List.getElem?_eq_getElem (by rw [HPA.out.2.2.2, HN.out]; omega)⟩
          have HX := Lib.hid htx
          obtain ⟨p0, p1, p2, p3, p4, p5⟩ := HPA.out.1.part (p := (⟨kind, text, neg, ⟨ra, rc, rxs⟩, ⟨wa, wcap, wxs⟩⟩ : PartOf (P n)))
          simp only [] at p1 p2 p3 p4 p5
          clear hB htx
          go_cut [88] (fun s88 wx => s88 = .bool B ∧ Below wr.heap.size wr wx)
          case first =>
            go_region_held3 (fun w' => w'.cell? ⟨w.heap.size, 0, none⟩ = some (.int .i64 kind) ∧ w'.cell? ⟨w.heap.size, 1, none⟩ = some (.string text) ∧ w'.cell? ⟨w.heap.size, 2, none⟩ = some (.bool neg) ∧ w'.cell? ⟨w.heap.size, 3, none⟩ = some (.slice ra rxs.length rc) ∧ w'.cell? ⟨w.heap.size, 4, none⟩ = some (.slice wa wxs.length wcap))
              (first | go_keep | exact ⟨(hb3.cell (p := ⟨w.heap.size, 0, none⟩) p0).trans p1, (hb3.cell (p := ⟨w.heap.size, 1, none⟩) p0).trans p2, (hb3.cell (p := ⟨w.heap.size, 2, none⟩) p0).trans p3, (hb3.cell (p := ⟨w.heap.size, 3, none⟩) p0).trans p4, (hb3.cell (p := ⟨w.heap.size, 4, none⟩) p0).trans p5⟩)
              ((go_at_call 105; refine HC.out.mono ?_; rintro e w3 ⟨rfl, hb3⟩))
            go_wp2_with fail
            go_meet
            exact ⟨rfl, ⟨hb3.os, hb3.tape, hb3.output, hb3.size, hb3.block⟩⟩
          case rest =>
          obtain ⟨rfl, hbc⟩ := hcut
          have HPA2 := Lib.hid (HPA.out.under hbc)
          obtain ⟨f1, f2⟩ := HPA2.out.2.1.cell HX.out
          clear p0 p1 p2 p3 p4 p5 HC HPA hca
          cases B
          · have HM2 : Hid (Marks R frm (k + 1) tos) := Lib.hid (HM.out.skip (fun _ j h => by
              obtain ⟨_, ch', h1, h2⟩ := (HR.out j).1 h
              rw [HCh.out] at h1
              cases h1
              rw [HB2.out] at h2
              cases h2))
            clear f1 f2
            go_wp2_with fail
            go_roundg g
            case measure => omega
            case rel => exact ⟨k + 1, tos, by omega, by go_num, HPA2, HM2⟩
          · have HM2 : Hid (Marks R frm (k + 1) (tos.set (k + 1) true)) := Lib.hid (HM.out.set HB.out (by rw [HN.out]; omega) (fun j => (HR.out j).trans ⟨fun h => h.1, fun h => ⟨h, ch, HCh.out, HB2.out⟩⟩))
            go_wp2_with fail
            go_roundg g
            case measure => omega
            case rel => exact ⟨k + 1, tos.set (k + 1) true, by omega, by go_num, Lib.hid (PassAt.set HPA2.out (k + 1) true), HM2⟩
      · obtain rfl : k = N := by omega
        have HL : Hid (Leads R frm tos) := Lib.hid (Marks.done (by rw [HN.out]; exact HM.out))
        clear HM
        go_wp2_with fail
        go_ret
        exact ⟨w.heap.size + 1, tos, ret_slc HN.out.symm, Nat.le_succ _, HPA.out.2.1, HL.out, HPA.out.2.2.1⟩
end Go.Proofs.YtnpcbcnclncniaaDoor
namespace Go.Proofs.YtnpcbcnclncniaaDoor
open Go.RowKit

/-- Stars lead from one place to another. -/
def StarR (L : List UInt8) (one : Bool) (i j : Nat) : Prop := i ≤ j ∧ j ≤ L.length ∧ (one = true → ∀ m, i ≤ m → m < j → L[m]? ≠ some 47)
/-- What the loop over the places has marked so far; whether a star is on. -/
def SMarks (L : List UInt8) (one : Bool) (frm : List Bool) (k : Nat) (tos : List Bool) (on : Bool) : Prop :=
  tos.length = frm.length ∧ (∀ j, tos[j]? = some true ↔ j < k ∧ ∃ i, frm[i]? = some true ∧ StarR L one i j) ∧ (on = true ↔ ∃ i, i < k ∧ frm[i]? = some true ∧ (one = true → ∀ m, i ≤ m → m < k → L[m]? ≠ some 47))
theorem SMarks.start (L : List UInt8) (one : Bool) (frm : List Bool) : SMarks L one frm 0 (List.replicate frm.length false) false := by
  refine ⟨by simp, fun j => ⟨fun h => ?_, fun ⟨h, _⟩ => absurd h (Nat.not_lt_zero _)⟩, ⟨fun h => absurd h Bool.false_ne_true, fun ⟨i, h, _⟩ => absurd h (Nat.not_lt_zero _)⟩⟩
  rw [List.getElem?_replicate] at h
  split at h <;> simp at h
theorem SMarks.on1 {L : List UInt8} {one : Bool} {frm tos : List Bool} {k : Nat} {on b : Bool} (h : SMarks L one frm k tos on) (hb : frm[k]? = some b) (hk : k ≤ L.length) : (on || b) = true ↔ ∃ i, frm[i]? = some true ∧ StarR L one i k := by
  rw [Bool.or_eq_true]
  constructor
  · rintro (h1 | rfl)
    · obtain ⟨i, hi, hf, hm⟩ := h.2.2.1 h1
      exact ⟨i, hf, by omega, hk, hm⟩
    · exact ⟨k, hb, Nat.le_refl _, hk, fun _ m h1 h2 => absurd h2 (by omega)⟩
  · rintro ⟨i, hf, hi, _, hm⟩
    by_cases e : i = k
    · subst e
      rw [hb] at hf
      exact .inr (by simpa using hf)
    · exact .inl (h.2.2.2 ⟨i, by omega, hf, hm⟩)
theorem SMarks.step {L : List UInt8} {one : Bool} {frm tos : List Bool} {k : Nat} {on b : Bool} (h : SMarks L one frm k tos on) (hb : frm[k]? = some b) (hk : k ≤ L.length) (hkf : k < frm.length) (stop : Bool) (hs : stop = true ↔ (one = true ∧ L[k]? = some 47)) :
    SMarks L one frm (k + 1) (tos.set k (on || b)) ((on || b) && !stop) := by
  have hon := h.on1 hb hk
  refine ⟨by rw [List.length_set]; exact h.1, fun j => ?_, ?_⟩
  · rw [List.getElem?_set]
    by_cases e : k = j
    · subst e
      rw [if_pos rfl, if_pos (by rw [h.1]; exact hkf)]
      constructor
      · intro h1
        exact ⟨by omega, hon.1 (by simpa using h1)⟩
      · rintro ⟨_, h1⟩
        rw [hon.2 h1]
    · rw [if_neg e, h.2.1 j]
      constructor
      · rintro ⟨h1, h2⟩
        exact ⟨by omega, h2⟩
      · rintro ⟨h1, h2⟩
        exact ⟨by omega, h2⟩
  · rw [Bool.and_eq_true, hon]
    constructor
    · rintro ⟨⟨i, hf, hi, _, hm⟩, h2⟩
      have hns : ¬ (one = true ∧ L[k]? = some 47) := fun h3 => by
        rw [hs.2 h3] at h2
        cases h2
      refine ⟨i, by omega, hf, fun ho m h1 h2 => ?_⟩
      by_cases e : m = k
      · subst e
        exact fun h3 => hns ⟨ho, h3⟩
      · exact hm ho m h1 (by omega)
    · rintro ⟨i, hi, hf, hm⟩
      refine ⟨⟨i, hf, by omega, hk, fun ho m h1 h2 => hm ho m h1 (by omega)⟩, ?_⟩
      cases hst : stop
      · rfl
      · obtain ⟨ho, h3⟩ := hs.1 hst
        exact absurd h3 (hm ho k (by omega) (by omega))
theorem SMarks.done {L : List UInt8} {one : Bool} {frm tos : List Bool} {on : Bool} (h : SMarks L one frm frm.length tos on) (hl : frm.length = L.length + 1) : Leads (StarR L one) frm tos :=
  ⟨h.1, fun j => (h.2.1 j).trans ⟨fun h => h.2, fun ⟨i, hf, hr⟩ => ⟨by have := hr.2.1; omega, i, hf, hr⟩⟩⟩

set_option maxHeartbeats 4000000 in
set_option maxRecDepth 100000 in
theorem pass_star (n : Nat) (q : PartOf (P n)) (s : ByteArray) (frm : List Bool) (a : Option Addr) (c : Nat) (w : World) (hk1 : q.kind = 3 ∨ q.kind = 4) (hN : frm.length = s.size + 1) (hs : s.size ≤ 100000) (hF : Holds w a (frm.map Value.bool)) :
    Calls Tryd.prog 96 #[partVal q, .string s, .slice a frm.length c] w (PassRes (PR s.data.toList n q) frm w) := by
  have HF := Lib.hid hF
  have hmk := fun W => make_of elem_places frm.length W (by omega)
  have HPA : Hid (PassAt w q w.heap.size frm (List.replicate frm.length false) ((w.alloc (.cells (partArr q) 64)).alloc (.cells (Array.replicate frm.length (Value.bool false)) 4))) := Lib.hid (by
    refine ⟨(BoxIs.new w _ _).under (bAlloc (Below.refl _ _) _), ?_, bAlloc (bAlloc (Below.refl _ _) _) _, by simp⟩
    have := RowU.new (w.alloc (.cells (partArr q) 64)) frm.length
    rwa [show (w.alloc (.cells (partArr q) 64)).heap.size = w.heap.size + 1 by simp] at this)
  have HM : Hid (SMarks s.data.toList (q.kind == 3) frm 0 (List.replicate frm.length false) false) := Lib.hid (SMarks.start _ _ _)
  have hPR : PR s.data.toList n q = StarR s.data.toList (q.kind == 3) := by
    funext i j
    unfold PR PRel StarR
    rw [if_neg (by omega), if_neg (by omega), if_pos hk1]
    simp
  rw [hPR]
  have hsl : frm.length = s.data.toList.length + 1 := by rw [← Lib.size_eq]; exact hN
  have HSL := Lib.hid hsl
  clear hF hPR hsl
  obtain ⟨kind, text, neg, ⟨ra, rc, rxs⟩, ⟨wa, wcap, wxs⟩⟩ := q
  simp only [] at *
  obtain ⟨N, hN0⟩ : ∃ N, frm.length = N := ⟨_, rfl⟩
  have HN := Lib.hid hN0
  have hN1 : N ≤ s.size + 1 := by omega
  have hN2 : s.size < N := by omega
  rw [hN0] at hmk HPA HM
  clear hN
  have hkind : (kind == 1) = false ∧ (kind == 2) = false ∧ (kind == 5) = false ∧ ((kind == 3) = true ∨ ((kind == 3) = false ∧ (kind == 4) = true)) := by
    rcases hk1 with rfl | rfl
    · exact ⟨rfl, rfl, rfl, .inl rfl⟩
    · exact ⟨rfl, rfl, rfl, .inr ⟨rfl, rfl⟩⟩
  obtain ⟨k1, k2, k5, k3⟩ := hkind
  obtain ⟨on1, hon1⟩ : ∃ o : Bool, (kind == 3) = o := ⟨_, rfl⟩
  rw [hon1]
  have HO1 := Lib.hid hon1
  rw [hon1] at HM
  rw [hN0]
  clear hk1 hN0
  go_enter Tryd.func96, Tryd.ntmps96
  go_upto_region 2 with fail
  generalize (w.alloc _).alloc _ = w1 at *
  obtain ⟨p0, p1, p2, p3, p4, p5⟩ := HPA.out.1.part (p := (⟨kind, text, neg, ⟨ra, rc, rxs⟩, ⟨wa, wcap, wxs⟩⟩ : PartOf (P n)))
  simp only [] at p1
  clear p2 p3 p4 p5 hmk hon1
  rcases k3 with k3 | ⟨k3, k4⟩
  all_goals
    go_wp2_with fail
    go_loopg [12, 99] N (fun g s12 i wx => ∃ (k : Nat) (tos : List Bool) (on : Bool), k + g = N ∧ i = .int .i64 k ∧ s12 = .bool on ∧ Hid (PassAt w (⟨kind, text, neg, ⟨ra, rc, rxs⟩, ⟨wa, wcap, wxs⟩⟩ : PartOf (P n)) w.heap.size frm tos wx) ∧ Hid (SMarks s.data.toList on1 frm k tos on))
    case atStart => exact ⟨0, _, false, by omega, rfl, rfl, HPA, HM⟩
    case round =>
      clear HPA HM p0 p1
      obtain ⟨k, tos, on, hk, rfl, rfl, HPA, HM⟩ := hrel
      by_cases hlt : k < N
      · obtain ⟨g, rfl⟩ : ∃ g, gk = g + 1 := ⟨gk - 1, by omega⟩
        obtain ⟨b, hb⟩ : ∃ b, frm[k]? = some b := ⟨_, List.getElem?_eq_getElem (by rw [HN.out]; exact hlt)⟩
        obtain ⟨ba, off, ha, hba, hca⟩ := (HF.out.under HPA.out.2.2.1).at (k := k) (u := .bool b) (by rw [List.getElem?_map, hb]; rfl)
        obtain ⟨x, htx⟩ : ∃ x, tos[k]? = some x := ⟨_, List.getElem?_eq_getElem (by rw [HPA.out.2.2.2, HN.out]; exact hlt)⟩
        obtain ⟨f1, f2⟩ := HPA.out.2.1.cell htx
        have HPA2 := Lib.hid (PassAt.set HPA.out k (on || b))
        have HStep := Lib.hid (fun stop h => SMarks.step HM.out hb (by have := HSL.out; rw [HN.out] at this; omega) (by rw [HN.out]; exact hlt) stop h)
        subst ha
        clear hb htx HM
        go_upto_region 24 with fail
        go_cut [12] (fun s12 wx => s12 = .bool (on || b) ∧ wr = wx)
        case first =>
          cases on
          all_goals
            go_wp2_with fail
            go_meet
            exact ⟨by simp, rfl⟩
        case rest =>
        obtain ⟨rfl, rfl⟩ := hcut
        generalize (on || b) = o2 at *
        go_upto_region 26 with fail
        generalize World.setCell wr _ _ = w5 at *
        clear f1 f2 hca
        obtain ⟨p0, p1, p2, p3, p4, p5⟩ := HPA2.out.1.part (p := (⟨kind, text, neg, ⟨ra, rc, rxs⟩, ⟨wa, wcap, wxs⟩⟩ : PartOf (P n)))
        simp only [] at p1
        clear p2 p3 p4 p5
        by_cases hks : k < s.size
        case neg =>
          have HM2 : Hid (SMarks s.data.toList on1 frm (k + 1) (tos.set k o2) o2) := Lib.hid (by
            have := HStep.out false ⟨fun h => absurd h Bool.false_ne_true, fun ⟨_, h⟩ => by
              have h2 := (List.getElem?_eq_some_iff.1 h).1
              rw [← Lib.size_eq] at h2
              omega⟩
            simpa using this)
          clear HStep
          go_wp2_with fail
          go_roundg g
          case measure => omega
          case rel => exact ⟨k + 1, tos.set k o2, o2, by omega, by go_num, rfl, HPA2, HM2⟩
        obtain ⟨ch, hch⟩ : ∃ ch : UInt8, s[k]'hks = ch := ⟨_, rfl⟩
        have HCh : Hid (s.data.toList[k]? = some ch) := Lib.hid (by rw [← hch]; exact Lib.data_getElem? s k hks)
        by_cases h47 : ch = 47
        · have e47 : ((ch.toNat : Int) == 47) = true := by rw [h47]; rfl
          have HM2 : Hid (SMarks s.data.toList on1 frm (k + 1) (tos.set k o2) (o2 && !on1)) := Lib.hid (HStep.out on1 ⟨fun h => ⟨h, by rw [HCh.out, h47]⟩, fun h => h.1⟩)
          rw [← HO1.out, k3] at HM2
          have HM3 : Hid (SMarks s.data.toList on1 frm (k + 1) (tos.set k o2) (if kind == 3 then false else o2)) := Lib.hid (by
            have h := HM2.out
            rw [← HO1.out, k3]
            simpa using h)
          rw [k3] at HM3
          clear HStep h47 HM2
          go_wp2_with fail
          go_roundg g
          case measure => omega
          case rel => exact ⟨k + 1, tos.set k o2, _, by omega, by go_num, rfl, HPA2, HM3⟩
        · have e47 : ((ch.toNat : Int) == 47) = false := by
            have : ch.toNat ≠ 47 := fun e => h47 (UInt8.toNat_inj.1 (by simpa using e))
            simp only [beq_eq_false_iff_ne, ne_eq]
            omega
          have HM2 : Hid (SMarks s.data.toList on1 frm (k + 1) (tos.set k o2) o2) := Lib.hid (by
            have := HStep.out false ⟨fun h => absurd h Bool.false_ne_true, fun ⟨_, h⟩ => by
              rw [HCh.out] at h
              exact absurd (by simpa using h) h47⟩
            simpa using this)
          clear HStep h47
          go_wp2_with fail
          go_roundg g
          case measure => omega
          case rel => exact ⟨k + 1, tos.set k o2, o2, by omega, by go_num, rfl, HPA2, HM2⟩
      · obtain rfl : k = N := by omega
        have HL : Hid (Leads (StarR s.data.toList on1) frm tos) := Lib.hid (SMarks.done (by rw [HN.out]; exact HM.out) HSL.out)
        clear HM
        go_wp2_with fail
        go_ret
        exact ⟨w.heap.size + 1, tos, ret_slc HN.out.symm, Nat.le_succ _, HPA.out.2.1, HL.out, HPA.out.2.2.1⟩
end Go.Proofs.YtnpcbcnclncniaaDoor
namespace Go.Proofs.YtnpcbcnclncniaaDoor
open Go.RowKit

/-- The places behind a list of parts: those ahead of it, or a row of the call's own. -/
def Src (w : World) (a : Option Addr) (c : Nat) (frm : List Bool) (a' : Option Addr) (c' : Nat) (ps : List Bool) (wx : World) : Prop :=
  (a' = a ∧ c' = c ∧ ps = frm) ∨ ∃ g, a' = some ⟨g, 0, none⟩ ∧ c' = frm.length ∧ w.heap.size ≤ g ∧ RowU wx g ps
theorem Src.under {w wx w' : World} {a a' : Option Addr} {c c' : Nat} {frm ps : List Bool} (h : Src w a c frm a' c' ps wx) (hb : Below wx.heap.size wx w') : Src w a c frm a' c' ps w' := by
  rcases h with h | ⟨g, h1, h2, h3, h4⟩
  · exact .inl h
  · exact .inr ⟨g, h1, h2, h3, h4.under hb⟩
theorem Src.holds {w wx : World} {a a' : Option Addr} {c c' : Nat} {frm ps : List Bool} (h : Src w a c frm a' c' ps wx) (hF : Holds w a (frm.map Value.bool)) (hb : Below w.heap.size w wx) : Holds wx a' (ps.map Value.bool) := by
  rcases h with ⟨rfl, _, rfl⟩ | ⟨g, rfl, _, _, h4⟩
  · exact hF.under hb
  · exact h4.holds
def AllRes (r : Nat → Nat → Prop) (frm : List Bool) (a : Option Addr) (c : Nat) (w : World) (e : Ending) (w' : World) : Prop :=
  ∃ a' c' ps, e = .returned (.slice a' frm.length c') ∧ Src w a c frm a' c' ps w' ∧ Leads r frm ps ∧ Below w.heap.size w w'
/-- names.passAll does so for parts of a depth. -/
def AllDoes (n : Nat) : Prop := ∀ (xs : Sl (P n)) (s : ByteArray) (frm : List Bool) (a : Option Addr) (c : Nat) (w : World), SOk w n xs → Good n xs.xs → szL n xs.xs ≤ 1048576 → frm.length = s.size + 1 → s.size ≤ 100000 → Holds w a (frm.map Value.bool) →
  Calls Tryd.prog 73 #[.slice xs.a xs.xs.length xs.c, .string s, .slice a frm.length c] w (AllRes (Rel s.data.toList n xs.xs) frm a c w)

def WMarks (L : List UInt8) (n : Nat) (wys : List (Sl (P n))) (frm : List Bool) (m : Nat) (tos : List Bool) : Prop :=
  tos.length = frm.length ∧ ∀ j, tos[j]? = some true ↔ ∃ t ∈ wys.take m, ∃ i, frm[i]? = some true ∧ Rel L n t.xs i j
theorem WMarks.start (L : List UInt8) (n : Nat) (wys : List (Sl (P n))) (frm : List Bool) : WMarks L n wys frm 0 (List.replicate frm.length false) := by
  refine ⟨by simp, fun j => ⟨fun h => ?_, fun ⟨t, h, _⟩ => by simp at h⟩⟩
  rw [List.getElem?_replicate] at h
  split at h <;> simp at h
theorem WMarks.step {L : List UInt8} {n : Nat} {wys : List (Sl (P n))} {frm tos tos' ps : List Bool} {m : Nat} {t : Sl (P n)} (h : WMarks L n wys frm m tos) (ht : wys[m]? = some t) (hl : Leads (Rel L n t.xs) frm ps) (h1 : tos'.length = frm.length) (h2 : ∀ j : Nat, tos'[j]? = some true ↔ tos[j]? = some true ∨ ps[j]? = some true) : WMarks L n wys frm (m + 1) tos' := by
  refine ⟨h1, fun j => ?_⟩
  rw [h2 j, h.2 j, hl.2 j, List.take_add_one, ht]
  constructor
  · rintro (⟨t', h3, h4⟩ | h4)
    · exact ⟨t', by simp [h3], h4⟩
    · exact ⟨t, by simp, h4⟩
  · rintro ⟨t', h3, h4⟩
    rcases List.mem_append.1 h3 with h3 | h3
    · exact .inl ⟨t', h3, h4⟩
    · have : t' = t := by simpa using h3
      subst this
      exact .inr h4

/-- The inner loop's marks. -/
def OrTo (tos0 ps : List Bool) (k : Nat) (tos : List Bool) : Prop := tos.length = tos0.length ∧ ∀ j, tos[j]? = some true ↔ tos0[j]? = some true ∨ (j < k ∧ ps[j]? = some true)
theorem OrTo.start (tos ps : List Bool) : OrTo tos ps 0 tos := ⟨rfl, fun _ => ⟨fun h => .inl h, fun h => h.elim id (fun h => absurd h.1 (Nat.not_lt_zero _))⟩⟩
theorem OrTo.step {tos0 ps tos : List Bool} {k : Nat} {x b : Bool} (h : OrTo tos0 ps k tos) (hx : tos[k]? = some x) (hb : ps[k]? = some b) : OrTo tos0 ps (k + 1) (tos.set k (x || b)) := by
  have hk := (List.getElem?_eq_some_iff.1 hx).1
  refine ⟨by rw [List.length_set]; exact h.1, fun j => ?_⟩
  rw [List.getElem?_set]
  by_cases e : k = j
  · subst e
    rw [if_pos rfl, if_pos hk]
    have h2 := h.2 k
    rw [hx] at h2
    constructor
    · intro h3
      have h3 : (x || b) = true := by simpa using h3
      rcases Bool.or_eq_true_iff.1 h3 with rfl | rfl
      · rcases h2.1 rfl with h4 | ⟨h4, _⟩
        · exact .inl h4
        · omega
      · exact .inr ⟨by omega, hb⟩
    · rintro (h3 | ⟨_, h3⟩)
      · have := h2.2 (.inl h3)
        cases this
        rfl
      · rw [hb] at h3
        cases h3
        simp
  · rw [if_neg e, h.2 j]
    constructor
    · rintro (h3 | ⟨h3, h4⟩)
      · exact .inl h3
      · exact .inr ⟨by omega, h4⟩
    · rintro (h3 | ⟨h3, h4⟩)
      · exact .inl h3
      · exact .inr ⟨by omega, h4⟩

set_option maxHeartbeats 4000000 in
set_option maxRecDepth 100000 in
theorem pass_ways (n : Nat) (hAll : AllDoes n) (q : PartOf (P n)) (s : ByteArray) (frm : List Bool) (a : Option Addr) (c : Nat) (w : World) (hk1 : q.kind = 6) (hN : frm.length = s.size + 1) (hs : s.size ≤ 100000)
    (hw1 : SlHolds w 1 (fun s : Sl (P n) => [s.val]) q.ways) (hw2 : ∀ t ∈ q.ways.xs, SOk w n t ∧ Good n t.xs ∧ szL n t.xs ≤ 1048576) (hwl : q.ways.xs.length ≤ 1048576) (hF : Holds w a (frm.map Value.bool)) :
    Calls Tryd.prog 96 #[partVal q, .string s, .slice a frm.length c] w (PassRes (PR s.data.toList n q) frm w) := by
  have HF := Lib.hid hF
  have HW1 := Lib.hid hw1
  have HW2 := Lib.hid hw2
  have HAll := Lib.hid (fun t W h1 h2 h3 h4 => hAll t s frm a c W h1 h2 h3 hN hs h4)
  have hmk := fun W => make_of elem_places frm.length W (by omega)
  have HPA : Hid (PassAt w q w.heap.size frm (List.replicate frm.length false) ((w.alloc (.cells (partArr q) 64)).alloc (.cells (Array.replicate frm.length (Value.bool false)) 4))) := Lib.hid (by
    refine ⟨(BoxIs.new w _ _).under (bAlloc (Below.refl _ _) _), ?_, bAlloc (bAlloc (Below.refl _ _) _) _, by simp⟩
    have := RowU.new (w.alloc (.cells (partArr q) 64)) frm.length
    rwa [show (w.alloc (.cells (partArr q) 64)).heap.size = w.heap.size + 1 by simp] at this)
  have HM : Hid (WMarks s.data.toList n q.ways.xs frm 0 (List.replicate frm.length false)) := Lib.hid (WMarks.start _ _ _ _)
  have hPR : Hid (∀ i j, (∃ t ∈ q.ways.xs, Rel s.data.toList n t.xs i j) → PR s.data.toList n q i j) := Lib.hid (fun i j h => by
    unfold PR PRel
    rw [if_neg (by omega), if_neg (by omega), if_neg (by omega), if_pos hk1]
    exact h)
  have hPR2 : Hid (∀ i j, PR s.data.toList n q i j → (∃ t ∈ q.ways.xs, Rel s.data.toList n t.xs i j)) := Lib.hid (fun i j h => by
    unfold PR PRel at h
    rw [if_neg (by omega), if_neg (by omega), if_neg (by omega), if_pos hk1] at h
    exact h)
  generalize PR s.data.toList n q = R at *
  clear hF hw1 hw2 hAll
  obtain ⟨kind, text, neg, ⟨ra, rc, rxs⟩, ⟨wa, wcap, wxs⟩⟩ := q
  simp only [] at *
  subst hk1
  obtain ⟨N, hN0⟩ : ∃ N, frm.length = N := ⟨_, rfl⟩
  have HN := Lib.hid hN0
  have hN1 : N ≤ s.size + 1 := by omega
  have hN2 : s.size < N := by omega
  rw [hN0] at hmk HPA HM
  rw [hN0]
  clear hN
  go_enter Tryd.func96, Tryd.ntmps96
  go_upto_region 2 with fail
  generalize (w.alloc _).alloc _ = w1 at *
  obtain ⟨p0, p1, p2, p3, p4, p5⟩ := HPA.out.1.part (p := (⟨6, text, neg, ⟨ra, rc, rxs⟩, ⟨wa, wcap, wxs⟩⟩ : PartOf (P n)))
  simp only [] at p1 p5
  clear p2 p3 p4 hmk hN0
  go_wp2_with fail
  go_loopg [133] wxs.length (fun g i wx => ∃ (m : Nat) (tos : List Bool), m + g = wxs.length ∧ i = .int .i64 m ∧ Hid (PassAt w (⟨6, text, neg, ⟨ra, rc, rxs⟩, ⟨wa, wcap, wxs⟩⟩ : PartOf (P n)) w.heap.size frm tos wx) ∧ Hid (WMarks s.data.toList n wxs frm m tos))
  case atStart => exact ⟨0, _, by omega, rfl, HPA, HM⟩
  case round =>
    clear HPA HM p0 p1 p5
    obtain ⟨m, tos, hm, rfl, HPA, HM⟩ := hrel
    by_cases hlt : m < wxs.length
    · obtain ⟨g, rfl⟩ : ∃ g, gk = g + 1 := ⟨gk - 1, by omega⟩
      obtain ⟨t, hx⟩ : ∃ t : Sl (P n), wxs[m]? = some t := ⟨_, List.getElem?_eq_getElem hlt⟩
      obtain ⟨bw, ow, ha, hbw, r0⟩ := wayRow (HW1.out.under HPA.out.2.2.1) hx
      have hmem := List.mem_of_getElem? hx
      obtain ⟨ht1, ht2, ht3⟩ := HW2.out t hmem
      have HC := Lib.hid (HAll.out t wr (ht1.under HPA.out.2.2.1) ht2 ht3 (HF.out.under HPA.out.2.2.1))
      rw [HN.out] at HC
      have HX := Lib.hid hx
      simp only [] at ha
      subst ha
      clear hx hmem ht1 ht2 ht3
      obtain ⟨wo, rfl⟩ : ∃ wo : World, wo = wr := ⟨_, rfl⟩
      go_wp2_with fail
      refine HC.out.mono ?_
      rintro e w5 ⟨a', c', ps, rfl, hsrc, hL, hb5⟩
      have HL := Lib.hid hL
      have HSrc : Hid (a' = a ∧ ps = frm ∨ ∃ g, a' = some ⟨g, 0, none⟩ ∧ w.heap.size + 1 < g ∧ RowU w5 g ps) := Lib.hid (by
        rcases hsrc with ⟨h1, _, h2⟩ | ⟨g, h1, _, h2, h3⟩
        · exact .inl ⟨h1, h2⟩
        · exact .inr ⟨g, h1, by have := HPA.out.2.1.lt; omega, h3⟩)
      have HPA5 := Lib.hid (HPA.out.under hb5)
      have hpl : ps.length = N := by rw [hL.1, HN.out]
      have HPL := Lib.hid hpl
      clear r0 HC hL hsrc HPA hpl hb5
      rw [HN.out]
      go_wp2_with fail
      go_loopg [142] N (fun g i wx => ∃ (k : Nat) (tos' : List Bool), k + g = N ∧ i = .int .i64 k ∧ Hid (PassAt w (⟨6, text, neg, ⟨ra, rc, rxs⟩, ⟨some ⟨bw, ow, none⟩, wcap, wxs⟩⟩ : PartOf (P n)) w.heap.size frm tos' wx) ∧ Hid (OrTo tos ps k tos') ∧ Hid (a' = a ∧ ps = frm ∨ ∃ g, a' = some ⟨g, 0, none⟩ ∧ w.heap.size + 1 < g ∧ RowU wx g ps))
      case atStart => exact ⟨0, tos, by omega, rfl, HPA5, Lib.hid (OrTo.start _ _), HSrc⟩
      case round =>
        clear HPA5 HSrc
        obtain ⟨k, tos', hk, rfl, HPA, HO, HSrc⟩ := hrel
        by_cases hlt2 : k < N
        · obtain ⟨g2, rfl⟩ : ∃ g2, gk = g2 + 1 := ⟨gk - 1, by omega⟩
          obtain ⟨b, hb⟩ : ∃ b, ps[k]? = some b := ⟨_, List.getElem?_eq_getElem (by rw [HPL.out]; exact hlt2)⟩
          obtain ⟨x, htx⟩ : ∃ x, tos'[k]? = some x := ⟨_, List.getElem?_eq_getElem (by rw [HPA.out.2.2.2, HN.out]; exact hlt2)⟩
          obtain ⟨f1, f2⟩ := HPA.out.2.1.cell htx
          have hH : Holds wr a' (ps.map Value.bool) := by
            rcases HSrc.out with ⟨h1, h2⟩ | ⟨g, h1, _, h2⟩
            · rw [h1, h2]
              exact HF.out.under HPA.out.2.2.1
            · rw [h1]
              exact h2.holds
          obtain ⟨ba, off, ha, hba, hca⟩ := hH.at (k := k) (u := .bool b) (by rw [List.getElem?_map, hb]; rfl)
          have HO2 := Lib.hid (HO.out.step htx hb)
          have HPA2 := Lib.hid (PassAt.set HPA.out k (x || b))
          have HSrc2 : Hid (a' = a ∧ ps = frm ∨ ∃ g, a' = some ⟨g, 0, none⟩ ∧ w.heap.size + 1 < g ∧ RowU (wr.setCell ⟨w.heap.size + 1, k, none⟩ (.bool (x || b))) g ps) := Lib.hid (by
            rcases HSrc.out with h | ⟨g, h1, h2, h3⟩
            · exact .inl h
            · exact .inr ⟨g, h1, h2, h3.setOther (by omega) _ _⟩)
          subst ha
          clear hb htx hH HO HSrc
          cases x
          all_goals
            go_wp2_with fail
            go_roundg g2
            case measure => omega
            case rel => exact ⟨k + 1, _, by omega, by go_num, HPA2, HO2, HSrc2⟩
        · obtain rfl : k = N := by omega
          have HM2 : Hid (WMarks s.data.toList n wxs frm (m + 1) tos') := Lib.hid (WMarks.step HM.out HX.out HL.out HPA.out.2.2.2 (fun j => (HO.out.2 j).trans ⟨fun h => h.imp id (fun h => h.2), fun h => h.imp id (fun h => ⟨by
            have := (List.getElem?_eq_some_iff.1 h).1
            rw [HPL.out] at this
            exact this, h⟩)⟩))
          clear HM HO
          go_wp2_with fail
          go_roundg g
          case measure => omega
          case rel => exact ⟨m + 1, tos', by omega, by go_num, HPA, HM2⟩
    · obtain rfl : m = wxs.length := by omega
      have HL : Hid (Leads R frm tos) := Lib.hid (by
        refine ⟨HM.out.1, fun j => (HM.out.2 j).trans ?_⟩
        rw [List.take_of_length_le (Nat.le_refl _)]
        exact ⟨fun ⟨t, h1, i, h2, h3⟩ => ⟨i, h2, hPR.out i j ⟨t, h1, h3⟩⟩, fun ⟨i, h2, h3⟩ => by
          obtain ⟨t, h4, h5⟩ := hPR2.out i j h3
          exact ⟨t, h4, i, h2, h5⟩⟩)
      clear HM
      go_wp2_with fail
      go_ret
      exact ⟨w.heap.size + 1, tos, ret_slc HN.out.symm, Nat.le_succ _, HPA.out.2.1, HL.out, HPA.out.2.2.1⟩
end Go.Proofs.YtnpcbcnclncniaaDoor
namespace Go.Proofs.YtnpcbcnclncniaaDoor
open Go.RowKit

/-- A part's places, whatever its kind. -/
theorem pass_any (n : Nat) (hAll : AllDoes n) (q : PartOf (P n)) (s : ByteArray) (frm : List Bool) (a : Option Addr) (c : Nat) (w : World) (hp : POk w (n + 1) q) (hk : 1 ≤ q.kind ∧ q.kind ≤ 6) (hg : ∀ t ∈ q.ways.xs, Good n t.xs) (hz : sz (n + 1) q ≤ 1048576)
    (hN : frm.length = s.size + 1) (hs : s.size ≤ 100000) (hF : Holds w a (frm.map Value.bool)) :
    Calls Tryd.prog 96 #[partVal q, .string s, .slice a frm.length c] w (PassRes (PR s.data.toList n q) frm w) := by
  have hszp : sz (n + 1) q = 1 + q.text.size + q.rg.xs.length + (q.ways.xs.map (fun s => 1 + szL n s.xs)).sum := rfl
  have hwl : q.ways.xs.length ≤ 1048576 := by
    have := sum_mono (xs := q.ways.xs) (f := fun _ => 1) (g := fun s => 1 + szL n s.xs) (fun s _ => by omega)
    rw [sum_ones1] at this
    omega
  rcases (by omega : q.kind = 1 ∨ (q.kind = 2 ∨ q.kind = 5) ∨ (q.kind = 3 ∨ q.kind = 4) ∨ q.kind = 6) with h | h | h | h
  · exact pass_text n q s frm a c w h hN hs (by omega) hF
  · exact pass_one n q s frm a c w h hN hs hp.2.1 (by omega) hF
  · exact pass_star n q s frm a c w h hN hs hF
  · refine pass_ways n hAll q s frm a c w h hN hs hp.2.2.2.1 (fun t ht => ⟨hp.2.2.2.2 t ht, hg t ht, ?_⟩) hwl hF
    have h1 := le_sum (List.mem_map.2 ⟨t, ht, rfl⟩ : (1 + szL n t.xs) ∈ q.ways.xs.map (fun s => 1 + szL n s.xs))
    omega

set_option maxHeartbeats 4000000 in
set_option maxRecDepth 100000 in
theorem passAll_any : ∀ n : Nat, AllDoes n := by
  intro n
  induction n with
  | zero =>
    intro xs s frm a c w _ _ _ hN _ _
    clear hN
    obtain ⟨xa, xc, xs⟩ := xs
    cases xs with
    | cons x _ => exact nomatch x
    | nil =>
      go_enter Tryd.func73, Tryd.ntmps73
      go_wp2_with fail
      refine wp_loop_rounds 1 ?_
      rw [rounds_succ]
      go_wp2_with fail
      go_ret
      exact ⟨a, c, frm, rfl, .inl ⟨rfl, rfl, rfl⟩, Leads.refl (fun i j => Iff.rfl) frm, Below.refl _ _⟩
  | succ n ih =>
    rintro ⟨sa, sc, xs⟩ s frm a c w hs hg hz hN hsz hF
    have hlen : xs.length ≤ 1048576 := Nat.le_trans (len_le_sz (n + 1) xs) hz
    simp only [] at hz hg
    have HS := Lib.hid hs
    have HF := Lib.hid hF
    have HPass := Lib.hid (fun q cur a' c' W h1 h2 h3 h4 h5 h6 => pass_any n ih q s cur a' c' W h1 h2 h3 h4 h5 hsz h6)
    have HG := Lib.hid hg
    have HZ := Lib.hid hz
    obtain ⟨N, hN0⟩ : ∃ N, frm.length = N := ⟨_, rfl⟩
    have HN := Lib.hid hN0
    have HN2 : Hid (N = s.size + 1) := Lib.hid (by omega)
    rw [hN0]
    clear hs hg ih hF hz hN hN0
    go_enter Tryd.func73, Tryd.ntmps73
    go_wp2_with fail
    go_loopg [2, 11] xs.length (fun g s2 i wx => ∃ (k : Nat) (a' : Option Addr) (c' : Nat) (cur : List Bool), k + g = xs.length ∧ i = .int .i64 k ∧ s2 = .slice a' N c' ∧ Below w.heap.size w wx ∧ Hid (Src w a c frm a' c' cur wx) ∧ Hid (Leads (Rel s.data.toList (n + 1) (xs.take k)) frm cur))
    case atStart => exact ⟨0, a, c, frm, by omega, rfl, rfl, Below.refl _ _, Lib.hid (.inl ⟨rfl, rfl, rfl⟩), Lib.hid (Leads.refl (fun i j => Iff.rfl) frm)⟩
    case round =>
      obtain ⟨k, a', c', cur, hk, rfl, rfl, hb, HSrc, HL⟩ := hrel
      by_cases hlt : k < xs.length
      · obtain ⟨g, rfl⟩ : ∃ g, gk = g + 1 := ⟨gk - 1, by omega⟩
        obtain ⟨p, hx⟩ : ∃ p : P (n + 1), xs[k]? = some p := ⟨_, List.getElem?_eq_getElem hlt⟩
        obtain ⟨ba, off, ha, hba, r0, r1, r2, r3, r4⟩ := partRow (p := pt n p) ((HS.out.under hb).1) hx
        have hmem := List.mem_of_getElem? hx
        obtain ⟨hk1, _, _, hgw⟩ := HG.out p hmem
        have hsp : sz (n + 1) (pt n p) ≤ 1048576 := Nat.le_trans (le_sum (List.mem_map.2 ⟨p, hmem, rfl⟩)) HZ.out
        have hbx := bAlloc (Below.refl wr.heap.size wr) (.cells (partArr (pt n p)) 64)
        have hb5 := bTrans hb hbx
        have hcl : cur.length = N := by rw [HL.out.1, HN.out]
        have HC := Lib.hid (HPass.out (pt n p) cur a' c' _ ((HS.out.under hb5).2 p hmem) hk1 hgw hsp (by rw [hcl]; exact HN2.out) ((HSrc.out.under hbx).holds HF.out hb5))
        rw [hcl] at HC
        have HX5 := Lib.hid (BoxIs.new wr (partArr (pt n p)) 64)
        have HSn : Hid (∀ i j, Rel s.data.toList (n + 1) (xs.take (k + 1)) i j ↔ ∃ m, Rel s.data.toList (n + 1) (xs.take k) i m ∧ PR s.data.toList n (pt n p) m j) := Lib.hid (fun i j => Rel_snoc hx)
        generalize PR s.data.toList n (pt n p) = R at *
        generalize pt n p = q at *
        have HCl := Lib.hid hcl
        simp only [] at ha
        subst ha
        clear hx hmem hk1 hgw hsp hbx hcl
        go_upto_region 4 with fail
        generalize wr.alloc _ = w5 at *
        clear r0 r1 r2 r3 r4
        obtain ⟨p0, p1, p2, p3, p4, p5⟩ := HX5.out.part
        go_wp2_with fail
        refine HC.out.mono ?_
        rintro e w6 ⟨g6, tos, rfl, hg6, hR6, hL6, hb6⟩
        have HSrc2 : Hid (Src w a c frm (some ⟨g6, 0, none⟩) N tos w6) := Lib.hid (.inr ⟨g6, rfl, HN.out.symm, Nat.le_trans hb5.size hg6, hR6⟩)
        have HL2 : Hid (Leads (Rel s.data.toList (n + 1) (xs.take (k + 1))) frm tos) := Lib.hid (Leads.trans HL.out hL6 HSn.out)
        clear p0 p1 p2 p3 p4 p5 HC hg6 hR6 hL6 HSrc HL
        rw [HCl.out]
        go_wp2_with fail
        go_roundg g
        case measure => omega
        case rel => exact ⟨k + 1, some ⟨g6, 0, none⟩, N, tos, by omega, by go_num, rfl, bTrans hb5 hb6, HSrc2, HL2⟩
      · obtain rfl : k = xs.length := by omega
        rw [List.take_of_length_le (Nat.le_refl _)] at HL
        go_wp2_with fail
        go_ret
        exact ⟨a', c', cur, by rw [HN.out]; rfl, HSrc.out, HL.out, hb⟩
end Go.Proofs.YtnpcbcnclncniaaDoor
