/-
  The texts MatA, Concat, MatB, in one.
-/
import Derived.Test.YtnpcbcnclncniaaGreatDoorGlobM1
import Derived.Test.YtnpcbcnclncniaaGreatDoorGlobP2
import Derived.Test.YtnpcbcnclncniaaGreatDoorOneB
import Derived.Test.YtnpcbcnclncniaaGreatDoorOwn
import Derived.IntWalk
import Derived.Maps.AppendAt
import Derived.Lib.AppendZeros
import Derived.Test.YtnpcbcnclncniaaGreatDoorGlobP4
import Derived.Test.YtnpcbcnclncniaaGreatDoorGlobC
import Derived.Test.YtnpcbcnclncniaaGreatDoorPaths
import Derived.Test.YtnpcbcnclncniaaGreatDoorPlain2
import Derived.Test.YtnpcbcnclncniaaGreatDoorGlob12
import Derived.Test.YtnpcbcnclncniaaGreatDoorFilR
import Derived.Test.YtnpcbcnclncniaaGreatDoorRefPaths
namespace Go.Proofs.YtnpcbcnclncniaaGreatDoor
open Go.RowKit

theorem elem_places : ElemOk Tryz.prog 121 4 (.bool false) 1 := by
  obtain ⟨i0, hi, hz0, hz1, hz2⟩ := info_parts (show (Tryz.prog.info? 4).map (fun i => (i.zero, i.size, i.bytes)) = some (some (.bool false), 1, 1) by kernel_rfl)
  exact ⟨i0, Tryz.underlying121, hi, hz0, hz1, hz2, rfl⟩
theorem elem_bools : ElemOk Tryz.prog 109 4 (.bool false) 1 := by
  obtain ⟨i0, hi, hz0, hz1, hz2⟩ := info_parts (show (Tryz.prog.info? 4).map (fun i => (i.zero, i.size, i.bytes)) = some (some (.bool false), 1, 1) by kernel_rfl)
  exact ⟨i0, Tryz.underlying109, hi, hz0, hz1, hz2, rfl⟩
theorem zero_cellsU (n : Nat) : madeCells #[Value.bool false] n = Array.replicate n (Value.bool false) := by
  apply Array.toList_inj.1
  rw [toList_madeCells_one]
  simp
theorem make_of {t : TypeId} (hE : ElemOk Tryz.prog t 4 (.bool false) 1) (n : Nat) (w : World) (hn : n ≤ 1000000) :
    (Instr.makeSlice t (.int .i64 n) (.int .i64 n)).run Tryz.prog w = .ok (.slice (some ⟨w.heap.size, 0, none⟩) n n) (w.alloc (.cells (Array.replicate n (Value.bool false)) 4)) := by
  obtain ⟨i, ht, hi, hz0, hz1, hz2, hz3⟩ := hE
  have h := run_makeSlice (P := Tryz.prog) w t 4 i (.bool false) ht hi hz0 .i64 .i64 n n (by omega) (by omega) (by rw [hz1]; omega) (by rw [hz2]; omega) (by omega)
  rw [hz1] at h
  simp only [Int.toNat_natCast, Nat.mul_one] at h
  have hc : (Value.bool false).cells = #[Value.bool false] := rfl
  rw [hc, zero_cellsU] at h
  exact h

/-- A block of truths. -/
def RowU (w : World) (g : Nat) (bs : List Bool) : Prop := w.heap[g]? = some (.cells (bs.map Value.bool).toArray 4 (0, 0))
theorem RowU.lt {w : World} {g : Nat} {bs : List Bool} (h : RowU w g bs) : g < w.heap.size := (Array.getElem?_eq_some_iff.1 h).1
theorem RowU.under {w w' : World} {g : Nat} {bs : List Bool} (h : RowU w g bs) (hb : Below w.heap.size w w') : RowU w' g bs := by
  unfold RowU
  rw [hb.block g h.lt]
  exact h
theorem RowU.cell {w : World} {g : Nat} {bs : List Bool} (h : RowU w g bs) {i : Nat} {b : Bool} (hi : bs[i]? = some b) : w.cell? ⟨g, i, none⟩ = some (.bool b) ∧ w.frozen? ⟨g, i, none⟩ = false := by
  constructor
  · rw [Lib.cell_of_heap h]
    simp [hi]
  · exact Lib.frozen_of_heap h i
theorem RowU.set {w : World} {g : Nat} {bs : List Bool} (h : RowU w g bs) (i : Nat) (v : Bool) : RowU (w.setCell ⟨g, i, none⟩ (.bool v)) g (bs.set i v) := by
  unfold RowU at *
  simp [World.setCell, Array.getElem?_modify, h, List.map_set]
theorem RowU.new (w : World) (n : Nat) : RowU (w.alloc (.cells (Array.replicate n (Value.bool false)) 4)) w.heap.size (List.replicate n false) := by
  unfold RowU
  rw [heap_alloc_new]
  congr 2
  apply Array.toList_inj.1
  simp
theorem RowU.holds {w : World} {g : Nat} {bs : List Bool} (h : RowU w g bs) : Holds w (some ⟨g, 0, none⟩) (bs.map Value.bool) := by
  refine .inr ⟨g, 0, rfl, h.lt, fun j u hu => ?_⟩
  rw [Nat.zero_add, Lib.cell_of_heap h]
  simpa using hu

end Go.Proofs.YtnpcbcnclncniaaGreatDoor
namespace Go.Proofs.YtnpcbcnclncniaaGreatDoor
open Go.RowKit

/-- What a loop over the places has marked so far. -/
def Marks (r : Nat → Nat → Prop) (frm : List Bool) (k : Nat) (tos : List Bool) : Prop := tos.length = frm.length ∧ ∀ j, tos[j]? = some true ↔ ∃ i, i < k ∧ frm[i]? = some true ∧ r i j
theorem Marks.start (r : Nat → Nat → Prop) (frm : List Bool) : Marks r frm 0 (List.replicate frm.length false) := by
  refine ⟨by simp, fun j => ⟨fun h => ?_, fun ⟨i, hi, _⟩ => absurd hi (Nat.not_lt_zero _)⟩⟩
  rw [List.getElem?_replicate] at h
  split at h <;> simp at h
theorem Marks.skip {r : Nat → Nat → Prop} {frm tos : List Bool} {k : Nat} (h : Marks r frm k tos) (hn : frm[k]? = some true → ∀ j, ¬ r k j) : Marks r frm (k + 1) tos := by
  refine ⟨h.1, fun j => (h.2 j).trans ⟨fun ⟨i, hi, hf, hr⟩ => ⟨i, by omega, hf, hr⟩, fun ⟨i, hi, hf, hr⟩ => ?_⟩⟩
  by_cases e : i = k
  · subst e
    exact absurd hr (hn hf j)
  · exact ⟨i, by omega, hf, hr⟩
theorem Marks.set {r : Nat → Nat → Prop} {frm tos : List Bool} {k m : Nat} (h : Marks r frm k tos) (hk : frm[k]? = some true) (hm : m < frm.length) (hr : ∀ j, r k j ↔ j = m) : Marks r frm (k + 1) (tos.set m true) := by
  refine ⟨by rw [List.length_set]; exact h.1, fun j => ?_⟩
  rw [List.getElem?_set]
  by_cases e : m = j
  · subst e
    rw [if_pos rfl, if_pos (by rw [h.1]; exact hm)]
    exact ⟨fun _ => ⟨k, by omega, hk, (hr m).2 rfl⟩, fun _ => rfl⟩
  · rw [if_neg e, h.2 j]
    constructor
    · rintro ⟨i, hi, hf, hr'⟩
      exact ⟨i, by omega, hf, hr'⟩
    · rintro ⟨i, hi, hf, hr'⟩
      by_cases e2 : i = k
      · subst e2
        exact absurd ((hr j).1 hr').symm e
      · exact ⟨i, by omega, hf, hr'⟩
theorem Marks.done {r : Nat → Nat → Prop} {frm tos : List Bool} (h : Marks r frm frm.length tos) : Leads r frm tos :=
  ⟨h.1, fun j => (h.2 j).trans ⟨fun ⟨i, _, hf, hr⟩ => ⟨i, hf, hr⟩, fun ⟨i, hf, hr⟩ => ⟨i, (List.getElem?_eq_some_iff.1 hf).1, hf, hr⟩⟩⟩

theorem BoxIs.setOther {w : World} {b g : Nat} {vs : Array Value} {t : TypeId} (h : BoxIs w b vs t) (hne : b ≠ g) (i : Nat) (v : Value) : BoxIs (w.setCell ⟨g, i, none⟩ v) b vs t := by
  unfold BoxIs
  rw [Below.heap_setCell _ _ _ _ (fun e => hne e)]
  exact h
theorem RowU.setOther {w : World} {b g : Nat} {bs : List Bool} (h : RowU w b bs) (hne : b ≠ g) (i : Nat) (v : Value) : RowU (w.setCell ⟨g, i, none⟩ v) b bs := by
  unfold RowU
  rw [Below.heap_setCell _ _ _ _ (fun e => hne e)]
  exact h

/-- What a part's places are, behind a call. -/
def PassRes (r : Nat → Nat → Prop) (frm : List Bool) (w : World) (e : Ending) (w' : World) : Prop :=
  ∃ g tos, e = .returned (.slice (some ⟨g, 0, none⟩) frm.length frm.length) ∧ w.heap.size ≤ g ∧ RowU w' g tos ∧ Leads r frm tos ∧ Below w.heap.size w w'
/-- The rows of a call of pass. -/
def PassAt {α : Type} (w : World) (q : PartOf α) (z : Nat) (frm tos : List Bool) (wx : World) : Prop :=
  BoxIs wx z (partArr q) 92 ∧ RowU wx (z + 1) tos ∧ Below w.heap.size w wx ∧ tos.length = frm.length
theorem PassAt.under {α : Type} {w wx w' : World} {q : PartOf α} {z : Nat} {frm tos : List Bool} (h : PassAt w q z frm tos wx) (hb : Below wx.heap.size wx w') : PassAt w q z frm tos w' :=
  ⟨h.1.under hb, h.2.1.under hb, bTrans h.2.2.1 hb, h.2.2.2⟩
theorem PassAt.drewN {α : Type} {w wx : World} {q : PartOf α} {z : Nat} {frm tos : List Bool} (h : PassAt w q z frm tos wx) (n : Nat) : PassAt w q z frm tos (wx.drewN n) :=
  ⟨h.1.under (bDrewN (Below.refl _ _) n), h.2.1.under (bDrewN (Below.refl _ _) n), bDrewN h.2.2.1 n, h.2.2.2⟩
theorem PassAt.set {α : Type} {w wx : World} {q : PartOf α} {frm tos : List Bool} (h : PassAt w q w.heap.size frm tos wx) (i : Nat) (v : Bool) : PassAt w q w.heap.size frm (tos.set i v) (wx.setCell ⟨w.heap.size + 1, i, none⟩ (.bool v)) :=
  ⟨h.1.setOther (by omega) _ _, h.2.1.set i v, h.2.2.1.setCell (p := ⟨w.heap.size + 1, i, none⟩) (Nat.le_succ _) _, by rw [List.length_set]; exact h.2.2.2⟩

theorem ret_slc {a : Option Addr} {n m : Nat} (h : n = m) : Ending.returned (.slice a n n) = .returned (.slice a m m) := by rw [h]
theorem ext_eq (s t : ByteArray) (k e : Nat) (he : k + t.size = e) : ((s.extract k e).toList == t.toList) = true ↔ (s.data.toList.drop k).take t.size = t.data.toList := by
  rw [Lib.toList_data, Lib.toList_data, beq_iff_eq, Lib.extract_data, show e - k = t.size by omega]

set_option maxHeartbeats 4000000 in
set_option maxRecDepth 100000 in
theorem pass_text (n : Nat) (q : PartOf (P n)) (s : ByteArray) (frm : List Bool) (a : Option Addr) (c : Nat) (w : World) (hk1 : q.kind = 1) (hN : frm.length = s.size + 1) (hs : s.size ≤ 100000) (hts : q.text.size ≤ 1048576) (hF : Holds w a (frm.map Value.bool)) :
    Calls Tryz.prog 111 #[partVal q, .string s, .slice a frm.length c] w (PassRes (PR s.data.toList n q) frm w) := by
  have HF := Lib.hid hF
  have hmk := fun W => make_of elem_places frm.length W (by omega)
  have HPA : Hid (PassAt w q w.heap.size frm (List.replicate frm.length false) ((w.alloc (.cells (partArr q) 92)).alloc (.cells (Array.replicate frm.length (Value.bool false)) 4))) := Lib.hid (by
    refine ⟨(BoxIs.new w _ _).under (bAlloc (Below.refl _ _) _), ?_, bAlloc (bAlloc (Below.refl _ _) _) _, by simp⟩
    have := RowU.new (w.alloc (.cells (partArr q) 92)) frm.length
    rwa [show (w.alloc (.cells (partArr q) 92)).heap.size = w.heap.size + 1 by simp] at this)
  have HM : Hid (Marks (PR s.data.toList n q) frm 0 (List.replicate frm.length false)) := Lib.hid (Marks.start _ _)
  have HPR : Hid (∀ i j, PR s.data.toList n q i j ↔ (j = i + q.text.size ∧ j ≤ s.data.toList.length ∧ (s.data.toList.drop i).take q.text.size = q.text.data.toList)) := Lib.hid (fun i j => by
    unfold PR PRel
    rw [if_pos hk1])
  generalize PR s.data.toList n q = R at *
  clear hF
  obtain ⟨kind, text, neg, rg, wys⟩ := q
  simp only [] at *
  subst hk1
  obtain ⟨N, hN0⟩ : ∃ N, frm.length = N := ⟨_, rfl⟩
  have HN := Lib.hid hN0
  have hN1 : N ≤ s.size + 1 := by omega
  have hN2 : s.size < N := by omega
  rw [hN0] at hmk HPA HM
  rw [hN0]
  clear hN hN0
  go_enter Tryz.func111, Tryz.ntmps111
  go_upto_region 2 with fail
  generalize (w.alloc _).alloc _ = w1 at *
  obtain ⟨p0, p1, p2, p3, p4, p5⟩ := HPA.out.1.part (p := (⟨1, text, neg, rg, wys⟩ : PartOf (P n)))
  simp only [] at p1
  clear p2 p3 p4 p5 hmk
  go_wp2_with fail
  go_loopg [28] N (fun g i wx => ∃ (k : Nat) (tos : List Bool), k + g = N ∧ i = .int .i64 k ∧ Hid (PassAt w (⟨1, text, neg, rg, wys⟩ : PartOf (P n)) w.heap.size frm tos wx) ∧ Hid (Marks R frm k tos))
  case atStart => exact ⟨0, _, by omega, rfl, HPA, HM⟩
  case round =>
    clear HPA HM p0 p1
    obtain ⟨k, tos, hk, rfl, HPA, HM⟩ := hrel
    obtain ⟨p0, p1, p2, p3, p4, p5⟩ := HPA.out.1.part (p := (⟨1, text, neg, rg, wys⟩ : PartOf (P n)))
    simp only [] at p2
    clear p1 p3 p4 p5
    by_cases hlt : k < N
    · obtain ⟨g, rfl⟩ : ∃ g, gk = g + 1 := ⟨gk - 1, by omega⟩
      obtain ⟨b, hb⟩ : ∃ b, frm[k]? = some b := ⟨_, List.getElem?_eq_getElem (by rw [HN.out]; exact hlt)⟩
      obtain ⟨ba, off, ha, hba, hca⟩ := (HF.out.under HPA.out.2.2.1).at (k := k) (u := .bool b) (by rw [List.getElem?_map, hb]; rfl)
      have HB := Lib.hid hb
      subst ha
      clear hb
      go_upto_region 7 with fail
      cases b
      · have HM2 : Hid (Marks R frm (k + 1) tos) := Lib.hid (HM.out.skip (fun h => by rw [HB.out] at h; cases h))
        go_quiet (fail)
        go_wp2_with fail
        go_roundg g
        case measure => omega
        case rel => exact ⟨k + 1, tos, by omega, by go_num, Lib.hid (HPA.out.drewN _), HM2⟩
      · obtain ⟨d, hd⟩ : ∃ d : Nat, s.size - k = d := ⟨_, rfl⟩
        have w1 : IntKind.i64.wrap ((s.size : Int) - (k : Int)) = (d : Int) := by rw [IntWalk.i64_in _ (by omega)]; omega
        by_cases hle : text.size ≤ d
        · obtain ⟨e, he⟩ : ∃ e : Nat, k + text.size = e := ⟨_, rfl⟩
          have w2 : IntKind.i64.wrap ((k : Int) + (text.size : Int)) = (e : Int) := by rw [IntWalk.i64_in _ (by omega)]; omega
          have hle2 : decide (text.size ≤ d) = true := decide_eq_true hle
          have hb1 : (0 : Int) ≤ (k : Int) := by omega
          have hb2 : (k : Int) ≤ (e : Int) := by omega
          have hb3 : (e : Int) ≤ (s.size : Int) := by omega
          have He := Lib.hid he
          have hx := ext_eq s text k e he
          obtain ⟨x, htx⟩ : ∃ x, tos[e]? = some x := ⟨_, List.getElem?_eq_getElem (by rw [HPA.out.2.2.2, HN.out]; omega)⟩
          obtain ⟨f1, f2⟩ := HPA.out.2.1.cell htx
          have hb4 : (e : Int) < (N : Int) := by omega
          have HR := Lib.hid (HPR.out k)
          clear hd he hle htx
          cases hq : ((s.extract k e).toList == text.toList)
          · have HM2 : Hid (Marks R frm (k + 1) tos) := Lib.hid (HM.out.skip (fun _ j h => by
              have h3 := ((HR.out j).1 h).2.2
              rw [hx.2 h3] at hq
              cases hq))
            clear hx f1 f2
            go_quiet (fail)
            go_wp2_with fail
            go_roundg g
            case measure => omega
            case rel => exact ⟨k + 1, tos, by omega, by go_num, Lib.hid (HPA.out.drewN _), HM2⟩
          · have HM2 : Hid (Marks R frm (k + 1) (tos.set e true)) := Lib.hid (HM.out.set HB.out (by rw [HN.out]; omega) (fun j => (HR.out j).trans ⟨fun h => h.1.trans He.out, fun h => ⟨h.trans He.out.symm, by rw [h, ← Lib.size_eq]; omega, hx.1 hq⟩⟩))
            clear hx
            go_quiet (fail)
            go_wp2_with fail
            go_roundg g
            case measure => omega
            case rel => exact ⟨k + 1, tos.set e true, by omega, by go_num, Lib.hid (PassAt.set (HPA.out.drewN _) e true), HM2⟩
        · have HM2 : Hid (Marks R frm (k + 1) tos) := Lib.hid (HM.out.skip (fun _ j h => by
            obtain ⟨h1, h2, _⟩ := (HPR.out k j).1 h
            rw [← Lib.size_eq] at h2
            omega))
          have hle2 : decide (text.size ≤ d) = false := decide_eq_false hle
          clear hd hle
          go_quiet (fail)
          go_wp2_with fail
          go_roundg g
          case measure => omega
          case rel => exact ⟨k + 1, tos, by omega, by go_num, Lib.hid (HPA.out.drewN _), HM2⟩
    · obtain rfl : k = N := by omega
      have HL : Hid (Leads R frm tos) := Lib.hid (Marks.done (by rw [HN.out]; exact HM.out))
      clear HM
      go_wp2_with fail
      go_ret
      exact ⟨w.heap.size + 1, tos, ret_slc HN.out.symm, Nat.le_succ _, HPA.out.2.1, HL.out, HPA.out.2.2.1⟩
end Go.Proofs.YtnpcbcnclncniaaGreatDoor
namespace Go.Proofs.YtnpcbcnclncniaaGreatDoor
open Go.RowKit

set_option maxHeartbeats 4000000 in
set_option maxRecDepth 100000 in
theorem pass_one (n : Nat) (q : PartOf (P n)) (s : ByteArray) (frm : List Bool) (a : Option Addr) (c : Nat) (w : World) (hk1 : q.kind = 2 ∨ q.kind = 5) (hN : frm.length = s.size + 1) (hs : s.size ≤ 100000) (hrg : SlHolds w 2 rgCells q.rg) (hrl : q.rg.xs.length ≤ 1048576) (hF : Holds w a (frm.map Value.bool)) :
    Calls Tryz.prog 111 #[partVal q, .string s, .slice a frm.length c] w (PassRes (PR s.data.toList n q) frm w) := by
  have HF := Lib.hid hF
  have hmk := fun W => make_of elem_places frm.length W (by omega)
  have HPA : Hid (PassAt w q w.heap.size frm (List.replicate frm.length false) ((w.alloc (.cells (partArr q) 92)).alloc (.cells (Array.replicate frm.length (Value.bool false)) 4))) := Lib.hid (by
    refine ⟨(BoxIs.new w _ _).under (bAlloc (Below.refl _ _) _), ?_, bAlloc (bAlloc (Below.refl _ _) _) _, by simp⟩
    have := RowU.new (w.alloc (.cells (partArr q) 92)) frm.length
    rwa [show (w.alloc (.cells (partArr q) 92)).heap.size = w.heap.size + 1 by simp] at this)
  have HM : Hid (Marks (PR s.data.toList n q) frm 0 (List.replicate frm.length false)) := Lib.hid (Marks.start _ _)
  have HPR : Hid (∀ i j, PR s.data.toList n q i j ↔ (j = i + 1 ∧ ∃ c, s.data.toList[i]? = some c ∧ oneB q c = true)) := Lib.hid (fun i j => by
    unfold PR PRel
    rw [if_neg (by omega), if_pos hk1])
  have HO := Lib.hid (fun ch W (hb : Below w.heap.size w W) => oneByte_any q ch W (hrg.under hb) hrl)
  generalize hq : PR s.data.toList n q = R at *
  have HOB := Lib.hid (fun ch => (⟨oneB q ch, rfl⟩ : ∃ B, oneB q ch = B))
  clear hF hrg hq
  obtain ⟨kind, text, neg, ⟨ra, rc, rxs⟩, ⟨wa, wcap, wxs⟩⟩ := q
  simp only [] at *
  obtain ⟨N, hN0⟩ : ∃ N, frm.length = N := ⟨_, rfl⟩
  have HN := Lib.hid hN0
  have hN1 : N ≤ s.size + 1 := by omega
  have hN2 : s.size < N := by omega
  rw [hN0] at hmk HPA HM
  rw [hN0]
  clear hN hN0
  have hkind : (kind == 1) = false ∧ ((kind == 2) = true ∨ ((kind == 2) = false ∧ (kind == 5) = true)) := by
    rcases hk1 with rfl | rfl
    · exact ⟨rfl, .inl rfl⟩
    · exact ⟨rfl, .inr ⟨rfl, rfl⟩⟩
  clear hk1
  go_enter Tryz.func111, Tryz.ntmps111
  go_upto_region 2 with fail
  generalize (w.alloc _).alloc _ = w1 at *
  obtain ⟨p0, p1, p2, p3, p4, p5⟩ := HPA.out.1.part (p := (⟨kind, text, neg, ⟨ra, rc, rxs⟩, ⟨wa, wcap, wxs⟩⟩ : PartOf (P n)))
  simp only [] at p1
  clear p2 p3 p4 p5 hmk
  obtain ⟨k1, k2⟩ := hkind
  rcases k2 with k2 | ⟨k2, k5⟩
  all_goals
    go_wp2_with fail
    go_loopg [70] N (fun g i wx => ∃ (k : Nat) (tos : List Bool), k + g = N ∧ i = .int .i64 k ∧ Hid (PassAt w (⟨kind, text, neg, ⟨ra, rc, rxs⟩, ⟨wa, wcap, wxs⟩⟩ : PartOf (P n)) w.heap.size frm tos wx) ∧ Hid (Marks R frm k tos))
    case atStart => exact ⟨0, _, by omega, rfl, HPA, HM⟩
    case round =>
      clear HPA HM p0 p1
      obtain ⟨k, tos, hk, rfl, HPA, HM⟩ := hrel
      by_cases hlt : k < N
      · obtain ⟨g, rfl⟩ : ∃ g, gk = g + 1 := ⟨gk - 1, by omega⟩
        obtain ⟨b, hb⟩ : ∃ b, frm[k]? = some b := ⟨_, List.getElem?_eq_getElem (by rw [HN.out]; exact hlt)⟩
        obtain ⟨ba, off, ha, hba, hca⟩ := (HF.out.under HPA.out.2.2.1).at (k := k) (u := .bool b) (by rw [List.getElem?_map, hb]; rfl)
        have HB := Lib.hid hb
        subst ha
        clear hb
        go_upto_region 15 with fail
        cases b
        · have HM2 : Hid (Marks R frm (k + 1) tos) := Lib.hid (HM.out.skip (fun h => by rw [HB.out] at h; cases h))
          go_quiet (fail)
          go_wp2_with fail
          go_roundg g
          case measure => omega
          case rel => exact ⟨k + 1, tos, by omega, by go_num, Lib.hid (HPA.out.drewN _), HM2⟩
        · by_cases hks : k < s.size
          case neg =>
            have HM2 : Hid (Marks R frm (k + 1) tos) := Lib.hid (HM.out.skip (fun _ j h => by
              obtain ⟨_, ch, h1, _⟩ := (HPR.out k j).1 h
              have := (List.getElem?_eq_some_iff.1 h1).1
              rw [← Lib.size_eq] at this
              omega))
            have hkd : decide (k < s.size) = false := decide_eq_false hks
            clear hks
            go_quiet (fail)
            go_wp2_with fail
            go_roundg g
            case measure => omega
            case rel => exact ⟨k + 1, tos, by omega, by go_num, Lib.hid (HPA.out.drewN _), HM2⟩
          obtain ⟨ch, hch⟩ : ∃ ch : UInt8, s[k]'hks = ch := ⟨_, rfl⟩
          have HCh : Hid (s.data.toList[k]? = some ch) := Lib.hid (by rw [← hch]; exact Lib.data_getElem? s k hks)
          have HR := Lib.hid (HPR.out k)
          have HC := Lib.hid (HO.out ch wr.drew (show Below w.heap.size w wr.drew from ⟨HPA.out.2.2.1.os, HPA.out.2.2.1.tape, HPA.out.2.2.1.output, HPA.out.2.2.1.size, HPA.out.2.2.1.block⟩))
          obtain ⟨B, hB⟩ := HOB.out ch
          rw [hB] at HC
          have HB2 := Lib.hid hB
          have hkd : decide (k < s.size) = true := decide_eq_true hks
          have hk0 : (0 : Int) ≤ (k : Int) := by omega
          have hk1 : (k : Int) < (s.size : Int) := by omega
          obtain ⟨x, htx⟩ : ∃ x, tos[k + 1]? = some x := ⟨_, List.getElem?_eq_getElem (by rw [HPA.out.2.2.2, HN.out]; omega)⟩
          have HX := Lib.hid htx
          obtain ⟨p0, p1, p2, p3, p4, p5⟩ := HPA.out.1.part (p := (⟨kind, text, neg, ⟨ra, rc, rxs⟩, ⟨wa, wcap, wxs⟩⟩ : PartOf (P n)))
          simp only [] at p1 p2 p3 p4 p5
          clear hB htx
          go_cut [88] (fun s88 wx => s88 = .bool B ∧ Below wr.heap.size wr wx)
          case first =>
            go_region_held3 (fun w' => w'.cell? ⟨w.heap.size, 0, none⟩ = some (.int .i64 kind) ∧ w'.cell? ⟨w.heap.size, 1, none⟩ = some (.string text) ∧ w'.cell? ⟨w.heap.size, 2, none⟩ = some (.bool neg) ∧ w'.cell? ⟨w.heap.size, 3, none⟩ = some (.slice ra rxs.length rc) ∧ w'.cell? ⟨w.heap.size, 4, none⟩ = some (.slice wa wxs.length wcap))
              (first | go_keep | exact ⟨(hb3.cell (p := ⟨w.heap.size, 0, none⟩) p0).trans p1, (hb3.cell (p := ⟨w.heap.size, 1, none⟩) p0).trans p2, (hb3.cell (p := ⟨w.heap.size, 2, none⟩) p0).trans p3, (hb3.cell (p := ⟨w.heap.size, 3, none⟩) p0).trans p4, (hb3.cell (p := ⟨w.heap.size, 4, none⟩) p0).trans p5⟩)
              ((go_at_call 115; refine HC.out.mono ?_; rintro e w3 ⟨rfl, hb3⟩))
            go_wp2_with fail
            go_meet
            exact ⟨rfl, ⟨hb3.os, hb3.tape, hb3.output, hb3.size, hb3.block⟩⟩
          case rest =>
          obtain ⟨rfl, hbc⟩ := hcut
          have HPA2 := Lib.hid (HPA.out.under hbc)
          obtain ⟨f1, f2⟩ := HPA2.out.2.1.cell HX.out
          clear p0 p1 p2 p3 p4 p5 HC HPA hca
          cases B
          · have HM2 : Hid (Marks R frm (k + 1) tos) := Lib.hid (HM.out.skip (fun _ j h => by
              obtain ⟨_, ch', h1, h2⟩ := (HR.out j).1 h
              rw [HCh.out] at h1
              cases h1
              rw [HB2.out] at h2
              cases h2))
            clear f1 f2
            go_wp2_with fail
            go_roundg g
            case measure => omega
            case rel => exact ⟨k + 1, tos, by omega, by go_num, HPA2, HM2⟩
          · have HM2 : Hid (Marks R frm (k + 1) (tos.set (k + 1) true)) := Lib.hid (HM.out.set HB.out (by rw [HN.out]; omega) (fun j => (HR.out j).trans ⟨fun h => h.1, fun h => ⟨h, ch, HCh.out, HB2.out⟩⟩))
            go_wp2_with fail
            go_roundg g
            case measure => omega
            case rel => exact ⟨k + 1, tos.set (k + 1) true, by omega, by go_num, Lib.hid (PassAt.set HPA2.out (k + 1) true), HM2⟩
      · obtain rfl : k = N := by omega
        have HL : Hid (Leads R frm tos) := Lib.hid (Marks.done (by rw [HN.out]; exact HM.out))
        clear HM
        go_wp2_with fail
        go_ret
        exact ⟨w.heap.size + 1, tos, ret_slc HN.out.symm, Nat.le_succ _, HPA.out.2.1, HL.out, HPA.out.2.2.1⟩
end Go.Proofs.YtnpcbcnclncniaaGreatDoor
namespace Go.Proofs.YtnpcbcnclncniaaGreatDoor
open Go.RowKit

/-- Stars lead from one place to another. -/
def StarR (L : List UInt8) (one : Bool) (i j : Nat) : Prop := i ≤ j ∧ j ≤ L.length ∧ (one = true → ∀ m, i ≤ m → m < j → L[m]? ≠ some 47)
/-- What the loop over the places has marked so far; whether a star is on. -/
def SMarks (L : List UInt8) (one : Bool) (frm : List Bool) (k : Nat) (tos : List Bool) (on : Bool) : Prop :=
  tos.length = frm.length ∧ (∀ j, tos[j]? = some true ↔ j < k ∧ ∃ i, frm[i]? = some true ∧ StarR L one i j) ∧ (on = true ↔ ∃ i, i < k ∧ frm[i]? = some true ∧ (one = true → ∀ m, i ≤ m → m < k → L[m]? ≠ some 47))
theorem SMarks.start (L : List UInt8) (one : Bool) (frm : List Bool) : SMarks L one frm 0 (List.replicate frm.length false) false := by
  refine ⟨by simp, fun j => ⟨fun h => ?_, fun ⟨h, _⟩ => absurd h (Nat.not_lt_zero _)⟩, ⟨fun h => absurd h Bool.false_ne_true, fun ⟨i, h, _⟩ => absurd h (Nat.not_lt_zero _)⟩⟩
  rw [List.getElem?_replicate] at h
  split at h <;> simp at h
theorem SMarks.on1 {L : List UInt8} {one : Bool} {frm tos : List Bool} {k : Nat} {on b : Bool} (h : SMarks L one frm k tos on) (hb : frm[k]? = some b) (hk : k ≤ L.length) : (on || b) = true ↔ ∃ i, frm[i]? = some true ∧ StarR L one i k := by
  rw [Bool.or_eq_true]
  constructor
  · rintro (h1 | rfl)
    · obtain ⟨i, hi, hf, hm⟩ := h.2.2.1 h1
      exact ⟨i, hf, by omega, hk, hm⟩
    · exact ⟨k, hb, Nat.le_refl _, hk, fun _ m h1 h2 => absurd h2 (by omega)⟩
  · rintro ⟨i, hf, hi, _, hm⟩
    by_cases e : i = k
    · subst e
      rw [hb] at hf
      exact .inr (by simpa using hf)
    · exact .inl (h.2.2.2 ⟨i, by omega, hf, hm⟩)
theorem SMarks.step {L : List UInt8} {one : Bool} {frm tos : List Bool} {k : Nat} {on b : Bool} (h : SMarks L one frm k tos on) (hb : frm[k]? = some b) (hk : k ≤ L.length) (hkf : k < frm.length) (stop : Bool) (hs : stop = true ↔ (one = true ∧ L[k]? = some 47)) :
    SMarks L one frm (k + 1) (tos.set k (on || b)) ((on || b) && !stop) := by
  have hon := h.on1 hb hk
  refine ⟨by rw [List.length_set]; exact h.1, fun j => ?_, ?_⟩
  · rw [List.getElem?_set]
    by_cases e : k = j
    · subst e
      rw [if_pos rfl, if_pos (by rw [h.1]; exact hkf)]
      constructor
      · intro h1
        exact ⟨by omega, hon.1 (by simpa using h1)⟩
      · rintro ⟨_, h1⟩
        rw [hon.2 h1]
    · rw [if_neg e, h.2.1 j]
      constructor
      · rintro ⟨h1, h2⟩
        exact ⟨by omega, h2⟩
      · rintro ⟨h1, h2⟩
        exact ⟨by omega, h2⟩
  · rw [Bool.and_eq_true, hon]
    constructor
    · rintro ⟨⟨i, hf, hi, _, hm⟩, h2⟩
      have hns : ¬ (one = true ∧ L[k]? = some 47) := fun h3 => by
        rw [hs.2 h3] at h2
        cases h2
      refine ⟨i, by omega, hf, fun ho m h1 h2 => ?_⟩
      by_cases e : m = k
      · subst e
        exact fun h3 => hns ⟨ho, h3⟩
      · exact hm ho m h1 (by omega)
    · rintro ⟨i, hi, hf, hm⟩
      refine ⟨⟨i, hf, by omega, hk, fun ho m h1 h2 => hm ho m h1 (by omega)⟩, ?_⟩
      cases hst : stop
      · rfl
      · obtain ⟨ho, h3⟩ := hs.1 hst
        exact absurd h3 (hm ho k (by omega) (by omega))
theorem SMarks.done {L : List UInt8} {one : Bool} {frm tos : List Bool} {on : Bool} (h : SMarks L one frm frm.length tos on) (hl : frm.length = L.length + 1) : Leads (StarR L one) frm tos :=
  ⟨h.1, fun j => (h.2.1 j).trans ⟨fun h => h.2, fun ⟨i, hf, hr⟩ => ⟨by have := hr.2.1; omega, i, hf, hr⟩⟩⟩

set_option maxHeartbeats 4000000 in
set_option maxRecDepth 100000 in
theorem pass_star (n : Nat) (q : PartOf (P n)) (s : ByteArray) (frm : List Bool) (a : Option Addr) (c : Nat) (w : World) (hk1 : q.kind = 3 ∨ q.kind = 4) (hN : frm.length = s.size + 1) (hs : s.size ≤ 100000) (hF : Holds w a (frm.map Value.bool)) :
    Calls Tryz.prog 111 #[partVal q, .string s, .slice a frm.length c] w (PassRes (PR s.data.toList n q) frm w) := by
  have HF := Lib.hid hF
  have hmk := fun W => make_of elem_places frm.length W (by omega)
  have HPA : Hid (PassAt w q w.heap.size frm (List.replicate frm.length false) ((w.alloc (.cells (partArr q) 92)).alloc (.cells (Array.replicate frm.length (Value.bool false)) 4))) := Lib.hid (by
    refine ⟨(BoxIs.new w _ _).under (bAlloc (Below.refl _ _) _), ?_, bAlloc (bAlloc (Below.refl _ _) _) _, by simp⟩
    have := RowU.new (w.alloc (.cells (partArr q) 92)) frm.length
    rwa [show (w.alloc (.cells (partArr q) 92)).heap.size = w.heap.size + 1 by simp] at this)
  have HM : Hid (SMarks s.data.toList (q.kind == 3) frm 0 (List.replicate frm.length false) false) := Lib.hid (SMarks.start _ _ _)
  have hPR : PR s.data.toList n q = StarR s.data.toList (q.kind == 3) := by
    funext i j
    unfold PR PRel StarR
    rw [if_neg (by omega), if_neg (by omega), if_pos hk1]
    simp
  rw [hPR]
  have hsl : frm.length = s.data.toList.length + 1 := by rw [← Lib.size_eq]; exact hN
  have HSL := Lib.hid hsl
  clear hF hPR hsl
  obtain ⟨kind, text, neg, ⟨ra, rc, rxs⟩, ⟨wa, wcap, wxs⟩⟩ := q
  simp only [] at *
  obtain ⟨N, hN0⟩ : ∃ N, frm.length = N := ⟨_, rfl⟩
  have HN := Lib.hid hN0
  have hN1 : N ≤ s.size + 1 := by omega
  have hN2 : s.size < N := by omega
  rw [hN0] at hmk HPA HM
  clear hN
  have hkind : (kind == 1) = false ∧ (kind == 2) = false ∧ (kind == 5) = false ∧ ((kind == 3) = true ∨ ((kind == 3) = false ∧ (kind == 4) = true)) := by
    rcases hk1 with rfl | rfl
    · exact ⟨rfl, rfl, rfl, .inl rfl⟩
    · exact ⟨rfl, rfl, rfl, .inr ⟨rfl, rfl⟩⟩
  obtain ⟨k1, k2, k5, k3⟩ := hkind
  obtain ⟨on1, hon1⟩ : ∃ o : Bool, (kind == 3) = o := ⟨_, rfl⟩
  rw [hon1]
  have HO1 := Lib.hid hon1
  rw [hon1] at HM
  rw [hN0]
  clear hk1 hN0
  go_enter Tryz.func111, Tryz.ntmps111
  go_upto_region 2 with fail
  generalize (w.alloc _).alloc _ = w1 at *
  obtain ⟨p0, p1, p2, p3, p4, p5⟩ := HPA.out.1.part (p := (⟨kind, text, neg, ⟨ra, rc, rxs⟩, ⟨wa, wcap, wxs⟩⟩ : PartOf (P n)))
  simp only [] at p1
  clear p2 p3 p4 p5 hmk hon1
  rcases k3 with k3 | ⟨k3, k4⟩
  all_goals
    go_wp2_with fail
    go_loopg [12, 99] N (fun g s12 i wx => ∃ (k : Nat) (tos : List Bool) (on : Bool), k + g = N ∧ i = .int .i64 k ∧ s12 = .bool on ∧ Hid (PassAt w (⟨kind, text, neg, ⟨ra, rc, rxs⟩, ⟨wa, wcap, wxs⟩⟩ : PartOf (P n)) w.heap.size frm tos wx) ∧ Hid (SMarks s.data.toList on1 frm k tos on))
    case atStart => exact ⟨0, _, false, by omega, rfl, rfl, HPA, HM⟩
    case round =>
      clear HPA HM p0 p1
      obtain ⟨k, tos, on, hk, rfl, rfl, HPA, HM⟩ := hrel
      by_cases hlt : k < N
      · obtain ⟨g, rfl⟩ : ∃ g, gk = g + 1 := ⟨gk - 1, by omega⟩
        obtain ⟨b, hb⟩ : ∃ b, frm[k]? = some b := ⟨_, List.getElem?_eq_getElem (by rw [HN.out]; exact hlt)⟩
        obtain ⟨ba, off, ha, hba, hca⟩ := (HF.out.under HPA.out.2.2.1).at (k := k) (u := .bool b) (by rw [List.getElem?_map, hb]; rfl)
        obtain ⟨x, htx⟩ : ∃ x, tos[k]? = some x := ⟨_, List.getElem?_eq_getElem (by rw [HPA.out.2.2.2, HN.out]; exact hlt)⟩
        obtain ⟨f1, f2⟩ := HPA.out.2.1.cell htx
        have HPA2 := Lib.hid (PassAt.set HPA.out k (on || b))
        have HStep := Lib.hid (fun stop h => SMarks.step HM.out hb (by have := HSL.out; rw [HN.out] at this; omega) (by rw [HN.out]; exact hlt) stop h)
        subst ha
        clear hb htx HM
        go_upto_region 24 with fail
        go_cut [12] (fun s12 wx => s12 = .bool (on || b) ∧ wr = wx)
        case first =>
          cases on
          all_goals
            go_wp2_with fail
            go_meet
            exact ⟨by simp, rfl⟩
        case rest =>
        obtain ⟨rfl, rfl⟩ := hcut
        generalize (on || b) = o2 at *
        go_upto_region 26 with fail
        generalize World.setCell wr _ _ = w5 at *
        clear f1 f2 hca
        obtain ⟨p0, p1, p2, p3, p4, p5⟩ := HPA2.out.1.part (p := (⟨kind, text, neg, ⟨ra, rc, rxs⟩, ⟨wa, wcap, wxs⟩⟩ : PartOf (P n)))
        simp only [] at p1
        clear p2 p3 p4 p5
        by_cases hks : k < s.size
        case neg =>
          have HM2 : Hid (SMarks s.data.toList on1 frm (k + 1) (tos.set k o2) o2) := Lib.hid (by
            have := HStep.out false ⟨fun h => absurd h Bool.false_ne_true, fun ⟨_, h⟩ => by
              have h2 := (List.getElem?_eq_some_iff.1 h).1
              rw [← Lib.size_eq] at h2
              omega⟩
            simpa using this)
          clear HStep
          go_wp2_with fail
          go_roundg g
          case measure => omega
          case rel => exact ⟨k + 1, tos.set k o2, o2, by omega, by go_num, rfl, HPA2, HM2⟩
        obtain ⟨ch, hch⟩ : ∃ ch : UInt8, s[k]'hks = ch := ⟨_, rfl⟩
        have HCh : Hid (s.data.toList[k]? = some ch) := Lib.hid (by rw [← hch]; exact Lib.data_getElem? s k hks)
        by_cases h47 : ch = 47
        · have e47 : ((ch.toNat : Int) == 47) = true := by rw [h47]; rfl
          have HM2 : Hid (SMarks s.data.toList on1 frm (k + 1) (tos.set k o2) (o2 && !on1)) := Lib.hid (HStep.out on1 ⟨fun h => ⟨h, by rw [HCh.out, h47]⟩, fun h => h.1⟩)
          rw [← HO1.out, k3] at HM2
          have HM3 : Hid (SMarks s.data.toList on1 frm (k + 1) (tos.set k o2) (if kind == 3 then false else o2)) := Lib.hid (by
            have h := HM2.out
            rw [← HO1.out, k3]
            simpa using h)
          rw [k3] at HM3
          clear HStep h47 HM2
          go_wp2_with fail
          go_roundg g
          case measure => omega
          case rel => exact ⟨k + 1, tos.set k o2, _, by omega, by go_num, rfl, HPA2, HM3⟩
        · have e47 : ((ch.toNat : Int) == 47) = false := by
            have : ch.toNat ≠ 47 := fun e => h47 (UInt8.toNat_inj.1 (by simpa using e))
            simp only [beq_eq_false_iff_ne, ne_eq]
            omega
          have HM2 : Hid (SMarks s.data.toList on1 frm (k + 1) (tos.set k o2) o2) := Lib.hid (by
            have := HStep.out false ⟨fun h => absurd h Bool.false_ne_true, fun ⟨_, h⟩ => by
              rw [HCh.out] at h
              exact absurd (by simpa using h) h47⟩
            simpa using this)
          clear HStep h47
          go_wp2_with fail
          go_roundg g
          case measure => omega
          case rel => exact ⟨k + 1, tos.set k o2, o2, by omega, by go_num, rfl, HPA2, HM2⟩
      · obtain rfl : k = N := by omega
        have HL : Hid (Leads (StarR s.data.toList on1) frm tos) := Lib.hid (SMarks.done (by rw [HN.out]; exact HM.out) HSL.out)
        clear HM
        go_wp2_with fail
        go_ret
        exact ⟨w.heap.size + 1, tos, ret_slc HN.out.symm, Nat.le_succ _, HPA.out.2.1, HL.out, HPA.out.2.2.1⟩
end Go.Proofs.YtnpcbcnclncniaaGreatDoor
namespace Go.Proofs.YtnpcbcnclncniaaGreatDoor
open Go.RowKit

/-- The places behind a list of parts: those ahead of it, or a row of the call's own. -/
def Src (w : World) (a : Option Addr) (c : Nat) (frm : List Bool) (a' : Option Addr) (c' : Nat) (ps : List Bool) (wx : World) : Prop :=
  (a' = a ∧ c' = c ∧ ps = frm) ∨ ∃ g, a' = some ⟨g, 0, none⟩ ∧ c' = frm.length ∧ w.heap.size ≤ g ∧ RowU wx g ps
theorem Src.under {w wx w' : World} {a a' : Option Addr} {c c' : Nat} {frm ps : List Bool} (h : Src w a c frm a' c' ps wx) (hb : Below wx.heap.size wx w') : Src w a c frm a' c' ps w' := by
  rcases h with h | ⟨g, h1, h2, h3, h4⟩
  · exact .inl h
  · exact .inr ⟨g, h1, h2, h3, h4.under hb⟩
theorem Src.holds {w wx : World} {a a' : Option Addr} {c c' : Nat} {frm ps : List Bool} (h : Src w a c frm a' c' ps wx) (hF : Holds w a (frm.map Value.bool)) (hb : Below w.heap.size w wx) : Holds wx a' (ps.map Value.bool) := by
  rcases h with ⟨rfl, _, rfl⟩ | ⟨g, rfl, _, _, h4⟩
  · exact hF.under hb
  · exact h4.holds
def AllRes (r : Nat → Nat → Prop) (frm : List Bool) (a : Option Addr) (c : Nat) (w : World) (e : Ending) (w' : World) : Prop :=
  ∃ a' c' ps, e = .returned (.slice a' frm.length c') ∧ Src w a c frm a' c' ps w' ∧ Leads r frm ps ∧ Below w.heap.size w w'
/-- names.passAll does so for parts of a depth. -/
def AllDoes (n : Nat) : Prop := ∀ (xs : Sl (P n)) (s : ByteArray) (frm : List Bool) (a : Option Addr) (c : Nat) (w : World), SOk w n xs → Good n xs.xs → szL n xs.xs ≤ 1048576 → frm.length = s.size + 1 → s.size ≤ 100000 → Holds w a (frm.map Value.bool) →
  Calls Tryz.prog 85 #[.slice xs.a xs.xs.length xs.c, .string s, .slice a frm.length c] w (AllRes (Rel s.data.toList n xs.xs) frm a c w)

def WMarks (L : List UInt8) (n : Nat) (wys : List (Sl (P n))) (frm : List Bool) (m : Nat) (tos : List Bool) : Prop :=
  tos.length = frm.length ∧ ∀ j, tos[j]? = some true ↔ ∃ t ∈ wys.take m, ∃ i, frm[i]? = some true ∧ Rel L n t.xs i j
theorem WMarks.start (L : List UInt8) (n : Nat) (wys : List (Sl (P n))) (frm : List Bool) : WMarks L n wys frm 0 (List.replicate frm.length false) := by
  refine ⟨by simp, fun j => ⟨fun h => ?_, fun ⟨t, h, _⟩ => by simp at h⟩⟩
  rw [List.getElem?_replicate] at h
  split at h <;> simp at h
theorem WMarks.step {L : List UInt8} {n : Nat} {wys : List (Sl (P n))} {frm tos tos' ps : List Bool} {m : Nat} {t : Sl (P n)} (h : WMarks L n wys frm m tos) (ht : wys[m]? = some t) (hl : Leads (Rel L n t.xs) frm ps) (h1 : tos'.length = frm.length) (h2 : ∀ j : Nat, tos'[j]? = some true ↔ tos[j]? = some true ∨ ps[j]? = some true) : WMarks L n wys frm (m + 1) tos' := by
  refine ⟨h1, fun j => ?_⟩
  rw [h2 j, h.2 j, hl.2 j, List.take_add_one, ht]
  constructor
  · rintro (⟨t', h3, h4⟩ | h4)
    · exact ⟨t', by simp [h3], h4⟩
    · exact ⟨t, by simp, h4⟩
  · rintro ⟨t', h3, h4⟩
    rcases List.mem_append.1 h3 with h3 | h3
    · exact .inl ⟨t', h3, h4⟩
    · have : t' = t := by simpa using h3
      subst this
      exact .inr h4

/-- The inner loop's marks. -/
def OrTo (tos0 ps : List Bool) (k : Nat) (tos : List Bool) : Prop := tos.length = tos0.length ∧ ∀ j, tos[j]? = some true ↔ tos0[j]? = some true ∨ (j < k ∧ ps[j]? = some true)
theorem OrTo.start (tos ps : List Bool) : OrTo tos ps 0 tos := ⟨rfl, fun _ => ⟨fun h => .inl h, fun h => h.elim id (fun h => absurd h.1 (Nat.not_lt_zero _))⟩⟩
theorem OrTo.step {tos0 ps tos : List Bool} {k : Nat} {x b : Bool} (h : OrTo tos0 ps k tos) (hx : tos[k]? = some x) (hb : ps[k]? = some b) : OrTo tos0 ps (k + 1) (tos.set k (x || b)) := by
  have hk := (List.getElem?_eq_some_iff.1 hx).1
  refine ⟨by rw [List.length_set]; exact h.1, fun j => ?_⟩
  rw [List.getElem?_set]
  by_cases e : k = j
  · subst e
    rw [if_pos rfl, if_pos hk]
    have h2 := h.2 k
    rw [hx] at h2
    constructor
    · intro h3
      have h3 : (x || b) = true := by simpa using h3
      rcases Bool.or_eq_true_iff.1 h3 with rfl | rfl
      · rcases h2.1 rfl with h4 | ⟨h4, _⟩
        · exact .inl h4
        · omega
      · exact .inr ⟨by omega, hb⟩
    · rintro (h3 | ⟨_, h3⟩)
      · have := h2.2 (.inl h3)
        cases this
        rfl
      · rw [hb] at h3
        cases h3
        simp
  · rw [if_neg e, h.2 j]
    constructor
    · rintro (h3 | ⟨h3, h4⟩)
      · exact .inl h3
      · exact .inr ⟨by omega, h4⟩
    · rintro (h3 | ⟨h3, h4⟩)
      · exact .inl h3
      · exact .inr ⟨by omega, h4⟩

set_option maxHeartbeats 4000000 in
set_option maxRecDepth 100000 in
theorem pass_ways (n : Nat) (hAll : AllDoes n) (q : PartOf (P n)) (s : ByteArray) (frm : List Bool) (a : Option Addr) (c : Nat) (w : World) (hk1 : q.kind = 6) (hN : frm.length = s.size + 1) (hs : s.size ≤ 100000)
    (hw1 : SlHolds w 1 (fun s : Sl (P n) => [s.val]) q.ways) (hw2 : ∀ t ∈ q.ways.xs, SOk w n t ∧ Good n t.xs ∧ szL n t.xs ≤ 1048576) (hwl : q.ways.xs.length ≤ 1048576) (hF : Holds w a (frm.map Value.bool)) :
    Calls Tryz.prog 111 #[partVal q, .string s, .slice a frm.length c] w (PassRes (PR s.data.toList n q) frm w) := by
  have HF := Lib.hid hF
  have HW1 := Lib.hid hw1
  have HW2 := Lib.hid hw2
  have HAll := Lib.hid (fun t W h1 h2 h3 h4 => hAll t s frm a c W h1 h2 h3 hN hs h4)
  have hmk := fun W => make_of elem_places frm.length W (by omega)
  have HPA : Hid (PassAt w q w.heap.size frm (List.replicate frm.length false) ((w.alloc (.cells (partArr q) 92)).alloc (.cells (Array.replicate frm.length (Value.bool false)) 4))) := Lib.hid (by
    refine ⟨(BoxIs.new w _ _).under (bAlloc (Below.refl _ _) _), ?_, bAlloc (bAlloc (Below.refl _ _) _) _, by simp⟩
    have := RowU.new (w.alloc (.cells (partArr q) 92)) frm.length
    rwa [show (w.alloc (.cells (partArr q) 92)).heap.size = w.heap.size + 1 by simp] at this)
  have HM : Hid (WMarks s.data.toList n q.ways.xs frm 0 (List.replicate frm.length false)) := Lib.hid (WMarks.start _ _ _ _)
  have hPR : Hid (∀ i j, (∃ t ∈ q.ways.xs, Rel s.data.toList n t.xs i j) → PR s.data.toList n q i j) := Lib.hid (fun i j h => by
    unfold PR PRel
    rw [if_neg (by omega), if_neg (by omega), if_neg (by omega), if_pos hk1]
    exact h)
  have hPR2 : Hid (∀ i j, PR s.data.toList n q i j → (∃ t ∈ q.ways.xs, Rel s.data.toList n t.xs i j)) := Lib.hid (fun i j h => by
    unfold PR PRel at h
    rw [if_neg (by omega), if_neg (by omega), if_neg (by omega), if_pos hk1] at h
    exact h)
  generalize PR s.data.toList n q = R at *
  clear hF hw1 hw2 hAll
  obtain ⟨kind, text, neg, ⟨ra, rc, rxs⟩, ⟨wa, wcap, wxs⟩⟩ := q
  simp only [] at *
  subst hk1
  obtain ⟨N, hN0⟩ : ∃ N, frm.length = N := ⟨_, rfl⟩
  have HN := Lib.hid hN0
  have hN1 : N ≤ s.size + 1 := by omega
  have hN2 : s.size < N := by omega
  rw [hN0] at hmk HPA HM
  rw [hN0]
  clear hN
  go_enter Tryz.func111, Tryz.ntmps111
  go_upto_region 2 with fail
  generalize (w.alloc _).alloc _ = w1 at *
  obtain ⟨p0, p1, p2, p3, p4, p5⟩ := HPA.out.1.part (p := (⟨6, text, neg, ⟨ra, rc, rxs⟩, ⟨wa, wcap, wxs⟩⟩ : PartOf (P n)))
  simp only [] at p1 p5
  clear p2 p3 p4 hmk hN0
  go_wp2_with fail
  go_loopg [133] wxs.length (fun g i wx => ∃ (m : Nat) (tos : List Bool), m + g = wxs.length ∧ i = .int .i64 m ∧ Hid (PassAt w (⟨6, text, neg, ⟨ra, rc, rxs⟩, ⟨wa, wcap, wxs⟩⟩ : PartOf (P n)) w.heap.size frm tos wx) ∧ Hid (WMarks s.data.toList n wxs frm m tos))
  case atStart => exact ⟨0, _, by omega, rfl, HPA, HM⟩
  case round =>
    clear HPA HM p0 p1 p5
    obtain ⟨m, tos, hm, rfl, HPA, HM⟩ := hrel
    by_cases hlt : m < wxs.length
    · obtain ⟨g, rfl⟩ : ∃ g, gk = g + 1 := ⟨gk - 1, by omega⟩
      obtain ⟨t, hx⟩ : ∃ t : Sl (P n), wxs[m]? = some t := ⟨_, List.getElem?_eq_getElem hlt⟩
      obtain ⟨bw, ow, ha, hbw, r0⟩ := wayRow (HW1.out.under HPA.out.2.2.1) hx
      have hmem := List.mem_of_getElem? hx
      obtain ⟨ht1, ht2, ht3⟩ := HW2.out t hmem
      have HC := Lib.hid (HAll.out t wr (ht1.under HPA.out.2.2.1) ht2 ht3 (HF.out.under HPA.out.2.2.1))
      rw [HN.out] at HC
      have HX := Lib.hid hx
      simp only [] at ha
      subst ha
      clear hx hmem ht1 ht2 ht3
      obtain ⟨wo, rfl⟩ : ∃ wo : World, wo = wr := ⟨_, rfl⟩
      go_wp2_with fail
      refine HC.out.mono ?_
      rintro e w5 ⟨a', c', ps, rfl, hsrc, hL, hb5⟩
      have HL := Lib.hid hL
      have HSrc : Hid (a' = a ∧ ps = frm ∨ ∃ g, a' = some ⟨g, 0, none⟩ ∧ w.heap.size + 1 < g ∧ RowU w5 g ps) := Lib.hid (by
        rcases hsrc with ⟨h1, _, h2⟩ | ⟨g, h1, _, h2, h3⟩
        · exact .inl ⟨h1, h2⟩
        · exact .inr ⟨g, h1, by have := HPA.out.2.1.lt; omega, h3⟩)
      have HPA5 := Lib.hid (HPA.out.under hb5)
      have hpl : ps.length = N := by rw [hL.1, HN.out]
      have HPL := Lib.hid hpl
      clear r0 HC hL hsrc HPA hpl hb5
      rw [HN.out]
      go_wp2_with fail
      go_loopg [142] N (fun g i wx => ∃ (k : Nat) (tos' : List Bool), k + g = N ∧ i = .int .i64 k ∧ Hid (PassAt w (⟨6, text, neg, ⟨ra, rc, rxs⟩, ⟨some ⟨bw, ow, none⟩, wcap, wxs⟩⟩ : PartOf (P n)) w.heap.size frm tos' wx) ∧ Hid (OrTo tos ps k tos') ∧ Hid (a' = a ∧ ps = frm ∨ ∃ g, a' = some ⟨g, 0, none⟩ ∧ w.heap.size + 1 < g ∧ RowU wx g ps))
      case atStart => exact ⟨0, tos, by omega, rfl, HPA5, Lib.hid (OrTo.start _ _), HSrc⟩
      case round =>
        clear HPA5 HSrc
        obtain ⟨k, tos', hk, rfl, HPA, HO, HSrc⟩ := hrel
        by_cases hlt2 : k < N
        · obtain ⟨g2, rfl⟩ : ∃ g2, gk = g2 + 1 := ⟨gk - 1, by omega⟩
          obtain ⟨b, hb⟩ : ∃ b, ps[k]? = some b := ⟨_, List.getElem?_eq_getElem (by rw [HPL.out]; exact hlt2)⟩
          obtain ⟨x, htx⟩ : ∃ x, tos'[k]? = some x := ⟨_, List.getElem?_eq_getElem (by rw [HPA.out.2.2.2, HN.out]; exact hlt2)⟩
          obtain ⟨f1, f2⟩ := HPA.out.2.1.cell htx
          have hH : Holds wr a' (ps.map Value.bool) := by
            rcases HSrc.out with ⟨h1, h2⟩ | ⟨g, h1, _, h2⟩
            · rw [h1, h2]
              exact HF.out.under HPA.out.2.2.1
            · rw [h1]
              exact h2.holds
          obtain ⟨ba, off, ha, hba, hca⟩ := hH.at (k := k) (u := .bool b) (by rw [List.getElem?_map, hb]; rfl)
          have HO2 := Lib.hid (HO.out.step htx hb)
          have HPA2 := Lib.hid (PassAt.set HPA.out k (x || b))
          have HSrc2 : Hid (a' = a ∧ ps = frm ∨ ∃ g, a' = some ⟨g, 0, none⟩ ∧ w.heap.size + 1 < g ∧ RowU (wr.setCell ⟨w.heap.size + 1, k, none⟩ (.bool (x || b))) g ps) := Lib.hid (by
            rcases HSrc.out with h | ⟨g, h1, h2, h3⟩
            · exact .inl h
            · exact .inr ⟨g, h1, h2, h3.setOther (by omega) _ _⟩)
          subst ha
          clear hb htx hH HO HSrc
          cases x
          all_goals
            go_wp2_with fail
            go_roundg g2
            case measure => omega
            case rel => exact ⟨k + 1, _, by omega, by go_num, HPA2, HO2, HSrc2⟩
        · obtain rfl : k = N := by omega
          have HM2 : Hid (WMarks s.data.toList n wxs frm (m + 1) tos') := Lib.hid (WMarks.step HM.out HX.out HL.out HPA.out.2.2.2 (fun j => (HO.out.2 j).trans ⟨fun h => h.imp id (fun h => h.2), fun h => h.imp id (fun h => ⟨by
            have := (List.getElem?_eq_some_iff.1 h).1
            rw [HPL.out] at this
            exact this, h⟩)⟩))
          clear HM HO
          go_wp2_with fail
          go_roundg g
          case measure => omega
          case rel => exact ⟨m + 1, tos', by omega, by go_num, HPA, HM2⟩
    · obtain rfl : m = wxs.length := by omega
      have HL : Hid (Leads R frm tos) := Lib.hid (by
        refine ⟨HM.out.1, fun j => (HM.out.2 j).trans ?_⟩
        rw [List.take_of_length_le (Nat.le_refl _)]
        exact ⟨fun ⟨t, h1, i, h2, h3⟩ => ⟨i, h2, hPR.out i j ⟨t, h1, h3⟩⟩, fun ⟨i, h2, h3⟩ => by
          obtain ⟨t, h4, h5⟩ := hPR2.out i j h3
          exact ⟨t, h4, i, h2, h5⟩⟩)
      clear HM
      go_wp2_with fail
      go_ret
      exact ⟨w.heap.size + 1, tos, ret_slc HN.out.symm, Nat.le_succ _, HPA.out.2.1, HL.out, HPA.out.2.2.1⟩
end Go.Proofs.YtnpcbcnclncniaaGreatDoor
namespace Go.Proofs.YtnpcbcnclncniaaGreatDoor
open Go.RowKit

/-- A part's places, whatever its kind. -/
theorem pass_any (n : Nat) (hAll : AllDoes n) (q : PartOf (P n)) (s : ByteArray) (frm : List Bool) (a : Option Addr) (c : Nat) (w : World) (hp : POk w (n + 1) q) (hk : 1 ≤ q.kind ∧ q.kind ≤ 6) (hg : ∀ t ∈ q.ways.xs, Good n t.xs) (hz : sz (n + 1) q ≤ 1048576)
    (hN : frm.length = s.size + 1) (hs : s.size ≤ 100000) (hF : Holds w a (frm.map Value.bool)) :
    Calls Tryz.prog 111 #[partVal q, .string s, .slice a frm.length c] w (PassRes (PR s.data.toList n q) frm w) := by
  have hszp : sz (n + 1) q = 1 + q.text.size + q.rg.xs.length + (q.ways.xs.map (fun s => 1 + szL n s.xs)).sum := rfl
  have hwl : q.ways.xs.length ≤ 1048576 := by
    have := sum_mono (xs := q.ways.xs) (f := fun _ => 1) (g := fun s => 1 + szL n s.xs) (fun s _ => by omega)
    rw [sum_ones1] at this
    omega
  rcases (by omega : q.kind = 1 ∨ (q.kind = 2 ∨ q.kind = 5) ∨ (q.kind = 3 ∨ q.kind = 4) ∨ q.kind = 6) with h | h | h | h
  · exact pass_text n q s frm a c w h hN hs (by omega) hF
  · exact pass_one n q s frm a c w h hN hs hp.2.1 (by omega) hF
  · exact pass_star n q s frm a c w h hN hs hF
  · refine pass_ways n hAll q s frm a c w h hN hs hp.2.2.2.1 (fun t ht => ⟨hp.2.2.2.2 t ht, hg t ht, ?_⟩) hwl hF
    have h1 := le_sum (List.mem_map.2 ⟨t, ht, rfl⟩ : (1 + szL n t.xs) ∈ q.ways.xs.map (fun s => 1 + szL n s.xs))
    omega

set_option maxHeartbeats 4000000 in
set_option maxRecDepth 100000 in
theorem passAll_any : ∀ n : Nat, AllDoes n := by
  intro n
  induction n with
  | zero =>
    intro xs s frm a c w _ _ _ hN _ _
    clear hN
    obtain ⟨xa, xc, xs⟩ := xs
    cases xs with
    | cons x _ => exact nomatch x
    | nil =>
      go_enter Tryz.func85, Tryz.ntmps85
      go_wp2_with fail
      refine wp_loop_rounds 1 ?_
      rw [rounds_succ]
      go_wp2_with fail
      go_ret
      exact ⟨a, c, frm, rfl, .inl ⟨rfl, rfl, rfl⟩, Leads.refl (fun i j => Iff.rfl) frm, Below.refl _ _⟩
  | succ n ih =>
    rintro ⟨sa, sc, xs⟩ s frm a c w hs hg hz hN hsz hF
    have hlen : xs.length ≤ 1048576 := Nat.le_trans (len_le_sz (n + 1) xs) hz
    simp only [] at hz hg
    have HS := Lib.hid hs
    have HF := Lib.hid hF
    have HPass := Lib.hid (fun q cur a' c' W h1 h2 h3 h4 h5 h6 => pass_any n ih q s cur a' c' W h1 h2 h3 h4 h5 hsz h6)
    have HG := Lib.hid hg
    have HZ := Lib.hid hz
    obtain ⟨N, hN0⟩ : ∃ N, frm.length = N := ⟨_, rfl⟩
    have HN := Lib.hid hN0
    have HN2 : Hid (N = s.size + 1) := Lib.hid (by omega)
    rw [hN0]
    clear hs hg ih hF hz hN hN0
    go_enter Tryz.func85, Tryz.ntmps85
    go_wp2_with fail
    go_loopg [2, 11] xs.length (fun g s2 i wx => ∃ (k : Nat) (a' : Option Addr) (c' : Nat) (cur : List Bool), k + g = xs.length ∧ i = .int .i64 k ∧ s2 = .slice a' N c' ∧ Below w.heap.size w wx ∧ Hid (Src w a c frm a' c' cur wx) ∧ Hid (Leads (Rel s.data.toList (n + 1) (xs.take k)) frm cur))
    case atStart => exact ⟨0, a, c, frm, by omega, rfl, rfl, Below.refl _ _, Lib.hid (.inl ⟨rfl, rfl, rfl⟩), Lib.hid (Leads.refl (fun i j => Iff.rfl) frm)⟩
    case round =>
      obtain ⟨k, a', c', cur, hk, rfl, rfl, hb, HSrc, HL⟩ := hrel
      by_cases hlt : k < xs.length
      · obtain ⟨g, rfl⟩ : ∃ g, gk = g + 1 := ⟨gk - 1, by omega⟩
        obtain ⟨p, hx⟩ : ∃ p : P (n + 1), xs[k]? = some p := ⟨_, List.getElem?_eq_getElem hlt⟩
        obtain ⟨ba, off, ha, hba, r0, r1, r2, r3, r4⟩ := partRow (p := pt n p) ((HS.out.under hb).1) hx
        have hmem := List.mem_of_getElem? hx
        obtain ⟨hk1, _, _, hgw⟩ := HG.out p hmem
        have hsp : sz (n + 1) (pt n p) ≤ 1048576 := Nat.le_trans (le_sum (List.mem_map.2 ⟨p, hmem, rfl⟩)) HZ.out
        have hbx := bAlloc (Below.refl wr.heap.size wr) (.cells (partArr (pt n p)) 92)
        have hb5 := bTrans hb hbx
        have hcl : cur.length = N := by rw [HL.out.1, HN.out]
        have HC := Lib.hid (HPass.out (pt n p) cur a' c' _ ((HS.out.under hb5).2 p hmem) hk1 hgw hsp (by rw [hcl]; exact HN2.out) ((HSrc.out.under hbx).holds HF.out hb5))
        rw [hcl] at HC
        have HX5 := Lib.hid (BoxIs.new wr (partArr (pt n p)) 92)
        have HSn : Hid (∀ i j, Rel s.data.toList (n + 1) (xs.take (k + 1)) i j ↔ ∃ m, Rel s.data.toList (n + 1) (xs.take k) i m ∧ PR s.data.toList n (pt n p) m j) := Lib.hid (fun i j => Rel_snoc hx)
        generalize PR s.data.toList n (pt n p) = R at *
        generalize pt n p = q at *
        have HCl := Lib.hid hcl
        simp only [] at ha
        subst ha
        clear hx hmem hk1 hgw hsp hbx hcl
        go_upto_region 4 with fail
        generalize wr.alloc _ = w5 at *
        clear r0 r1 r2 r3 r4
        obtain ⟨p0, p1, p2, p3, p4, p5⟩ := HX5.out.part
        go_wp2_with fail
        refine HC.out.mono ?_
        rintro e w6 ⟨g6, tos, rfl, hg6, hR6, hL6, hb6⟩
        have HSrc2 : Hid (Src w a c frm (some ⟨g6, 0, none⟩) N tos w6) := Lib.hid (.inr ⟨g6, rfl, HN.out.symm, Nat.le_trans hb5.size hg6, hR6⟩)
        have HL2 : Hid (Leads (Rel s.data.toList (n + 1) (xs.take (k + 1))) frm tos) := Lib.hid (Leads.trans HL.out hL6 HSn.out)
        clear p0 p1 p2 p3 p4 p5 HC hg6 hR6 hL6 HSrc HL
        rw [HCl.out]
        go_wp2_with fail
        go_roundg g
        case measure => omega
        case rel => exact ⟨k + 1, some ⟨g6, 0, none⟩, N, tos, by omega, by go_num, rfl, bTrans hb5 hb6, HSrc2, HL2⟩
      · obtain rfl : k = xs.length := by omega
        rw [List.take_of_length_le (Nat.le_refl _)] at HL
        go_wp2_with fail
        go_ret
        exact ⟨a', c', cur, by rw [HN.out]; rfl, HSrc.out, HL.out, hb⟩
end Go.Proofs.YtnpcbcnclncniaaGreatDoor
namespace Go.Proofs.YtnpcbcnclncniaaGreatDoor
open Go.RowKit

section
variable {P : Program}

/-- append of a slice that came in (nil, empty or not) to a row of the call's own. -/
theorem run_app_in {t e ty : TypeId} {z : Value} {bytes : Nat} {w0 wx : World} {a : Option Addr} {n cap : Nat} {xs : List Value}
    (hE : ElemOk P t e z bytes) (hO : Own e w0 wx a n cap xs) (A : Option Addr) (m c : Nat) (news : List Value) (hl : news.length = m) (hN : Holds wx A news) (h1 : ∀ u ∈ news, u.oneCell' = true)
    (h63 : n + m ≤ 9223372036854775807) (hby : (n + m) * bytes ≤ 140737488355328) :
    ∃ a' cap' w', (Builtin.append_ #[t, t] ty #[.slice a n cap, .slice A m c]).run P wx = .ok (.slice a' (n + m) cap') w' ∧ Own e w0 w' a' (n + m) cap' (xs ++ news) := by
  obtain ⟨i, ht, hi, hz0, hz1, hz2, hz3⟩ := hE
  have hba : w0.heap.size ≤ wx.heap.size := hO.2.size
  cases A with
  | none =>
    have hn : news = [] := by
      rcases hN with h | ⟨b, off, h, _⟩
      · exact h
      · cases h
    subst hn
    obtain rfl : m = 0 := hl.symm
    refine ⟨a, cap, wx, ?_, by simpa using hO⟩
    rcases hO.1.2 with ⟨hv, rfl⟩ | ⟨g, cap', cur, hv, _, _, hnc, _⟩
    · rw [hv]
      simp [Builtin.append_, run_underlying ht, sizeOf, typeInfo, hi, Builtin.lenOf, Builtin.firstCells]
    · rw [hv]
      simp [Builtin.append_, run_underlying ht, sizeOf, typeInfo, hi, Builtin.lenOf, Builtin.firstCells, hnc, storeCells]
      injection hv with e1 _ e3
      exact ⟨e1.symm, e3.symm⟩
  | some ad =>
    have hcells : ∀ (j : Nat) u, news[j]? = some u → wx.cell? (ad.add j) = some u := by
      intro j u hu
      obtain ⟨b, off, ha, _, hc⟩ := hN.at hu
      injection ha with ha
      subst ha
      have e2 : (⟨b, off, Option.none⟩ : Addr).add j = ⟨b, off + j, Option.none⟩ := by unfold Addr.add; split <;> simp_all
      rw [e2]
      exact hc
    obtain ⟨v', w', hrun, h2, h3, _, _⟩ := run_append_own_at (P := P) wx w0.heap.size t ty e i z 1 bytes ht hi hz0 hz1 hz2 hz3 (by decide) (.slice a n cap) n xs hO.1 ad m c news (by simpa using hl) hcells h1 (by unfold maxLen; omega) hby hba
    obtain ⟨a', cap', rfl, _⟩ := own_form h2
    exact ⟨a', cap', w', hrun, h2, hO.2.grown h3 hba (fun kk hkk => own_base hO.1 kk hkk)⟩
end

/-- A slice of texts that came in. -/
structure Part where
  a : Option Addr
  c : Nat
  xs : List ByteArray
def Part.val (p : Part) : Value := .slice p.a p.xs.length p.c
def Part.ok (w : World) (p : Part) : Prop := Holds w p.a (p.xs.map Value.string)
def partsOut (ps : List Part) : List ByteArray := (ps.map (·.xs)).flatten

theorem partsOut_take {ps : List Part} {k : Nat} {p : Part} (h : ps[k]? = some p) : partsOut (ps.take (k + 1)) = partsOut (ps.take k) ++ p.xs := by
  unfold partsOut
  rw [List.take_add_one, h]
  simp

theorem partsOut_le {ps : List Part} (k : Nat) : (partsOut (ps.take k)).length ≤ (partsOut ps).length := by
  have : partsOut ps = partsOut (ps.take k) ++ partsOut (ps.drop k) := by
    unfold partsOut
    rw [← List.flatten_append, ← List.map_append, List.take_append_drop]
  rw [this, List.length_append]
  omega

end Go.Proofs.YtnpcbcnclncniaaGreatDoor
namespace Go.Proofs.YtnpcbcnclncniaaGreatDoor
open Go.RowKit

/-- A glob may begin at a place. -/
def Begins (rooted : Bool) (L : List UInt8) (i : Nat) : Prop := i = 0 ∨ (rooted = false ∧ 0 < i ∧ L[i - 1]? = some 47)
def BMarks (rooted : Bool) (L : List UInt8) (k : Nat) (tos : List Bool) : Prop := tos.length = L.length + 1 ∧ ∀ j, tos[j]? = some true ↔ Begins rooted L j ∧ j ≤ k
theorem BMarks.start (rooted : Bool) (L : List UInt8) : BMarks rooted L 0 ((List.replicate (L.length + 1) false).set 0 true) := by
  refine ⟨by simp, fun j => ?_⟩
  rw [List.getElem?_set]
  by_cases e : 0 = j
  · subst e
    rw [if_pos rfl, if_pos (by simp)]
    exact ⟨fun _ => ⟨.inl rfl, Nat.le_refl _⟩, fun _ => rfl⟩
  · rw [if_neg e, List.getElem?_replicate]
    constructor
    · intro h
      split at h <;> simp at h
    · rintro ⟨_, h⟩
      omega
theorem BMarks.skip {rooted : Bool} {L : List UInt8} {k : Nat} {tos : List Bool} (h : BMarks rooted L k tos) (hn : ¬ (rooted = false ∧ L[k]? = some 47)) : BMarks rooted L (k + 1) tos := by
  refine ⟨h.1, fun j => (h.2 j).trans ⟨fun h => ⟨h.1, by omega⟩, fun ⟨h1, h2⟩ => ?_⟩⟩
  by_cases e : j = k + 1
  · subst e
    rcases h1 with h1 | ⟨h3, _, h4⟩
    · omega
    · exact absurd ⟨h3, h4⟩ hn
  · exact ⟨h1, by omega⟩
theorem BMarks.set {rooted : Bool} {L : List UInt8} {k : Nat} {tos : List Bool} (h : BMarks rooted L k tos) (hn : rooted = false ∧ L[k]? = some 47) : BMarks rooted L (k + 1) (tos.set (k + 1) true) := by
  have hk := (List.getElem?_eq_some_iff.1 hn.2).1
  refine ⟨by rw [List.length_set]; exact h.1, fun j => ?_⟩
  rw [List.getElem?_set]
  by_cases e : k + 1 = j
  · subst e
    rw [if_pos rfl, if_pos (by rw [h.1]; omega)]
    exact ⟨fun _ => ⟨.inr ⟨hn.1, by omega, hn.2⟩, Nat.le_refl _⟩, fun _ => rfl⟩
  · rw [if_neg e, h.2 j]
    exact ⟨fun ⟨h1, h2⟩ => ⟨h1, by omega⟩, fun ⟨h1, h2⟩ => ⟨h1, by omega⟩⟩

def BegRes (rooted : Bool) (L : List UInt8) (N : Nat) (w : World) (e : Ending) (w' : World) : Prop :=
  ∃ g tos, e = .returned (.slice (some ⟨g, 0, none⟩) N N) ∧ tos.length = N ∧ w.heap.size ≤ g ∧ RowU w' g tos ∧ BMarks rooted L L.length tos ∧ Below w.heap.size w w'

set_option maxHeartbeats 4000000 in
set_option maxRecDepth 100000 in
theorem beginnings_any {α : Type} (rooted dirs : Bool) (x : Sl α) (s : ByteArray) (N : Nat) (w : World) (hs : s.size ≤ 100000) (hN0 : s.size + 1 = N) :
    Calls Tryz.prog 86 #[globVal rooted dirs x, .string s] w (BegRes rooted s.data.toList N w) := by
  have hsl : s.data.toList.length + 1 = N := by rw [← Lib.size_eq]; exact hN0
  have hmk := fun W => make_of elem_places N W (by omega)
  have hNi : (s.size : Int) + 1 = (N : Int) := by omega
  have HQ : Hid (BoxIs ((w.alloc (.cells (globArr rooted dirs x) 24)).alloc (.cells (Array.replicate N (Value.bool false)) 4)) w.heap.size (globArr rooted dirs x) 24) := Lib.hid ((BoxIs.new w _ _).under (bAlloc (Below.refl _ _) _))
  have HR : Hid (RowU ((w.alloc (.cells (globArr rooted dirs x) 24)).alloc (.cells (Array.replicate N (Value.bool false)) 4)) (w.heap.size + 1) (List.replicate N false)) := Lib.hid (by
    have := RowU.new (w.alloc (.cells (globArr rooted dirs x) 24)) N
    rwa [show (w.alloc (.cells (globArr rooted dirs x) 24)).heap.size = w.heap.size + 1 by simp] at this)
  have hb1 := bAlloc (bAlloc (Below.refl w.heap.size w) (.cells (globArr rooted dirs x) 24)) (.cells (Array.replicate N (Value.bool false)) 4)
  have HM : Hid (BMarks rooted s.data.toList 0 ((List.replicate N false).set 0 true)) := Lib.hid (by rw [← hsl]; exact BMarks.start _ _)
  have HSL := Lib.hid hsl
  have HN := Lib.hid hN0
  have h0N : 0 < N := by omega
  have h1N : s.size < N := by omega
  have h2N : N ≤ s.size + 1 := by omega
  clear hsl hN0
  go_enter Tryz.func86, Tryz.ntmps86
  go_upto_region 2 with fail
  generalize (w.alloc _).alloc _ = w1 at *
  obtain ⟨f1, f2⟩ := HR.out.cell (i := 0) (b := false) (by rw [List.getElem?_replicate, if_pos h0N])
  have HR2 := Lib.hid (HR.out.set 0 true)
  have HQ2 := Lib.hid (HQ.out.setOther (show w.heap.size ≠ w.heap.size + 1 by omega) 0 (.bool true))
  have hb2 := hb1.setCell (p := ⟨w.heap.size + 1, 0, none⟩) (Nat.le_succ _) (.bool true)
  clear hmk HR HQ hb1
  go_upto_region 3 with fail
  generalize World.setCell w1 _ _ = w2 at *
  clear f1 f2 hNi
  go_wp2_with fail
  go_loopg [15] s.size (fun g i wx => ∃ (k : Nat) (tos : List Bool), k + g = s.size ∧ i = .int .i64 k ∧ Below w.heap.size w wx ∧ Hid (BoxIs wx w.heap.size (globArr rooted dirs x) 24) ∧ Hid (RowU wx (w.heap.size + 1) tos) ∧ Hid (BMarks rooted s.data.toList k tos))
  case atStart => exact ⟨0, _, by omega, rfl, hb2, HQ2, HR2, HM⟩
  case round =>
    clear hb2 HQ2 HR2 HM
    obtain ⟨k, tos, hk, rfl, hb, HQ, HR, HM⟩ := hrel
    by_cases hlt : k < s.size
    · obtain ⟨g, rfl⟩ : ∃ g, gk = g + 1 := ⟨gk - 1, by omega⟩
      have c0 := HQ.out.cell (j := 0) rfl
      obtain ⟨ch, hch⟩ : ∃ ch : UInt8, s[k]'hlt = ch := ⟨_, rfl⟩
      have HCh : Hid (s.data.toList[k]? = some ch) := Lib.hid (by rw [← hch]; exact Lib.data_getElem? s k hlt)
      cases rooted
      case true =>
        have HM2 : Hid (BMarks true s.data.toList (k + 1) tos) := Lib.hid (HM.out.skip (fun h => absurd h.1 (by decide)))
        go_wp2_with fail
        go_roundg g
        case measure => omega
        case rel => exact ⟨k + 1, tos, by omega, by go_num, hb, HQ, HR, HM2⟩
      case false =>
        by_cases h47 : ch = 47
        · have e47 : ((ch.toNat : Int) == 47) = true := by rw [h47]; rfl
          have HM2 : Hid (BMarks false s.data.toList (k + 1) (tos.set (k + 1) true)) := Lib.hid (HM.out.set ⟨rfl, by rw [HCh.out, h47]⟩)
          obtain ⟨y, hty⟩ : ∃ y, tos[k + 1]? = some y := ⟨_, List.getElem?_eq_getElem (by rw [HM.out.1, HSL.out]; omega)⟩
          obtain ⟨f1, f2⟩ := HR.out.cell hty
          have HR2 := Lib.hid (HR.out.set (k + 1) true)
          have HQ2 := Lib.hid (HQ.out.setOther (show w.heap.size ≠ w.heap.size + 1 by omega) (k + 1) (.bool true))
          have hb2 := hb.setCell (p := ⟨w.heap.size + 1, k + 1, none⟩) (Nat.le_succ _) (.bool true)
          have hkN : k + 1 < N := by omega
          clear h47 hty
          go_wp2_with fail
          go_roundg g
          case measure => omega
          case rel => exact ⟨k + 1, _, by omega, by go_num, hb2, HQ2, HR2, HM2⟩
        · have e47 : ((ch.toNat : Int) == 47) = false := by
            have : ch.toNat ≠ 47 := fun e => h47 (UInt8.toNat_inj.1 (by simpa using e))
            simp only [beq_eq_false_iff_ne, ne_eq]
            omega
          have HM2 : Hid (BMarks false s.data.toList (k + 1) tos) := Lib.hid (HM.out.skip (fun h => h47 (by
            have h2 := h.2
            rw [HCh.out] at h2
            simpa using h2)))
          clear h47
          go_wp2_with fail
          go_roundg g
          case measure => omega
          case rel => exact ⟨k + 1, tos, by omega, by go_num, hb, HQ, HR, HM2⟩
    · have HM2 : Hid (BMarks rooted s.data.toList s.data.toList.length tos) := Lib.hid (by
        have := HM.out
        rwa [show k = s.data.toList.length by rw [← Lib.size_eq]; omega] at this)
      clear HM
      go_wp2_with fail
      go_ret
      exact ⟨w.heap.size + 1, tos, rfl, by rw [HM2.out.1]; exact HSL.out, Nat.le_succ _, HR.out, HM2.out, hb⟩

def AllResN (N : Nat) (r : Nat → Nat → Prop) (frm : List Bool) (a : Option Addr) (c : Nat) (w : World) (e : Ending) (w' : World) : Prop :=
  ∃ a' c' ps, e = .returned (.slice a' N c') ∧ ps.length = N ∧ Src w a c frm a' c' ps w' ∧ Leads r frm ps ∧ Below w.heap.size w w'
theorem passAllN (n : Nat) (xs : Sl (P n)) (s : ByteArray) (frm : List Bool) (a : Option Addr) (c N : Nat) (w : World) (h1 : SOk w n xs) (h2 : Good n xs.xs) (h3 : szL n xs.xs ≤ 1048576) (hl : frm.length = N) (hN : s.size + 1 = N) (h4 : s.size ≤ 100000) (h5 : Holds w a (frm.map Value.bool)) :
    Calls Tryz.prog 85 #[.slice xs.a xs.xs.length xs.c, .string s, .slice a N c] w (AllResN N (Rel s.data.toList n xs.xs) frm a c w) := by
  subst hl
  refine (passAll_any n xs s frm a c w h1 h2 h3 hN.symm h4 h5).mono ?_
  rintro e w' ⟨a', c', ps, he, hs, hL, hb⟩
  exact ⟨a', c', ps, he, hL.1, hs, hL, hb⟩

/-- A bool that says whether something is so. -/
def BoolRes (Q : Prop) (w : World) (e : Ending) (w' : World) : Prop := ∃ b : Bool, e = .returned (.bool b) ∧ (b = true ↔ Q) ∧ Below w.heap.size w w'
/-- Parts lead from a beginning to a place. -/
def Ends (rooted : Bool) (n : Nat) (xs : List (P n)) (L : List UInt8) (j : Nat) : Prop := ∃ i, Begins rooted L i ∧ i ≤ L.length ∧ Rel L n xs i j
def FitsUp (rooted : Bool) (n : Nat) (xs : List (P n)) (L : List UInt8) (itself above : Bool) : Prop :=
  L ≠ [] ∧ ((itself = true ∧ Ends rooted n xs L L.length) ∨ (above = true ∧ ∃ i, 1 ≤ i ∧ i < L.length ∧ L[i]? = some 47 ∧ Ends rooted n xs L i))
theorem ends_of {rooted : Bool} {n : Nat} {xs : List (P n)} {L : List UInt8} {frm ps : List Bool} (hB : BMarks rooted L L.length frm) (hL : Leads (Rel L n xs) frm ps) (j : Nat) : ps[j]? = some true ↔ Ends rooted n xs L j := by
  rw [hL.2 j]
  constructor
  · rintro ⟨i, h1, h2⟩
    obtain ⟨h3, h4⟩ := (hB.2 i).1 h1
    exact ⟨i, h3, h4, h2⟩
  · rintro ⟨i, h1, h2, h3⟩
    exact ⟨i, (hB.2 i).2 ⟨h1, h2⟩, h3⟩

set_option maxHeartbeats 4000000 in
set_option maxRecDepth 100000 in
theorem fitsUp_any (n : Nat) (x : Sl (P n)) (rooted dirs itself above : Bool) (s : ByteArray) (w : World) (hs : SOk w n x) (hg : Good n x.xs) (hz : szL n x.xs ≤ 1048576) (hsz : s.size ≤ 100000) :
    Calls Tryz.prog 48 #[globVal rooted dirs x, .string s, .bool itself, .bool above] w (BoolRes (FitsUp rooted n x.xs s.data.toList itself above) w) := by
  have hb1 := bAlloc (Below.refl w.heap.size w) (.cells (globArr rooted dirs x) 24)
  have HQ := Lib.hid (BoxIs.new w (globArr rooted dirs x) 24)
  obtain ⟨N, hN0⟩ : ∃ N : Nat, s.size + 1 = N := ⟨_, rfl⟩
  have HBg := Lib.hid (fun W => beginnings_any rooted dirs x s N W hsz hN0)
  have HAl := Lib.hid (fun frm a c W (hb : Below w.heap.size w W) hl h2 => passAllN n x s frm a c N W (hs.under hb) hg hz hl hN0 hsz h2)
  have HN := Lib.hid hN0
  have h1N : s.size < N := by omega
  have hsl : s.data.toList.length = s.size := (Lib.size_eq s).symm
  have HSL := Lib.hid hsl
  have HEm : Hid (s.toList.isEmpty = true → s.data.toList = []) := Lib.hid (fun h => by rw [Lib.toList_data] at h; exact List.isEmpty_iff.1 h)
  have HEm2 : Hid (s.toList.isEmpty = false → s.data.toList ≠ []) := Lib.hid (fun h e => by rw [Lib.toList_data, e] at h; cases h)
  have HE := Lib.hid (fun frm ps hB hL j => ends_of (rooted := rooted) (n := n) (xs := x.xs) (L := s.data.toList) (frm := frm) (ps := ps) hB hL j)
  have HFU : Hid (FitsUp rooted n x.xs s.data.toList itself above = (s.data.toList ≠ [] ∧ ((itself = true ∧ Ends rooted n x.xs s.data.toList s.data.toList.length) ∨ (above = true ∧ ∃ i, 1 ≤ i ∧ i < s.data.toList.length ∧ s.data.toList[i]? = some 47 ∧ Ends rooted n x.xs s.data.toList i)))) := Lib.hid rfl
  generalize FitsUp rooted n x.xs s.data.toList itself above = FU at *
  clear hs hg hz hsl hN0
  obtain ⟨sa, sc, xs⟩ := x
  simp only [] at *
  go_enter Tryz.func48, Tryz.ntmps48
  go_upto_region 1 with fail
  generalize w.alloc _ = w1 at *
  cases hem : s.toList.isEmpty
  case true =>
    have HF : Hid (¬ FU) := Lib.hid (by
      rw [HFU.out]
      exact fun h => h.1 (HEm.out hem))
    clear HFU
    go_wp2_with fail
    go_ret
    exact ⟨false, rfl, ⟨fun h => absurd h Bool.false_ne_true, fun h => absurd h HF.out⟩, hb1⟩
  have c0 := HQ.out.cell (j := 0) rfl
  have c1 := HQ.out.cell (j := 1) rfl
  have c2 := HQ.out.cell (j := 2) rfl
  have hq := HQ.out.lt
  go_upto_region 3 with fail
  go_region_held3 (fun w' => w'.cell? ⟨w.heap.size, 0, none⟩ = some (.bool rooted) ∧ w'.cell? ⟨w.heap.size, 1, none⟩ = some (.bool dirs) ∧ w'.cell? ⟨w.heap.size, 2, none⟩ = some (.slice sa xs.length sc))
    (first | exact ⟨(hb4.cell (p := ⟨w.heap.size, 0, none⟩) (Nat.lt_of_lt_of_le hq hb3.size)).trans ((hb3.cell (p := ⟨w.heap.size, 0, none⟩) hq).trans c0), (hb4.cell (p := ⟨w.heap.size, 1, none⟩) (Nat.lt_of_lt_of_le hq hb3.size)).trans ((hb3.cell (p := ⟨w.heap.size, 1, none⟩) hq).trans c1), (hb4.cell (p := ⟨w.heap.size, 2, none⟩) (Nat.lt_of_lt_of_le hq hb3.size)).trans ((hb3.cell (p := ⟨w.heap.size, 2, none⟩) hq).trans c2)⟩ | exact ⟨(hb3.cell (p := ⟨w.heap.size, 0, none⟩) hq).trans c0, (hb3.cell (p := ⟨w.heap.size, 1, none⟩) hq).trans c1, (hb3.cell (p := ⟨w.heap.size, 2, none⟩) hq).trans c2⟩ | go_keep)
    ((first
      | (go_at_call 86; refine (HBg.out _).mono ?_; rintro e w3 ⟨g3, frm, rfl, hl3, hg3, hR3, hM3, hb3⟩)
      | (go_at_call 85; refine (HAl.out frm (some ⟨g3, 0, none⟩) N w3 (bTrans hb1 ⟨hb3.os, hb3.tape, hb3.output, hb3.size, hb3.block⟩) hl3 hR3.holds).mono ?_; rintro e w4 ⟨a', c', ps, rfl, hpl, hsrc, hL4, hb4⟩)))
  have HE2 := Lib.hid (HE.out frm ps hM3 hL4)
  have hF := hsrc.holds hR3.holds hb4
  have hb3' : Below w1.heap.size w1 w3 := ⟨hb3.os, hb3.tape, hb3.output, hb3.size, hb3.block⟩
  have hb5 := bTrans (bTrans hb1 hb3') hb4
  have HPL := Lib.hid hpl
  have hpos : 0 < s.size := by
    have := List.length_pos_iff.2 (HEm2.out hem)
    rw [HSL.out] at this
    exact this
  obtain ⟨bl, hbl⟩ : ∃ bl, ps[s.size]? = some bl := ⟨_, List.getElem?_eq_getElem (by omega)⟩
  obtain ⟨ba, off, ha, hba, hca⟩ := hF.at (k := s.size) (u := .bool bl) (by rw [List.getElem?_map, hbl]; rfl)
  have HX : Hid ((itself && bl) = true ↔ itself = true ∧ Ends rooted n xs s.data.toList s.data.toList.length) := Lib.hid (by
    rw [HSL.out, ← HE2.out s.size, hbl, Bool.and_eq_true]
    simp)
  have HF := Lib.hid hF
  subst ha
  clear c0 c1 c2 hq hM3 hL4 hR3 hsrc hb3 hb4 hb3' hl3 hg3 hpl hF hbl hb1 HQ
  go_upto_region 4 with fail
  obtain ⟨X, hX⟩ : ∃ X, (itself && bl) = X := ⟨_, rfl⟩
  rw [hX] at HX
  go_cut [27] (fun s27 wx => s27 = .bool X ∧ w4 = wx)
  case first =>
    have HXe := Lib.hid hX
    clear hX
    cases itself
    all_goals
      go_wp2_with fail
      go_meet
      exact ⟨by rw [← HXe.out]; rfl, rfl⟩
  case rest =>
  obtain ⟨rfl, rfl⟩ := hcut
  clear hX hca
  cases X
  case true =>
    have HF2 : Hid FU := Lib.hid (by
      rw [HFU.out]
      exact ⟨HEm2.out hem, .inl (HX.out.1 rfl)⟩)
    clear HFU HX
    go_wp2_with fail
    go_ret
    exact ⟨true, rfl, ⟨fun _ => HF2.out, fun _ => rfl⟩, hb5⟩
  have HX2 : Hid (¬ (itself = true ∧ Ends rooted n xs s.data.toList s.data.toList.length)) := Lib.hid (fun h => absurd (HX.out.2 h) Bool.false_ne_true)
  clear HX
  go_wp2_with fail
  go_loopg [10] (s.size - 1) (fun g i wx => ∃ k : Nat, k + g = s.size ∧ 1 ≤ k ∧ i = .int .i64 k ∧ w4 = wx ∧ Hid (∀ i, 1 ≤ i → i < k → ¬ (s.data.toList[i]? = some 47 ∧ Ends rooted n xs s.data.toList i)))
  case atStart => exact ⟨1, by omega, by omega, rfl, rfl, Lib.hid (fun i h1 h2 => absurd h2 (by omega))⟩
  case round =>
    obtain ⟨k, hk, hk1, rfl, rfl, HN2⟩ := hrel
    cases above
    case false =>
      have HF2 : Hid (¬ FU) := Lib.hid (by
        rw [HFU.out]
        rintro ⟨_, h | ⟨h, _⟩⟩
        · exact HX2.out h
        · exact absurd h Bool.false_ne_true)
      clear HFU HX2
      go_wp2_with fail
      go_ret
      exact ⟨false, rfl, ⟨fun h => absurd h Bool.false_ne_true, fun h => absurd h HF2.out⟩, hb5⟩
    case true =>
      by_cases hlt : k < s.size
      · obtain ⟨g, rfl⟩ : ∃ g, gk = g + 1 := ⟨gk - 1, by omega⟩
        obtain ⟨ch, hch⟩ : ∃ ch : UInt8, s[k]'hlt = ch := ⟨_, rfl⟩
        have HCh : Hid (s.data.toList[k]? = some ch) := Lib.hid (by rw [← hch]; exact Lib.data_getElem? s k hlt)
        obtain ⟨b, hbk⟩ : ∃ b, ps[k]? = some b := ⟨_, List.getElem?_eq_getElem (by rw [HPL.out]; omega)⟩
        obtain ⟨ba', off', ha', _, hca⟩ := HF.out.at (k := k) (u := .bool b) (by rw [List.getElem?_map, hbk]; rfl)
        cases ha'
        have HB : Hid (b = true ↔ Ends rooted n xs s.data.toList k) := Lib.hid (by
          rw [← HE2.out k, hbk]
          simp)
        have hkN : k < N := by omega
        clear hbk
        by_cases h47 : ch = 47
        · have e47 : ((ch.toNat : Int) == 47) = true := by rw [h47]; rfl
          cases b
          · have HN3 : Hid (∀ i, 1 ≤ i → i < k + 1 → ¬ (s.data.toList[i]? = some 47 ∧ Ends rooted n xs s.data.toList i)) := Lib.hid (fun i h1 h2 h3 => by
              by_cases e : i = k
              · subst e
                exact absurd (HB.out.2 h3.2) Bool.false_ne_true
              · exact HN2.out i h1 (by omega) h3)
            clear h47
            go_wp2_with fail
            go_roundg g
            case measure => omega
            case rel => exact ⟨k + 1, by omega, by omega, by go_num, rfl, HN3⟩
          · have HF2 : Hid FU := Lib.hid (by
              rw [HFU.out]
              exact ⟨HEm2.out hem, .inr ⟨rfl, k, hk1, by rw [HSL.out]; exact hlt, by rw [HCh.out, h47], HB.out.1 rfl⟩⟩)
            clear HFU h47
            go_wp2_with fail
            go_ret
            exact ⟨true, rfl, ⟨fun _ => HF2.out, fun _ => rfl⟩, hb5⟩
        · have e47 : ((ch.toNat : Int) == 47) = false := by
            have : ch.toNat ≠ 47 := fun e => h47 (UInt8.toNat_inj.1 (by simpa using e))
            simp only [beq_eq_false_iff_ne, ne_eq]
            omega
          have HN3 : Hid (∀ i, 1 ≤ i → i < k + 1 → ¬ (s.data.toList[i]? = some 47 ∧ Ends rooted n xs s.data.toList i)) := Lib.hid (fun i h1 h2 h3 => by
            by_cases e : i = k
            · subst e
              have h4 := h3.1
              rw [HCh.out] at h4
              exact h47 (by simpa using h4)
            · exact HN2.out i h1 (by omega) h3)
          clear h47
          go_wp2_with fail
          go_roundg g
          case measure => omega
          case rel => exact ⟨k + 1, by omega, by omega, by go_num, rfl, HN3⟩
      · have HF2 : Hid (¬ FU) := Lib.hid (by
          rw [HFU.out]
          rintro ⟨_, h | ⟨_, i, h1, h2, h3⟩⟩
          · exact HX2.out h
          · rw [HSL.out] at h2
            exact HN2.out i h1 (by omega) h3)
        clear HFU HX2 HN2
        go_wp2_with fail
        go_ret
        exact ⟨false, rfl, ⟨fun h => absurd h Bool.false_ne_true, fun h => absurd h HF2.out⟩, hb5⟩
end Go.Proofs.YtnpcbcnclncniaaGreatDoor
namespace Go.Proofs.YtnpcbcnclncniaaGreatDoor
open Go.RowKit

theorem gpath_ends {rooted : Bool} {n : Nat} {xs : List (P n)} {L : List UInt8} : GPath rooted n xs L ↔ L ≠ [] ∧ Ends rooted n xs L L.length := by
  unfold GPath Ends Begins
  exact Iff.rfl
theorem gpath_take {rooted : Bool} {n : Nat} {xs : List (P n)} {L : List UInt8} {k : Nat} (hk : k < L.length) : GPath rooted n xs (L.take k) ↔ 1 ≤ k ∧ Ends rooted n xs L k := by
  have hl : (L.take k).length = k := by rw [List.length_take]; omega
  rw [gpath_ends]
  unfold Ends Begins
  rw [hl]
  constructor
  · rintro ⟨h1, i, h2, h3, h4⟩
    have h5 : 1 ≤ k := by
      rcases Nat.eq_zero_or_pos k with e | e
      · subst e
        exact absurd rfl h1
      · exact e
    refine ⟨h5, i, ?_, by omega, (Rel_take (by omega) n xs i k (Nat.le_refl _)).1 h4⟩
    rcases h2 with h2 | ⟨h6, h7, h8⟩
    · exact .inl h2
    · rw [List.getElem?_take_of_lt (by omega)] at h8
      exact .inr ⟨h6, h7, h8⟩
  · rintro ⟨h1, i, h2, h3, h4⟩
    have hik : i ≤ k := (Rel_le n xs i k h4).1
    refine ⟨fun e => ?_, i, ?_, hik, (Rel_take (by omega) n xs i k (Nat.le_refl _)).2 h4⟩
    · rw [e] at hl
      simp at hl
      omega
    · rcases h2 with h2 | ⟨h6, h7, h8⟩
      · exact .inl h2
      · rw [List.getElem?_take_of_lt (by omega)]
        exact .inr ⟨h6, h7, h8⟩
theorem gmatch_fits {rooted dirs : Bool} {n : Nat} {xs : List (P n)} {L : List UInt8} : GMatch rooted dirs n xs L ↔ FitsUp rooted n xs L (!dirs) dirs := by
  unfold GMatch FitsUp
  cases dirs
  · rw [if_neg (by decide), gpath_ends]
    constructor
    · rintro ⟨h1, h2⟩
      exact ⟨h1, .inl ⟨rfl, h2⟩⟩
    · rintro ⟨h1, ⟨_, h2⟩ | ⟨h2, _⟩⟩
      · exact ⟨h1, h2⟩
      · exact absurd h2 Bool.false_ne_true
  · rw [if_pos rfl]
    constructor
    · rintro ⟨k, h1, h2⟩
      have hk := (List.getElem?_eq_some_iff.1 h1).1
      obtain ⟨h3, h4⟩ := (gpath_take hk).1 h2
      refine ⟨fun e => ?_, .inr ⟨rfl, k, h3, hk, h1, h4⟩⟩
      rw [e] at hk
      exact absurd hk (Nat.not_lt_zero _)
    · rintro ⟨_, ⟨h2, _⟩ | ⟨_, i, h1, h2, h3, h4⟩⟩
      · exact absurd h2 Bool.false_ne_true
      · exact ⟨i, h3, (gpath_take h2).2 ⟨h1, h4⟩⟩

theorem chk_of_ckG {rooted dirs : Bool} {n : Nat} {xs : List (P n)} (hk : ckG rooted dirs n xs = 0) : chk n xs = 0 := by
  unfold ckG at hk
  by_cases h1 : 200 < cntL n xs ∨ 5 < dpL n xs
  · rw [if_pos h1] at hk
    exact absurd hk (by decide)
  rw [if_neg h1] at hk
  by_cases h2 : chk n xs = 0
  · exact h2
  · rw [if_pos h2] at hk
    exact hk
theorem BoolRes.iff {Q R : Prop} {w w' : World} {e : Ending} (h : BoolRes Q w e w') (hq : Q ↔ R) : BoolRes R w e w' := by
  obtain ⟨b, h1, h2, h3⟩ := h
  exact ⟨b, h1, h2.trans hq, h3⟩

set_option maxHeartbeats 2000000 in
set_option maxRecDepth 100000 in
theorem matches_any (n : Nat) (x : Sl (P n)) (rooted dirs : Bool) (s : ByteArray) (w : World) (hs : SOk w n x) (hg : Good n x.xs) (hz : szL n x.xs ≤ 1048576) (hsz : s.size ≤ 100000) :
    Calls Tryz.prog 69 #[globVal rooted dirs x, .string s] w (BoolRes (GMatch rooted dirs n x.xs s.data.toList) w) := by
  have hb1 := bAlloc (Below.refl w.heap.size w) (.cells (globArr rooted dirs x) 24)
  have HQ := Lib.hid (BoxIs.new w (globArr rooted dirs x) 24)
  have HC := Lib.hid (fun W (hb : Below w.heap.size w W) => fitsUp_any n x rooted dirs (!dirs) dirs s W (hs.under hb) hg hz hsz)
  have HI := Lib.hid (gmatch_fits (rooted := rooted) (dirs := dirs) (n := n) (xs := x.xs) (L := s.data.toList))
  generalize GMatch rooted dirs n x.xs s.data.toList = GM at *
  generalize FitsUp rooted n x.xs s.data.toList (!dirs) dirs = FU at *
  clear hs hg hz
  go_enter Tryz.func69, Tryz.ntmps69
  go_upto_region 1 with fail
  generalize w.alloc _ = w1 at *
  have c0 := HQ.out.cell (j := 0) rfl
  have c1 := HQ.out.cell (j := 1) rfl
  have c2 := HQ.out.cell (j := 2) rfl
  go_wp2_with fail
  refine (HC.out _ hb1).mono ?_
  rintro e w2 ⟨b, rfl, hbq, hb2⟩
  have HB := Lib.hid hbq
  clear hbq c0 c1 c2
  go_wp2_with fail
  go_ret
  exact ⟨b, rfl, HB.out.trans HI.out.symm, bTrans hb1 hb2⟩

/-- What Matches and Below return. -/
def MatRes (K E : Int) (Q : Prop) (w : World) (e : Ending) (w' : World) : Prop :=
  ∃ b : Bool, e = .returned (.tuple #[.bool b, .int .i64 (if K ≠ 0 then K else E)]) ∧ (b = true ↔ K = 0 ∧ E = 0 ∧ Q) ∧ Below w.heap.size w w'

end Go.Proofs.YtnpcbcnclncniaaGreatDoor
namespace Go.Proofs.YtnpcbcnclncniaaGreatDoor
open Go.RowKit

def CloneRes (N : Nat) (frm : List Bool) (w : World) (e : Ending) (w' : World) : Prop :=
  ∃ g cap, e = .returned (.slice (some ⟨g, 0, none⟩) N cap) ∧ w.heap.size ≤ g ∧ Holds w' (some ⟨g, 0, none⟩) (frm.map Value.bool) ∧ Below w.heap.size w w'

set_option maxHeartbeats 2000000 in
set_option maxRecDepth 100000 in
theorem clone_any (frm : List Bool) (a : Option Addr) (c N : Nat) (w : World) (hl : frm.length = N) (h0 : 0 < N) (h1 : N ≤ 1000000) (hH : Holds w a (frm.map Value.bool)) :
    Calls Tryz.prog 100 #[.slice a N c] w (CloneRes N frm w) := by
  obtain ⟨b0, hb0⟩ : ∃ b, frm[0]? = some b := ⟨_, List.getElem?_eq_getElem (by omega)⟩
  obtain ⟨bk, off, ha, hbk, -⟩ := hH.at (k := 0) (u := .bool b0) (by rw [List.getElem?_map, hb0]; rfl)
  subst ha
  have hnil := fun W n c => Lib.run_eql_slice_nil (P := Tryz.prog) W 109 4 (some ⟨bk, off, none⟩) n c 0 0 Tryz.underlying109
  have hbx := bAlloc (Below.refl w.heap.size w) (.cells #[] 4)
  have hown : Own 4 w (w.alloc (.cells #[] 4)) (some ⟨w.heap.size, 0, none⟩) 0 0 [] :=
    ⟨⟨rfl, .inr ⟨w.heap.size, 0, #[], rfl, Nat.le_refl _, heap_alloc_new w _, Nat.le_refl _, Nat.zero_le _, rfl, rfl⟩⟩, hbx⟩
  obtain ⟨i0, hE1, hi, hz0, hz1, hz2, hz3⟩ := elem_bools
  have HI := Lib.hid (And.intro hi (And.intro hz0 (And.intro hz1 hz2)))
  have HOwn := Lib.hid hown.1
  have HNews : Hid (∀ (j : Nat) (u : Value), (frm.map Value.bool)[j]? = some u → (w.alloc (.cells #[] 4)).cell? ((⟨bk, off, none⟩ : Addr).add j) = some u) := Lib.hid (fun j u hu => by
    obtain ⟨b, o, ha, _, hc⟩ := (hH.under hbx).at hu
    cases ha
    have e2 : (⟨bk, off, none⟩ : Addr).add j = ⟨bk, off + j, none⟩ := by unfold Addr.add; split <;> simp_all
    rw [e2]
    exact hc)
  have HLen : Hid ((frm.map Value.bool).length = N * 1) := Lib.hid (by rw [List.length_map, Nat.mul_one]; exact hl)
  have HOne : Hid (∀ u ∈ frm.map Value.bool, u.oneCell' = true) := Lib.hid (by intro u hu; obtain ⟨b, _, rfl⟩ := List.mem_map.1 hu; rfl)
  have hne : N ≠ 0 := by omega
  have HNe := Lib.hid hne
  have HBx := Lib.hid hbx
  clear hown hbx hl hb0 hi hz0 hz1 hz2 hz3 hE1 hne hH
  go_enter Tryz.func100, Tryz.ntmps100
  go_wp2_with (at_builtin; refine wpList_append_own _ rfl _ _ 109 rfl w.heap.size 4 i0 (.bool false) 1 1 Tryz.underlying109 HI.out.1 HI.out.2.1 HI.out.2.2.1 HI.out.2.2.2 rfl (by decide) _ _ _ rfl HOwn.out ⟨bk, off, none⟩ N c (frm.map Value.bool) rfl HLen.out HNews.out HOne.out (by unfold maxLen; omega) (by omega) (by simp) ?_; intro v' w' hown' hgrow _)
  simp only [Nat.zero_add, List.nil_append] at hown'
  obtain ⟨g, cap', rfl, hg⟩ : ∃ g cap', v' = .slice (some ⟨g, 0, none⟩) N cap' ∧ w.heap.size ≤ g := by
    rcases hown'.2 with ⟨_, h⟩ | ⟨g, c2, cur, hv, hgb, _⟩
    · exact absurd h HNe.out
    · exact ⟨g, c2, hv, hgb⟩
  have HHo := Lib.hid (own_holds hown')
  have HGr := Lib.hid hgrow
  clear hown' hgrow
  go_wp2_with fail
  go_ret
  exact ⟨g, cap', rfl, hg, HHo.out, HBx.out.grown HGr.out (by simp) (fun kk hkk => by cases hkk; exact Nat.le_refl _)⟩

/-- A function value that answers a predicate of pairs, in every later world. -/
def PredP (F : FuncId) (cap : Array Value) (p : Int × Int → Bool) (xs : List (Int × Int)) (w : World) : Prop :=
  ∀ x ∈ xs, ∀ W, Below w.heap.size w W → Calls Tryz.prog F (#[Value.agg #[.int .i64 x.1, .int .i64 x.2]] ++ cap) W fun e w' => e = .returned (.bool (p x)) ∧ Below W.heap.size W w'

set_option maxHeartbeats 1000000 in
theorem indexFunc_pairs (F : FuncId) (cp : Value) (p : Int × Int → Bool) (s : Sl (Int × Int)) (w : World) (hen : ∀ args w, (callFunc F args).run Tryz.prog w = .ok (.enter F args) w)
    (hl : s.xs.length ≤ 9223372036854775807) (hH : SlHolds w 2 rgCells s) (hp : PredP F #[cp] p s.xs w) :
    Calls Tryz.prog 120 #[.slice s.a s.xs.length s.c, .func (.func F) #[] #[cp]] w fun e w' => e = .returned (.int .i64 (idxOf p s.xs)) ∧ Below w.heap.size w w' := by
  have HH := Lib.hid hH
  have HP := Lib.hid hp
  clear hH hp
  obtain ⟨a, c, xs⟩ := s
  simp only [] at *
  go_enter Tryz.func120, Tryz.ntmps120
  go_wp2_with fail
  go_loopg [8] xs.length (fun g i wx => ∃ k : Nat, k + g = xs.length ∧ i = .int .i64 k ∧ Below w.heap.size w wx ∧ Hid (∀ (j : Nat) x, j < k → xs[j]? = some x → p x = false))
  case atStart => exact ⟨0, by omega, rfl, Below.refl _ _, Lib.hid (fun j x h => absurd h (Nat.not_lt_zero _))⟩
  case round =>
    obtain ⟨k, hk, rfl, hb, HN⟩ := hrel
    by_cases hlt : k < xs.length
    · obtain ⟨g, rfl⟩ : ∃ g, gk = g + 1 := ⟨gk - 1, by omega⟩
      obtain ⟨⟨x, y⟩, hx⟩ : ∃ r : Int × Int, xs[k]? = some r := ⟨_, List.getElem?_eq_getElem hlt⟩
      obtain ⟨ba, off, ha, hba, r0, r1⟩ := pairRow (HH.out.under hb) hx
      have Hx := Lib.hid hx
      clear hx
      simp only [] at ha r0 r1
      subst ha
      have HC : Hid (Calls Tryz.prog F #[.agg #[.int .i64 x, .int .i64 y], cp] wr fun e w' => e = .returned (.bool (p (x, y))) ∧ Below wr.heap.size wr w') := Lib.hid (HP.out (x, y) (List.mem_of_getElem? Hx.out) wr hb)
      cases hpx : p (x, y)
      · rw [hpx] at HC
        go_wp2_with fail
        refine HC.out.mono ?_
        rintro e w' ⟨rfl, hb2⟩
        clear r0 r1
        go_wp2_with fail
        go_roundg g
        case measure => omega
        case rel =>
          refine ⟨k + 1, by omega, by go_num, bTrans hb hb2, Lib.hid (fun j y hj hy => ?_)⟩
          rcases Nat.lt_or_ge j k with h | h
          · exact HN.out j y h hy
          · obtain rfl : j = k := by omega
            rw [Hx.out] at hy
            cases hy
            exact hpx
      · rw [hpx] at HC
        have HI := Lib.hid (idxOf_at Hx.out hpx HN.out)
        clear hpx
        go_wp2_with fail
        refine HC.out.mono ?_
        rintro e w' ⟨rfl, hb2⟩
        clear r0 r1
        go_wp2_with fail
        go_ret
        exact ⟨ret_int HI.out.symm, bTrans hb hb2⟩
    · obtain rfl : k = xs.length := by omega
      have HI := Lib.hid (idxOf_none HN.out)
      go_wp2_with fail
      go_ret
      exact ⟨ret_int HI.out.symm, hb⟩

set_option maxHeartbeats 1000000 in
theorem containsFunc_pairs (F : FuncId) (cp : Value) (p : Int × Int → Bool) (s : Sl (Int × Int)) (w : World) (hen : ∀ args w, (callFunc F args).run Tryz.prog w = .ok (.enter F args) w)
    (hl : s.xs.length ≤ 9223372036854775807) (hH : SlHolds w 2 rgCells s) (hp : PredP F #[cp] p s.xs w) :
    Calls Tryz.prog 96 #[.slice s.a s.xs.length s.c, .func (.func F) #[] #[cp]] w fun e w' => e = .returned (.bool (s.xs.any p)) ∧ Below w.heap.size w w' := by
  have H := Lib.hid (indexFunc_pairs F cp p s w hen hl hH hp)
  have HI := Lib.hid (idxOf_pos p s.xs)
  clear hH hp
  generalize s.xs.any p = R at *
  generalize idxOf p s.xs = J at *
  obtain ⟨a, c, xs⟩ := s
  simp only [] at *
  go_enter Tryz.func96, Tryz.ntmps96
  go_wp2_with (go_at_call 120; refine H.out.mono ?_; rintro e w' ⟨rfl, hb⟩)
  go_ret
  exact ⟨ret_bool HI.out, hb⟩

theorem enters_inSet : ∀ args w, (callFunc 97 args).run Tryz.prog w = .ok (.enter 97 args) w := enters_of Tryz.func97 (by kernel_rfl) rfl

set_option maxHeartbeats 1000000 in
theorem inSet1_any (c : Int) (b : Nat) (x : Int × Int) (w : World) (hc : w.cell? ⟨b, 0, none⟩ = some (.int .i64 c)) :
    Calls Tryz.prog 97 #[.agg #[.int .i64 x.1, .int .i64 x.2], .pointer (some ⟨b, 0, none⟩)] w fun e w' => e = .returned (.bool (rgHas c x)) ∧ Below w.heap.size w w' := by
  have HR : Hid (rgHas c x = (decide (x.1 ≤ c) && decide (c ≤ x.2))) := Lib.hid rfl
  generalize rgHas c x = R at *
  obtain ⟨u, v⟩ := x
  simp only [] at *
  have hlt := cell_lt hc
  have hbx := bAlloc (Below.refl w.heap.size w) (.cells #[.int .i64 u, .int .i64 v] 95)
  have HX := Lib.hid (BoxIs.new w #[.int .i64 u, .int .i64 v] 95)
  have hc2 := (hbx.cell (p := ⟨b, 0, none⟩) hlt).trans hc
  clear hc
  go_enter Tryz.func97, Tryz.ntmps97
  go_upto_region 1 with fail
  generalize w.alloc _ = w1 at *
  obtain ⟨q0, q1, q2⟩ := HX.out.pair
  by_cases d1 : u ≤ c
  · by_cases d2 : c ≤ v
    · have HT : Hid (R = true) := Lib.hid (by rw [HR.out, decide_eq_true d1, decide_eq_true d2]; rfl)
      clear HR
      go_wp2_with fail
      go_ret
      exact ⟨ret_bool (by rw [HT.out] <;> simp), hbx⟩
    · have HT : Hid (R = false) := Lib.hid (by rw [HR.out, decide_eq_false d2, Bool.and_false])
      clear HR
      go_wp2_with fail
      go_ret
      exact ⟨ret_bool (by rw [HT.out] <;> simp <;> omega), hbx⟩
  · have HT : Hid (R = false) := Lib.hid (by rw [HR.out, decide_eq_false d1, Bool.false_and])
    clear HR
    go_wp2_with fail
    go_ret
    exact ⟨ret_bool (by rw [HT.out] <;> simp <;> omega), hbx⟩

set_option maxHeartbeats 2000000 in
set_option maxRecDepth 100000 in
theorem inSet_any {α : Type} (q : PartOf α) (c : Int) (w : World) (hs : SlHolds w 2 rgCells q.rg) (hl : q.rg.xs.length ≤ 1048576) :
    Calls Tryz.prog 65 #[partVal q, .int .i64 c] w fun e w' => e = .returned (.bool (inRg q.rg.xs c != q.neg)) ∧ Below w.heap.size w w' := by
  have hb1 := bAlloc (bAlloc (Below.refl w.heap.size w) (.cells (partArr q) 92)) (.cells #[.int .i64 c] 3)
  have HQ := Lib.hid ((BoxIs.new w (partArr q) 92).under (bAlloc (Below.refl _ _) (.cells #[.int .i64 c] 3)))
  have HY := Lib.hid (BoxIs.new (w.alloc (.cells (partArr q) 92)) #[.int .i64 c] 3)
  have hsz : (w.alloc (.cells (partArr q) 92)).heap.size = w.heap.size + 1 := by simp
  rw [hsz] at HY
  have HI := Lib.hid (fun W (hb : Below w.heap.size w W) (hc : W.cell? ⟨w.heap.size + 1, 0, none⟩ = some (.int .i64 c)) => containsFunc_pairs 97 (.pointer (some ⟨w.heap.size + 1, 0, none⟩)) (rgHas c) q.rg W enters_inSet (by omega) (hs.under hb) (fun x _ W2 hb2 => inSet1_any c (w.heap.size + 1) x W2 ((hb2.cell (p := ⟨w.heap.size + 1, 0, none⟩) (cell_lt hc)).trans hc)))
  have HE : Hid (inRg q.rg.xs c = q.rg.xs.any (rgHas c)) := Lib.hid rfl
  generalize inRg q.rg.xs c = E at *
  generalize q.rg.xs.any (rgHas c) = I at *
  clear hs hsz
  obtain ⟨kind, text, neg, ⟨ra, rc, rxs⟩, ⟨wa, wcap, wxs⟩⟩ := q
  simp only [] at *
  go_enter Tryz.func65, Tryz.ntmps65
  go_upto_region 1 with fail
  generalize (w.alloc _).alloc _ = w1 at *
  obtain ⟨p0, p1, p2, p3, p4, p5⟩ := HQ.out.part (p := (⟨kind, text, neg, ⟨ra, rc, rxs⟩, ⟨wa, wcap, wxs⟩⟩ : PartOf α))
  simp only [] at p3 p4
  have hcc := HY.out.cell (j := 0) rfl
  have HI2 := Lib.hid (HI.out w1.drew ⟨hb1.os, hb1.tape, hb1.output, hb1.size, hb1.block⟩ hcc)
  clear p1 p2 p5 HI
  go_region_held3 (fun w' => w'.cell? ⟨w.heap.size, 3, none⟩ = some (.slice ra rxs.length rc) ∧ w'.cell? ⟨w.heap.size, 2, none⟩ = some (.bool neg))
    (first | go_keep | exact ⟨(hb3.cell (p := ⟨w.heap.size, 3, none⟩) p0).trans p4, (hb3.cell (p := ⟨w.heap.size, 2, none⟩) p0).trans p3⟩)
    ((go_at_call 96; refine HI2.out.mono ?_; rintro e w3 ⟨rfl, hb3⟩))
  all_goals
    go_wp2_with fail
    go_ret
    exact ⟨ret_bool (by rw [HE.out]; cases I <;> cases neg <;> rfl), bTrans hb1 ⟨hb3.os, hb3.tape, hb3.output, hb3.size, hb3.block⟩⟩
end Go.Proofs.YtnpcbcnclncniaaGreatDoor
namespace Go.Proofs.YtnpcbcnclncniaaGreatDoor
open Go.RowKit

def RefAllDoes (n : Nat) : Prop := ∀ (xs : Sl (P n)) (s : ByteArray) (frm : List Bool) (a : Option Addr) (c N : Nat) (w : World), SOk w n xs → Good n xs.xs → szL n xs.xs ≤ 1048576 → frm.length = N → s.size + 1 = N → s.size ≤ 100000 → Holds w a (frm.map Value.bool) →
  Calls Tryz.prog 74 #[.slice xs.a xs.xs.length xs.c, .string s, .slice a N c] w (AllResN N (Rel s.data.toList n xs.xs) frm a c w)

theorem hasPre_take (X T : List UInt8) : Lib.hasPrefix X T = true ↔ X.take T.length = T := by
  unfold Lib.hasPrefix
  rw [List.isPrefixOf_iff_prefix, List.prefix_iff_eq_take]
  exact eq_comm
theorem Holds.setNot {w : World} {a : Option Addr} {xs : List Value} (h : Holds w a xs) {k : Nat} (hn : ∀ ad, a = some ad → ad.block ≠ k) (i : Nat) (v : Value) : Holds (w.setCell ⟨k, i, Option.none⟩ v) a xs := by
  rcases h with h | ⟨b, off, ha, hb, hc⟩
  · exact .inl h
  · refine .inr ⟨b, off, ha, by simpa using hb, fun j u hu => ?_⟩
    have hne : b ≠ k := hn _ ha
    have := hc j u hu
    unfold World.cell? at this ⊢
    rw [Below.heap_setCell _ _ _ _ (fun e => hne e)]
    exact this
/-- A star's inner loop. -/
def StarTo (tos0 : List Bool) (i m : Nat) (tos : List Bool) : Prop := tos.length = tos0.length ∧ ∀ j, tos[j]? = some true ↔ tos0[j]? = some true ∨ (i ≤ j ∧ j < m)
theorem StarTo.start (tos : List Bool) (i : Nat) : StarTo tos i i tos := ⟨rfl, fun _ => ⟨fun h => .inl h, fun h => h.elim id (fun h => absurd h.2 (by omega))⟩⟩
theorem StarTo.step {tos0 tos : List Bool} {i m : Nat} (h : StarTo tos0 i m tos) (him : i ≤ m) (hm : m < tos0.length) : StarTo tos0 i (m + 1) (tos.set m true) := by
  refine ⟨by rw [List.length_set]; exact h.1, fun j => ?_⟩
  rw [List.getElem?_set]
  by_cases e : m = j
  · subst e
    rw [if_pos rfl, if_pos (by rw [h.1]; exact hm)]
    exact ⟨fun _ => .inr ⟨him, by omega⟩, fun _ => rfl⟩
  · rw [if_neg e, h.2 j]
    constructor
    · rintro (h1 | h1)
      · exact .inl h1
      · exact .inr ⟨h1.1, by omega⟩
    · rintro (h1 | h1)
      · exact .inl h1
      · exact .inr ⟨h1.1, by omega⟩
theorem Marks.star {r : Nat → Nat → Prop} {frm tos0 tos : List Bool} {k m : Nat} (h : Marks r frm k tos0) (hk : frm[k]? = some true) (hs : StarTo tos0 k m tos) (hr : ∀ j, r k j ↔ k ≤ j ∧ j < m) : Marks r frm (k + 1) tos := by
  refine ⟨hs.1.trans h.1, fun j => ?_⟩
  rw [hs.2 j, h.2 j]
  constructor
  · rintro (⟨i, h1, h2, h3⟩ | h1)
    · exact ⟨i, by omega, h2, h3⟩
    · exact ⟨k, by omega, hk, (hr j).2 h1⟩
  · rintro ⟨i, h1, h2, h3⟩
    by_cases e : i = k
    · subst e
      exact .inr ((hr j).1 h3)
    · exact .inl ⟨i, by omega, h2, h3⟩
end Go.Proofs.YtnpcbcnclncniaaGreatDoor
namespace Go.Proofs.YtnpcbcnclncniaaGreatDoor
open Go.RowKit
abbrev vi (n : Int) : Value := .int .i64 n

/-- A function value that answers a predicate, in every later world. -/
def Pred_ints2 (F : FuncId) (c0 c1 : Value) (p : Int → Bool) (xs : List Int) (w : World) : Prop :=
  ∀ x ∈ xs, ∀ W, Below w.heap.size w W → Calls Tryz.prog F #[vi x, c0, c1] W fun e w' => e = .returned (.bool (p x)) ∧ Below W.heap.size W w'

set_option maxHeartbeats 1000000 in
theorem indexFunc_ints2 (F : FuncId) (c0 c1 : Value) (p : Int → Bool) (a : Option Addr) (c : Nat) (xs : List Int) (w : World) (hen : ∀ args w, (callFunc F args).run Tryz.prog w = .ok (.enter F args) w)
    (hl : xs.length ≤ 9223372036854775807) (hH : Holds w a (xs.map vi)) (hp : Pred_ints2 F c0 c1 p xs w) :
    Calls Tryz.prog 99 #[.slice a xs.length c, .func (.func F) #[] #[c0, c1]] w fun e w' => e = .returned (.int .i64 (idxOf p xs)) ∧ Below w.heap.size w w' := by
  have HH := Lib.hid hH
  have HP := Lib.hid hp
  clear hH hp
  go_enter Tryz.func99, Tryz.ntmps99
  go_wp2_with fail
  go_loopg [8] xs.length (fun g i wx => ∃ k : Nat, k + g = xs.length ∧ i = .int .i64 k ∧ Below w.heap.size w wx ∧ Hid (∀ (j : Nat) x, j < k → xs[j]? = some x → p x = false))
  case atStart => exact ⟨0, by omega, rfl, Below.refl _ _, Lib.hid (fun j x h => absurd h (Nat.not_lt_zero _))⟩
  case round =>
    obtain ⟨k, hk, rfl, hb, HN⟩ := hrel
    by_cases hlt : k < xs.length
    · obtain ⟨g, rfl⟩ : ∃ g, gk = g + 1 := ⟨gk - 1, by omega⟩
      obtain ⟨x, hx⟩ : ∃ x, xs[k]? = some x := ⟨_, List.getElem?_eq_getElem hlt⟩
      obtain ⟨ba, off, ha, hba, hca⟩ := (HH.out.under hb).at (k := k) (u := vi x) (by rw [List.getElem?_map, hx]; rfl)
      have Hx := Lib.hid hx
      clear hx
      subst ha
      have HC := Lib.hid (HP.out x (List.mem_of_getElem? Hx.out) wr hb)
      cases hpx : p x
      · rw [hpx] at HC
        go_wp2_with fail
        refine HC.out.mono ?_
        rintro e w' ⟨rfl, hb2⟩
        clear hca
        go_wp2_with fail
        go_roundg g
        case measure => omega
        case rel =>
          refine ⟨k + 1, by omega, by go_num, bTrans hb hb2, Lib.hid (fun j y hj hy => ?_)⟩
          rcases Nat.lt_or_ge j k with h | h
          · exact HN.out j y h hy
          · obtain rfl : j = k := by omega
            rw [Hx.out] at hy
            cases hy
            exact hpx
      · rw [hpx] at HC
        have HI := Lib.hid (idxOf_at Hx.out hpx HN.out)
        clear hpx
        go_wp2_with fail
        refine HC.out.mono ?_
        rintro e w' ⟨rfl, hb2⟩
        clear hca
        go_wp2_with fail
        go_ret
        exact ⟨ret_int HI.out.symm, bTrans hb hb2⟩
    · obtain rfl : k = xs.length := by omega
      have HI := Lib.hid (idxOf_none HN.out)
      go_wp2_with fail
      go_ret
      exact ⟨ret_int HI.out.symm, hb⟩

set_option maxHeartbeats 1000000 in
theorem containsFunc_ints2 (F : FuncId) (c0 c1 : Value) (p : Int → Bool) (a : Option Addr) (c : Nat) (xs : List Int) (w : World) (hen : ∀ args w, (callFunc F args).run Tryz.prog w = .ok (.enter F args) w)
    (hl : xs.length ≤ 9223372036854775807) (hH : Holds w a (xs.map vi)) (hp : Pred_ints2 F c0 c1 p xs w) :
    Calls Tryz.prog 72 #[.slice a xs.length c, .func (.func F) #[] #[c0, c1]] w fun e w' => e = .returned (.bool (xs.any p)) ∧ Below w.heap.size w w' := by
  have H := Lib.hid (indexFunc_ints2 F c0 c1 p a c xs w hen hl hH hp)
  have HI := Lib.hid (idxOf_pos p xs)
  clear hH hp
  generalize xs.any p = R at *
  generalize idxOf p xs = J at *
  go_enter Tryz.func72, Tryz.ntmps72
  go_wp2_with (go_at_call 99; refine H.out.mono ?_; rintro e w' ⟨rfl, hb⟩)
  go_ret
  exact ⟨ret_bool HI.out, hb⟩

/-- A function value that answers a predicate, in every later world. -/
def Pred_strs1 (F : FuncId) (c0 : Value) (p : ByteArray → Bool) (xs : List ByteArray) (w : World) : Prop :=
  ∀ x ∈ xs, ∀ W, Below w.heap.size w W → Calls Tryz.prog F #[Value.string x, c0] W fun e w' => e = .returned (.bool (p x)) ∧ Below W.heap.size W w'

set_option maxHeartbeats 1000000 in
theorem indexFunc_strs1 (F : FuncId) (c0 : Value) (p : ByteArray → Bool) (a : Option Addr) (c : Nat) (xs : List ByteArray) (w : World) (hen : ∀ args w, (callFunc F args).run Tryz.prog w = .ok (.enter F args) w)
    (hl : xs.length ≤ 9223372036854775807) (hH : Holds w a (xs.map Value.string)) (hp : Pred_strs1 F c0 p xs w) :
    Calls Tryz.prog 61 #[.slice a xs.length c, .func (.func F) #[] #[c0]] w fun e w' => e = .returned (.int .i64 (idxOf p xs)) ∧ Below w.heap.size w w' := by
  have HH := Lib.hid hH
  have HP := Lib.hid hp
  clear hH hp
  go_enter Tryz.func61, Tryz.ntmps61
  go_wp2_with fail
  go_loopg [8] xs.length (fun g i wx => ∃ k : Nat, k + g = xs.length ∧ i = .int .i64 k ∧ Below w.heap.size w wx ∧ Hid (∀ (j : Nat) x, j < k → xs[j]? = some x → p x = false))
  case atStart => exact ⟨0, by omega, rfl, Below.refl _ _, Lib.hid (fun j x h => absurd h (Nat.not_lt_zero _))⟩
  case round =>
    obtain ⟨k, hk, rfl, hb, HN⟩ := hrel
    by_cases hlt : k < xs.length
    · obtain ⟨g, rfl⟩ : ∃ g, gk = g + 1 := ⟨gk - 1, by omega⟩
      obtain ⟨x, hx⟩ : ∃ x, xs[k]? = some x := ⟨_, List.getElem?_eq_getElem hlt⟩
      obtain ⟨ba, off, ha, hba, hca⟩ := (HH.out.under hb).at (k := k) (u := Value.string x) (by rw [List.getElem?_map, hx]; rfl)
      have Hx := Lib.hid hx
      clear hx
      subst ha
      have HC := Lib.hid (HP.out x (List.mem_of_getElem? Hx.out) wr hb)
      cases hpx : p x
      · rw [hpx] at HC
        go_wp2_with fail
        refine HC.out.mono ?_
        rintro e w' ⟨rfl, hb2⟩
        clear hca
        go_wp2_with fail
        go_roundg g
        case measure => omega
        case rel =>
          refine ⟨k + 1, by omega, by go_num, bTrans hb hb2, Lib.hid (fun j y hj hy => ?_)⟩
          rcases Nat.lt_or_ge j k with h | h
          · exact HN.out j y h hy
          · obtain rfl : j = k := by omega
            rw [Hx.out] at hy
            cases hy
            exact hpx
      · rw [hpx] at HC
        have HI := Lib.hid (idxOf_at Hx.out hpx HN.out)
        clear hpx
        go_wp2_with fail
        refine HC.out.mono ?_
        rintro e w' ⟨rfl, hb2⟩
        clear hca
        go_wp2_with fail
        go_ret
        exact ⟨ret_int HI.out.symm, bTrans hb hb2⟩
    · obtain rfl : k = xs.length := by omega
      have HI := Lib.hid (idxOf_none HN.out)
      go_wp2_with fail
      go_ret
      exact ⟨ret_int HI.out.symm, hb⟩

set_option maxHeartbeats 1000000 in
theorem containsFunc_strs1 (F : FuncId) (c0 : Value) (p : ByteArray → Bool) (a : Option Addr) (c : Nat) (xs : List ByteArray) (w : World) (hen : ∀ args w, (callFunc F args).run Tryz.prog w = .ok (.enter F args) w)
    (hl : xs.length ≤ 9223372036854775807) (hH : Holds w a (xs.map Value.string)) (hp : Pred_strs1 F c0 p xs w) :
    Calls Tryz.prog 23 #[.slice a xs.length c, .func (.func F) #[] #[c0]] w fun e w' => e = .returned (.bool (xs.any p)) ∧ Below w.heap.size w w' := by
  have H := Lib.hid (indexFunc_strs1 F c0 p a c xs w hen hl hH hp)
  have HI := Lib.hid (idxOf_pos p xs)
  clear hH hp
  generalize xs.any p = R at *
  generalize idxOf p xs = J at *
  go_enter Tryz.func23, Tryz.ntmps23
  go_wp2_with (go_at_call 61; refine H.out.mono ?_; rintro e w' ⟨rfl, hb⟩)
  go_ret
  exact ⟨ret_bool HI.out, hb⟩
end Go.Proofs.YtnpcbcnclncniaaGreatDoor
namespace Go.Proofs.YtnpcbcnclncniaaGreatDoor
open Go.RowKit

/-- Whether something is so. -/
noncomputable def qd (Q : Prop) : Bool := @decide Q (Classical.propDecidable Q)
theorem qd_iff {Q : Prop} : qd Q = true ↔ Q := by
  unfold qd
  exact @decide_eq_true_iff Q (Classical.propDecidable Q)
theorem qd_res {Q : Prop} {w w' : World} {e : Ending} (h : BoolRes Q w e w') : e = .returned (.bool (qd Q)) ∧ Below w.heap.size w w' := by
  obtain ⟨b, rfl, hb, h2⟩ := h
  refine ⟨?_, h2⟩
  have : b = qd Q := by
    cases hq : qd Q
    · cases b
      · rfl
      · have := qd_iff.2 (hb.1 rfl)
        rw [hq] at this
        exact this.symm
    · exact hb.2 (qd_iff.1 hq)
  rw [this]

set_option maxHeartbeats 2000000 in
set_option maxRecDepth 100000 in
theorem gpath1_any (n : Nat) (hf : RefAllDoes n) (x : Sl (P n)) (rooted dirs : Bool) (s : ByteArray) (i bp bg : Nat) (w : World) (hs : SOk w n x) (hg : Good n x.xs) (hz : szL n x.xs ≤ 1048576) (hsz : s.size ≤ 100000) (hi : i ≤ s.size) (hp : BoxIs w bp #[.string s] 9) (hq : BoxIs w bg (globArr rooted dirs x) 24) :
    Calls Tryz.prog 73 #[.int .i64 i, .pointer (some ⟨bp, 0, none⟩), .pointer (some ⟨bg, 0, none⟩)] w (BoolRes (Rel s.data.toList n x.xs i s.size) w) := by
  obtain ⟨u, hu⟩ : ∃ u, s.extract i s.size = u := ⟨_, rfl⟩
  have hD : u.data.toList = s.data.toList.drop i := by
    rw [← hu, Lib.extract_data, List.take_of_length_le (i := s.size - i) (by rw [List.length_drop, ← Lib.size_eq]; exact Nat.le_refl _)]
  have hul : u.size = s.size - i := by rw [Lib.size_eq, hD, List.length_drop, ← Lib.size_eq]
  have HR : Hid (Rel u.data.toList n x.xs 0 u.size ↔ Rel s.data.toList n x.xs i s.size) := Lib.hid (by
    rw [hD, Rel_drop (by rw [← Lib.size_eq]; exact hi), Nat.zero_add, show u.size + i = s.size by omega])
  obtain ⟨N, hN⟩ : ∃ N, u.size + 1 = N := ⟨_, rfl⟩
  have HF := Lib.hid (fun frm a c W (hb : Below w.heap.size w W) hl h2 => hf x u frm a c N W (hs.under hb) hg hz hl hN (by omega) h2)
  have hmk := fun W => make_of elem_bools N W (by omega)
  have hNi : (u.size : Int) + 1 = (N : Int) := by omega
  have HB0 : Hid (BMarks true u.data.toList 0 ((List.replicate N false).set 0 true)) := Lib.hid (by
    rw [← hN, Lib.size_eq]
    exact BMarks.start _ _)
  have hi0 : (0 : Int) ≤ (i : Int) := by omega
  have hi1 : (i : Int) ≤ (s.size : Int) := by omega
  have h0N : 0 < N := by omega
  have hNb : N ≤ 100001 := by omega
  have h1N : u.size < N := by omega
  have c0 := hp.cell (j := 0) rfl
  have HRow := Lib.hid (RowU.new w N)
  have hb1 := bAlloc (Below.refl w.heap.size w) (.cells (Array.replicate N (Value.bool false)) 4)
  have HQ := Lib.hid (hq.under hb1)
  have hbg := hq.lt
  generalize Rel s.data.toList n x.xs i s.size = R at *
  clear hs hg hz hf hN hul hD hp hq
  obtain ⟨sa, sc, xs⟩ := x
  simp only [] at *
  go_enter Tryz.func73, Tryz.ntmps73
  go_upto_region 2 with fail
  clear hu c0 hi0 hi1
  go_upto_region 3 with fail
  generalize w.alloc _ = w1 at *
  obtain ⟨f1, f2⟩ := HRow.out.cell (i := 0) (b := false) (by rw [List.getElem?_replicate, if_pos h0N])
  have HRow2 := Lib.hid (HRow.out.set 0 true)
  have HQ2 := Lib.hid (HQ.out.setOther (Nat.ne_of_lt hbg) 0 (.bool true))
  have hb2 := hb1.setCell (p := ⟨w.heap.size, 0, none⟩) (Nat.le_refl _) (.bool true)
  clear hmk HRow HQ hb1 hbg
  go_upto_region 4 with fail
  generalize World.setCell w1 _ _ = w2 at *
  clear f1 f2 hNi
  have c1 := HQ2.out.cell (j := 2) rfl
  go_wp2_with fail
  refine (HF.out _ _ _ _ hb2 (by rw [List.length_set, List.length_replicate]) HRow2.out.holds).mono ?_
  rintro e w3 ⟨a', c', ps, rfl, hpl, hsrc, hL, hb3⟩
  obtain ⟨bl, hbl⟩ : ∃ bl, ps[u.size]? = some bl := ⟨_, List.getElem?_eq_getElem (by omega)⟩
  obtain ⟨ba, off, ha, hba, hca⟩ := (hsrc.holds HRow2.out.holds hb3).at (k := u.size) (u := .bool bl) (by rw [List.getElem?_map, hbl]; rfl)
  have HB : Hid (bl = true ↔ R) := Lib.hid (by
    rw [← HR.out]
    have h1 := hL.2 u.size
    rw [hbl] at h1
    rw [show (bl = true) = (some bl = some true) by simp, h1]
    constructor
    · rintro ⟨i, h2, h3⟩
      have h4 := ((HB0.out.2 i).1 h2).2
      rwa [show i = 0 by omega] at h3
    · intro h3
      exact ⟨0, (HB0.out.2 0).2 ⟨.inl rfl, Nat.le_refl _⟩, h3⟩)
  subst ha
  clear hL hsrc hbl c1 HF HQ2 HRow2 hpl
  go_wp2_with fail
  go_ret
  exact ⟨bl, rfl, HB.out, bTrans hb2 hb3⟩

theorem elem_int : ElemOk Tryz.prog 59 3 (.int .i64 0) 8 := by
  obtain ⟨i0, hi, hz0, hz1, hz2⟩ := info_parts (show (Tryz.prog.info? 3).map (fun i => (i.zero, i.size, i.bytes)) = some (some (.int .i64 0), 1, 8) by kernel_rfl)
  exact ⟨i0, Tryz.underlying59, hi, hz0, hz1, hz2, rfl⟩
/-- Numbers of the call's own. -/
def OwnI (w0 wx : World) (a : Option Addr) (cap : Nat) (out : List Int) : Prop := Own 3 w0 wx a out.length cap (out.map vi)
theorem OwnI.one (w : World) (i : Int) : OwnI w (w.alloc (.cells #[vi i] 3)) (some ⟨w.heap.size, 0, none⟩) 1 [i] :=
  ⟨⟨rfl, .inr ⟨w.heap.size, 1, #[vi i], rfl, Nat.le_refl _, heap_alloc_new w _, Nat.le_refl _, by unfold maxLen; decide, rfl, rfl⟩⟩, bAlloc (Below.refl w.heap.size w) _⟩
set_option maxRecDepth 100000 in
theorem wp_appI {ops : Array Oper} {rest : List Oper} {o : Oper} {act : Act} {Q : Exit → Act → World → Prop} {te : TypeId} {w0 wx : World} {a : Option Addr} {cap : Nat} {out : List Int} {m : Nat}
    (hO : OwnI w0 wx a cap out) (hm : out.length = m) (y : Int) (hby : m + 1 ≤ 8796093022208) (hgd : o.guard = none) (s x : Operand)
    (ho : o.op = .call { callee := .builtin .append, args := #[s, x], argTypes := #[59, 59] }) (hs : act.eval s = .slice a m cap) (hx : act.eval x = .slice (some ⟨wx.heap.size, 0, none⟩) 1 1)
    (h : ∀ g cap' w', OwnI w0 w' (some ⟨g, 0, none⟩) cap' (out ++ [y]) → wpList Tryz.prog ops Q rest (act.put o.dst (.slice (some ⟨g, 0, none⟩) (m + 1) cap')) w') :
    wpList Tryz.prog ops Q (o :: rest) act (wx.alloc (.cells #[vi y] te)) := by
  subst hm
  refine wp_app elem_int hO [vi y] 1 rfl (by decide) (by simp [Value.oneCell']) (by omega) (by omega) hgd s x ho hs hx ?_
  intro g cap' w' hh
  refine h g cap' w' ?_
  unfold OwnI
  rw [List.map_append, List.length_append]
  exact hh

/-- Beginnings, gathered so far. -/
def Starts (rooted : Bool) (L : List UInt8) (k : Nat) (l : List Int) : Prop := (∀ i ∈ l, ∃ m : Nat, i = m ∧ Begins rooted L m ∧ m ≤ k) ∧ ∀ m : Nat, Begins rooted L m → m ≤ k → (m : Int) ∈ l
theorem Starts.start (rooted : Bool) (L : List UInt8) : Starts rooted L 0 [0] :=
  ⟨fun i hi => ⟨0, by simpa using hi, .inl rfl, Nat.le_refl _⟩, fun m _ hm => by rw [show m = 0 by omega]; exact List.mem_singleton.2 rfl⟩
theorem Starts.rooted {L : List UInt8} {k : Nat} : Starts true L k [0] :=
  ⟨fun i hi => ⟨0, by simpa using hi, .inl rfl, Nat.zero_le _⟩, fun m h hm => by
    rcases h with h | ⟨h, _⟩
    · rw [h]; exact List.mem_singleton.2 rfl
    · cases h⟩
theorem Starts.skip {L : List UInt8} {k : Nat} {l : List Int} (h : Starts false L k l) (hn : L[k]? ≠ some 47) : Starts false L (k + 1) l := by
  refine ⟨fun i hi => ?_, fun m hm h2 => ?_⟩
  · obtain ⟨m, h1, h2, h3⟩ := h.1 i hi
    exact ⟨m, h1, h2, by omega⟩
  · by_cases e : m = k + 1
    · subst e
      rcases hm with hm | ⟨_, _, h5⟩
      · omega
      · exact absurd h5 hn
    · exact h.2 m hm (by omega)
theorem Starts.add {L : List UInt8} {k : Nat} {l : List Int} (h : Starts false L k l) (hn : L[k]? = some 47) : Starts false L (k + 1) (l ++ [(k : Int) + 1]) := by
  refine ⟨fun i hi => ?_, fun m hm h2 => ?_⟩
  · rcases List.mem_append.1 hi with hi | hi
    · obtain ⟨m, h1, h2, h3⟩ := h.1 i hi
      exact ⟨m, h1, h2, by omega⟩
    · refine ⟨k + 1, by simpa using hi, .inr ⟨rfl, Nat.succ_pos _, hn⟩, Nat.le_refl _⟩
  · by_cases e : m = k + 1
    · subst e
      exact List.mem_append.2 (.inr (by simp))
    · exact List.mem_append.2 (.inl (h.2 m hm (by omega)))

theorem enters_gpath1 : ∀ args w, (callFunc 73 args).run Tryz.prog w = .ok (.enter 73 args) w := enters_of Tryz.func73 (by kernel_rfl) rfl

set_option maxHeartbeats 4000000 in
set_option maxRecDepth 100000 in
theorem globPath_any (n : Nat) (hf : RefAllDoes n) (x : Sl (P n)) (rooted dirs : Bool) (s : ByteArray) (w : World) (hs : SOk w n x) (hg : Good n x.xs) (hz : szL n x.xs ≤ 1048576) (hsz : s.size ≤ 100000) :
    Calls Tryz.prog 37 #[globVal rooted dirs x, .string s] w (BoolRes (GPath rooted n x.xs s.data.toList) w) := by
  obtain ⟨w2, hw2⟩ : ∃ w2, (w.alloc (.cells (globArr rooted dirs x) 24)).alloc (.cells #[.string s] 9) = w2 := ⟨_, rfl⟩
  have HW2 := Lib.hid hw2
  have hb1 : Below w.heap.size w w2 := by rw [← hw2]; exact bAlloc (bAlloc (Below.refl w.heap.size w) (.cells (globArr rooted dirs x) 24)) _
  have HG : Hid (BoxIs w2 w.heap.size (globArr rooted dirs x) 24) := Lib.hid (by rw [← hw2]; exact (BoxIs.new w _ _).under (bAlloc (Below.refl _ _) _))
  have HP : Hid (BoxIs w2 (w.heap.size + 1) #[.string s] 9) := Lib.hid (by
    have := BoxIs.new (w.alloc (.cells (globArr rooted dirs x) 24)) #[.string s] 9
    rw [hw2] at this
    rwa [show (w.alloc (.cells (globArr rooted dirs x) 24)).heap.size = w.heap.size + 1 by simp] at this)
  have HC : Hid (∀ (l : List Int) a c m W, l.length = m → m ≤ 100001 → Below w2.heap.size w2 W → Holds W a (l.map vi) → Starts rooted s.data.toList s.data.toList.length l →
      Calls Tryz.prog 72 #[.slice a m c, .func (.func 73) #[] #[.pointer (some ⟨w.heap.size + 1, 0, none⟩), .pointer (some ⟨w.heap.size, 0, none⟩)]] W fun e w' => e = .returned (.bool (qd (Ends rooted n x.xs s.data.toList s.data.toList.length))) ∧ Below W.heap.size W w') := Lib.hid (fun l a c m W hlm hl hb hH hst => by
    subst hlm
    have h0 := containsFunc_ints2 73 (.pointer (some ⟨w.heap.size + 1, 0, none⟩)) (.pointer (some ⟨w.heap.size, 0, none⟩)) (fun i => qd (Rel s.data.toList n x.xs i.toNat s.size)) a c l W enters_gpath1 (by omega) hH (fun i hi W2 hb2 => by
      obtain ⟨m, rfl, h1, h2⟩ := hst.1 i hi
      have h3 := gpath1_any n hf x rooted dirs s m (w.heap.size + 1) w.heap.size W2 (hs.under (bTrans (bTrans hb1 hb) hb2)) hg hz hsz (by rw [Lib.size_eq]; exact h2) (HP.out.under (bTrans hb hb2)) (HG.out.under (bTrans hb hb2))
      exact h3.mono fun e w' h => qd_res h)
    refine h0.mono fun e w' h => ⟨h.1.trans ?_, h.2⟩
    congr 2
    rw [Bool.eq_iff_iff, List.any_eq_true, qd_iff]
    constructor
    · rintro ⟨i, h1, h2⟩
      obtain ⟨m, rfl, h3, h4⟩ := hst.1 i h1
      refine ⟨m, h3, h4, ?_⟩
      have h5 := qd_iff.1 h2
      rw [← Lib.size_eq]
      exact h5
    · rintro ⟨m, h3, h4, h5⟩
      refine ⟨m, hst.2 m h3 h4, qd_iff.2 ?_⟩
      rw [← Lib.size_eq] at h5
      exact h5)
  have HQ : Hid (GPath rooted n x.xs s.data.toList ↔ s.data.toList ≠ [] ∧ Ends rooted n x.xs s.data.toList s.data.toList.length) := Lib.hid gpath_ends
  generalize GPath rooted n x.xs s.data.toList = GP at *
  generalize Ends rooted n x.xs s.data.toList s.data.toList.length = EN at *
  have hsl : s.data.toList.length = s.size := (Lib.size_eq s).symm
  have HSL := Lib.hid hsl
  have HEm : Hid (s.toList.isEmpty = true → s.data.toList = []) := Lib.hid (fun h => by rw [Lib.toList_data] at h; exact List.isEmpty_iff.1 h)
  have HEm2 : Hid (s.toList.isEmpty = false → s.data.toList ≠ []) := Lib.hid (fun h e => by rw [Lib.toList_data, e] at h; cases h)
  clear hs hg hz hf hsl hw2
  obtain ⟨sa, sc, xs⟩ := x
  go_enter Tryz.func37, Tryz.ntmps37
  go_upto_region 1 with fail
  rw [HW2.out]
  clear HW2
  have cp := HP.out.cell (j := 0) rfl
  cases hem : s.toList.isEmpty
  case true =>
    have HF : Hid (¬ GP) := Lib.hid (by
      rw [HQ.out]
      exact fun h => h.1 (HEm.out hem))
    clear HQ
    go_wp2_with fail
    go_ret
    exact ⟨false, rfl, ⟨fun h => absurd h Bool.false_ne_true, fun h => absurd h HF.out⟩, hb1⟩
  have HQ2 : Hid (GP ↔ EN) := Lib.hid (HQ.out.trans ⟨fun h => h.2, fun h => ⟨HEm2.out hem, h⟩⟩)
  clear HQ HEm HEm2
  have c0 := HG.out.cell (j := 0) rfl
  have HO := Lib.hid (OwnI.one w2 0)
  have hb3 := bAlloc (Below.refl w2.heap.size w2) (.cells #[vi 0] 3)
  have HP3 := Lib.hid (HP.out.under hb3)
  have HG3 := Lib.hid (HG.out.under hb3)
  go_upto_region 4 with fail
  generalize w2.alloc _ = w3 at *
  clear cp c0
  have c0 := HG3.out.cell (j := 0) rfl
  have cp := HP3.out.cell (j := 0) rfl
  cases rooted
  case true =>
    have HST := Lib.hid (Starts.rooted (L := s.data.toList) (k := s.data.toList.length))
    have HC2 := Lib.hid (HC.out [0] _ 1 1 w3 rfl (by decide) hb3 HO.out.holds HST.out)
    clear HC HST HO
    go_wp2_with fail
    refine HC2.out.mono ?_
    rintro e w4 ⟨rfl, hb4⟩
    go_wp2_with fail
    go_ret
    exact ⟨_, rfl, qd_iff.trans HQ2.out.symm, bTrans (bTrans hb1 hb3) hb4⟩
  case false =>
    go_wp2_with fail
    clear c0 cp
    go_loopg [5, 15] s.size (fun g s5 i wx => ∃ (k m : Nat) (a : Option Addr) (cap : Nat) (l : List Int), k + g = s.size ∧ m ≤ k + 1 ∧ i = .int .i64 k ∧ s5 = .slice a m cap ∧ Below w2.heap.size w2 wx ∧ Hid (OwnI w2 wx a cap l ∧ l.length = m) ∧ Hid (Starts false s.data.toList k l))
    case atStart => exact ⟨0, 1, _, 1, [0], by omega, by omega, rfl, rfl, hb3, Lib.hid ⟨HO.out, rfl⟩, Lib.hid (Starts.start _ _)⟩
    case round =>
      clear HO hb3 HP3 HG3
      obtain ⟨k, m, a, cap, l, hk, hmk, rfl, rfl, hb, HO, HST⟩ := hrel
      have cp := (HP.out.under hb).cell (j := 0) rfl
      by_cases hlt : k < s.size
      · obtain ⟨g, rfl⟩ : ∃ g, gk = g + 1 := ⟨gk - 1, by omega⟩
        obtain ⟨ch, hch⟩ : ∃ ch : UInt8, s[k]'hlt = ch := ⟨_, rfl⟩
        have HCh : Hid (s.data.toList[k]? = some ch) := Lib.hid (by rw [← hch]; exact Lib.data_getElem? s k hlt)
        by_cases h47 : ch = 47
        · have e47 : ((ch.toNat : Int) == 47) = true := by rw [h47]; rfl
          have HST2 := Lib.hid (HST.out.add (by rw [HCh.out, h47]))
          clear h47
          go_wp2_with (at_builtin; refine wp_appI HO.out.1 HO.out.2 ((k : Int) + 1) (by omega) rfl (.tmp 22) (.tmp 25) rfl rfl rfl ?_; intro g5 cap5 w7 hO7)
          have HO7 := Lib.hid (And.intro hO7 (show (l ++ [(k : Int) + 1]).length = m + 1 by rw [List.length_append, HO.out.2]; rfl))
          have hb7 : Below w2.heap.size w2 w7 := hO7.2
          clear hO7
          go_wp2_with fail
          go_roundg g
          case measure => omega
          case rel => exact ⟨k + 1, m + 1, _, _, _, by omega, by omega, by go_num, rfl, hb7, HO7, HST2⟩
        · have e47 : ((ch.toNat : Int) == 47) = false := by
            have : ch.toNat ≠ 47 := fun e => h47 (UInt8.toNat_inj.1 (by simpa using e))
            simp only [beq_eq_false_iff_ne, ne_eq]
            omega
          have HST2 := Lib.hid (HST.out.skip (fun h => h47 (by
            rw [HCh.out] at h
            simpa using h)))
          clear h47
          go_wp2_with fail
          go_roundg g
          case measure => omega
          case rel => exact ⟨k + 1, m, _, _, _, by omega, by omega, by go_num, rfl, hb, HO, HST2⟩
      · obtain rfl : k = s.size := by omega
        have HC2 := Lib.hid (HC.out l a cap m wr HO.out.2 (by omega) hb (Own.holds HO.out.1) (by rw [HSL.out]; exact HST.out))
        clear HC HST
        go_wp2_with fail
        refine HC2.out.mono ?_
        rintro e w4 ⟨rfl, hb4⟩
        go_wp2_with fail
        go_ret
        exact ⟨_, rfl, qd_iff.trans HQ2.out.symm, bTrans (bTrans hb1 hb) hb4⟩
end Go.Proofs.YtnpcbcnclncniaaGreatDoor
namespace Go.Proofs.YtnpcbcnclncniaaGreatDoor
open Go.RowKit

/-- The directories above a path, gathered so far. -/
def DirsTo (s : ByteArray) (k : Nat) (l : List ByteArray) : Prop := (∀ y ∈ l, ∃ m, m < k ∧ s.data.toList[m]? = some 47 ∧ y = s.extract 0 m) ∧ ∀ m, m < k → s.data.toList[m]? = some 47 → s.extract 0 m ∈ l
theorem DirsTo.start (s : ByteArray) : DirsTo s 0 [] := ⟨fun y hy => absurd hy (by simp), fun m hm => absurd hm (Nat.not_lt_zero _)⟩
theorem DirsTo.skip {s : ByteArray} {k : Nat} {l : List ByteArray} (h : DirsTo s k l) (hn : s.data.toList[k]? ≠ some 47) : DirsTo s (k + 1) l := by
  refine ⟨fun y hy => ?_, fun m hm h2 => ?_⟩
  · obtain ⟨m, h1, h2⟩ := h.1 y hy
    exact ⟨m, by omega, h2⟩
  · by_cases e : m = k
    · subst e
      exact absurd h2 hn
    · exact h.2 m (by omega) h2
theorem DirsTo.add {s : ByteArray} {k : Nat} {l : List ByteArray} (h : DirsTo s k l) (hn : s.data.toList[k]? = some 47) : DirsTo s (k + 1) (l ++ [s.extract 0 k]) := by
  refine ⟨fun y hy => ?_, fun m hm h2 => ?_⟩
  · rcases List.mem_append.1 hy with hy | hy
    · obtain ⟨m, h1, h2⟩ := h.1 y hy
      exact ⟨m, by omega, h2⟩
    · exact ⟨k, Nat.lt_succ_self _, hn, by simpa using hy⟩
  · by_cases e : m = k
    · subst e
      exact List.mem_append.2 (.inr (by simp))
    · exact List.mem_append.2 (.inl (h.2 m (by omega) h2))

set_option maxRecDepth 100000 in
theorem wp_appSm {ops : Array Oper} {rest : List Oper} {o : Oper} {act : Act} {Q : Exit → Act → World → Prop} {te : TypeId} {w0 wx : World} {a : Option Addr} {cap : Nat} {out : List ByteArray} {m : Nat}
    (hO : OwnS w0 wx a cap out) (hm : out.length = m) (y : ByteArray) (hby : m + 1 ≤ 8796093022208) (hgd : o.guard = none) (s x : Operand)
    (ho : o.op = .call { callee := .builtin .append, args := #[s, x], argTypes := #[51, 51] }) (hs : act.eval s = .slice a m cap) (hx : act.eval x = .slice (some ⟨wx.heap.size, 0, none⟩) 1 1)
    (h : ∀ g cap' w', OwnS w0 w' (some ⟨g, 0, none⟩) cap' (out ++ [y]) → wpList Tryz.prog ops Q rest (act.put o.dst (.slice (some ⟨g, 0, none⟩) (m + 1) cap')) w') :
    wpList Tryz.prog ops Q (o :: rest) act (wx.alloc (.cells #[Value.string y] te)) := by
  subst hm
  exact wp_appS hO y hby hgd s x ho hs hx h

def DirsRes (s : ByteArray) (w : World) (e : Ending) (w' : World) : Prop :=
  ∃ a c m l, e = .returned (.slice a m c) ∧ l.length = m ∧ m ≤ s.size ∧ DirsTo s s.size l ∧ Holds w' a (l.map Value.string) ∧ Below w.heap.size w w'

set_option maxHeartbeats 4000000 in
set_option maxRecDepth 100000 in
theorem dirsOf_any (s : ByteArray) (w : World) (hsz : s.size ≤ 100000) :
    Calls Tryz.prog 38 #[.string s] w (DirsRes s w) := by
  have hb0 := Below.refl w.heap.size w
  go_enter Tryz.func38, Tryz.ntmps38
  go_wp2_with fail
  go_loopg [3, 7] s.size (fun g s3 i wx => ∃ (k m : Nat) (a : Option Addr) (cap : Nat) (l : List ByteArray), k + g = s.size ∧ m ≤ k ∧ i = .int .i64 k ∧ s3 = .slice a m cap ∧ Below w.heap.size w wx ∧ Hid (OwnS w wx a cap l ∧ l.length = m) ∧ Hid (DirsTo s k l))
  case atStart => exact ⟨0, 0, none, 0, [], by omega, by omega, rfl, rfl, hb0, Lib.hid ⟨OwnS.nil hb0, rfl⟩, Lib.hid (DirsTo.start s)⟩
  case round =>
    clear hb0
    obtain ⟨k, m, a, cap, l, hk, hmk, rfl, rfl, hb, HO, HD⟩ := hrel
    by_cases hlt : k < s.size
    · obtain ⟨g, rfl⟩ : ∃ g, gk = g + 1 := ⟨gk - 1, by omega⟩
      obtain ⟨ch, hch⟩ : ∃ ch : UInt8, s[k]'hlt = ch := ⟨_, rfl⟩
      have HCh : Hid (s.data.toList[k]? = some ch) := Lib.hid (by rw [← hch]; exact Lib.data_getElem? s k hlt)
      by_cases h47 : ch = 47
      · have e47 : ((ch.toNat : Int) == 47) = true := by rw [h47]; rfl
        have HD2 := Lib.hid (HD.out.add (by rw [HCh.out, h47]))
        have hk0 : (0 : Int) ≤ (k : Int) := by omega
        have hk1 : (k : Int) ≤ (s.size : Int) := by omega
        clear h47
        go_wp2_with (at_builtin; refine wp_appSm HO.out.1 HO.out.2 (s.extract 0 k) (by omega) rfl (.tmp 14) (.tmp 18) rfl rfl rfl ?_; intro g5 cap5 w7 hO7)
        have HO7 := Lib.hid (And.intro hO7 (show (l ++ [s.extract 0 k]).length = m + 1 by rw [List.length_append, HO.out.2]; rfl))
        have hb7 : Below w.heap.size w w7 := hO7.2
        clear hO7
        go_wp2_with fail
        go_roundg g
        case measure => omega
        case rel => exact ⟨k + 1, m + 1, _, _, _, by omega, by omega, by go_num, rfl, hb7, HO7, HD2⟩
      · have e47 : ((ch.toNat : Int) == 47) = false := by
          have : ch.toNat ≠ 47 := fun e => h47 (UInt8.toNat_inj.1 (by simpa using e))
          simp only [beq_eq_false_iff_ne, ne_eq]
          omega
        have HD2 := Lib.hid (HD.out.skip (fun h => h47 (by
          rw [HCh.out] at h
          simpa using h)))
        clear h47
        go_wp2_with fail
        go_roundg g
        case measure => omega
        case rel => exact ⟨k + 1, m, _, _, _, by omega, by omega, by go_num, rfl, hb, HO, HD2⟩
    · obtain rfl : k = s.size := by omega
      go_wp2_with fail
      go_ret
      exact ⟨a, cap, m, l, rfl, HO.out.2, hmk, HD.out, Own.holds HO.out.1, hb⟩

theorem enters_globMatches1 : ∀ args w, (callFunc 98 args).run Tryz.prog w = .ok (.enter 98 args) w := enters_of Tryz.func98 (by kernel_rfl) rfl

set_option maxHeartbeats 1000000 in
set_option maxRecDepth 100000 in
theorem globMatches1_any (n : Nat) (hf : RefAllDoes n) (x : Sl (P n)) (rooted dirs : Bool) (s : ByteArray) (bg : Nat) (w : World) (hs : SOk w n x) (hg : Good n x.xs) (hz : szL n x.xs ≤ 1048576) (hsz : s.size ≤ 100000) (hq : BoxIs w bg (globArr rooted dirs x) 24) :
    Calls Tryz.prog 98 #[.string s, .pointer (some ⟨bg, 0, none⟩)] w (BoolRes (GPath rooted n x.xs s.data.toList) w) := by
  have HC := Lib.hid (globPath_any n hf x rooted dirs s w hs hg hz hsz)
  have c0 := hq.cell (j := 0) rfl
  have c1 := hq.cell (j := 1) rfl
  have c2 := hq.cell (j := 2) rfl
  generalize GPath rooted n x.xs s.data.toList = GP at *
  clear hs hg hz hf hq
  go_enter Tryz.func98, Tryz.ntmps98
  go_wp2_with fail
  refine HC.out.mono ?_
  rintro e w2 ⟨b, rfl, hbq, hb2⟩
  have HB := Lib.hid hbq
  clear hbq c0 c1 c2
  go_wp2_with fail
  go_ret
  exact ⟨b, rfl, HB.out, hb2⟩

set_option maxHeartbeats 2000000 in
set_option maxRecDepth 100000 in
theorem globMatches_any (n : Nat) (hf : RefAllDoes n) (x : Sl (P n)) (rooted dirs : Bool) (s : ByteArray) (w : World) (hs : SOk w n x) (hg : Good n x.xs) (hz : szL n x.xs ≤ 1048576) (hsz : s.size ≤ 100000) :
    Calls Tryz.prog 71 #[globVal rooted dirs x, .string s] w (BoolRes (GMatch rooted dirs n x.xs s.data.toList) w) := by
  have hb1 := bAlloc (Below.refl w.heap.size w) (.cells (globArr rooted dirs x) 24)
  have HQ := Lib.hid (BoxIs.new w (globArr rooted dirs x) 24)
  have HC := Lib.hid (fun W (hb : Below w.heap.size w W) => globPath_any n hf x rooted dirs s W (hs.under hb) hg hz hsz)
  have HD := Lib.hid (fun W => dirsOf_any s W hsz)
  have HM : Hid (∀ (l : List ByteArray) a c m W, l.length = m → m ≤ s.size → Below w.heap.size w W → BoxIs W w.heap.size (globArr rooted dirs x) 24 → Holds W a (l.map Value.string) → DirsTo s s.size l →
      Calls Tryz.prog 23 #[.slice a m c, .func (.func 98) #[] #[.pointer (some ⟨w.heap.size, 0, none⟩)]] W fun e w' => e = .returned (.bool (qd (GMatch rooted true n x.xs s.data.toList))) ∧ Below W.heap.size W w') := Lib.hid (fun l a c m W hlm hl hb hQ hH hst => by
    subst hlm
    have h0 := containsFunc_strs1 98 (.pointer (some ⟨w.heap.size, 0, none⟩)) (fun y => qd (GPath rooted n x.xs y.data.toList)) a c l W enters_globMatches1 (by omega) hH (fun y hy W2 hb2 => by
      obtain ⟨m, h1, h2, rfl⟩ := hst.1 y hy
      have h3 := globMatches1_any n hf x rooted dirs (s.extract 0 m) w.heap.size W2 (hs.under (bTrans hb hb2)) hg hz (by
        rw [Lib.size_eq, Lib.extract_data, List.length_take, List.length_drop, ← Lib.size_eq]
        omega) (hQ.under hb2)
      exact h3.mono fun e w' h => qd_res h)
    refine h0.mono fun e w' h => ⟨h.1.trans ?_, h.2⟩
    have hex : ∀ m, (s.extract 0 m).data.toList = s.data.toList.take m := fun m => by
      rw [Lib.extract_data, Nat.sub_zero, List.drop_zero]
    congr 2
    rw [Bool.eq_iff_iff, List.any_eq_true, qd_iff]
    unfold GMatch
    rw [if_pos rfl]
    constructor
    · rintro ⟨y, h1, h2⟩
      obtain ⟨m, h3, h4, rfl⟩ := hst.1 y h1
      have h5 := qd_iff.1 h2
      rw [hex] at h5
      exact ⟨m, h4, h5⟩
    · rintro ⟨m, h4, h5⟩
      have h6 := (List.getElem?_eq_some_iff.1 h4).1
      rw [← Lib.size_eq] at h6
      refine ⟨_, hst.2 m h6 h4, qd_iff.2 ?_⟩
      rw [hex]
      exact h5)
  have HI : Hid (GMatch rooted false n x.xs s.data.toList ↔ GPath rooted n x.xs s.data.toList) := Lib.hid (by
    unfold GMatch
    rw [if_neg (by decide)])
  generalize GPath rooted n x.xs s.data.toList = GP at *
  clear hs hg hz hf
  go_enter Tryz.func71, Tryz.ntmps71
  go_upto_region 1 with fail
  generalize w.alloc _ = w1 at *
  have c0 := HQ.out.cell (j := 0) rfl
  have c1 := HQ.out.cell (j := 1) rfl
  have c2 := HQ.out.cell (j := 2) rfl
  cases dirs
  case false =>
    generalize GMatch rooted false n x.xs s.data.toList = GM at *
    clear HM HD
    go_wp2_with fail
    refine (HC.out _ hb1).mono ?_
    rintro e w2 ⟨b, rfl, hbq, hb2⟩
    have HB := Lib.hid hbq
    clear hbq c0 c1 c2
    go_wp2_with fail
    go_ret
    exact ⟨b, rfl, HB.out.trans HI.out.symm, bTrans hb1 hb2⟩
  case true =>
    generalize GMatch rooted true n x.xs s.data.toList = GM at *
    clear HC HI
    go_wp2_with fail
    refine (HD.out _).mono ?_
    rintro e w2 ⟨a, c, m, l, rfl, h1, h2, h3, h4, hb2⟩
    have HM2 := Lib.hid (HM.out l a c m w2 h1 h2 (bTrans hb1 hb2) (HQ.out.under hb2) h4 h3)
    clear h1 h2 h3 h4 c0 c1 c2 HM HQ
    go_wp2_with fail
    refine HM2.out.mono ?_
    rintro e w4 ⟨rfl, hb4⟩
    go_wp2_with fail
    go_ret
    exact ⟨_, rfl, qd_iff, bTrans (bTrans hb1 hb2) hb4⟩
end Go.Proofs.YtnpcbcnclncniaaGreatDoor
namespace Go.Proofs.YtnpcbcnclncniaaGreatDoor
open Go.RowKit

theorem holds_one (w : World) (t : TypeId) (x : ByteArray) : Holds (w.alloc (.cells #[.string x] t)) (some ⟨w.heap.size, 0, none⟩) ([x].map Value.string) := holds_new w t [x]
theorem pathsErr_one (s : ByteArray) : Wh.pathsErr [s] = Wh.pathErr s.data.toList := by
  unfold Wh.pathsErr Wh.pathErr
  simp

end Go.Proofs.YtnpcbcnclncniaaGreatDoor
