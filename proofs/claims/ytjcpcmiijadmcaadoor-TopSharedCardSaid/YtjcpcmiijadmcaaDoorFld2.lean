/-
  seal.weights, seal.valueAt.
-/
import Derived.Test.YtjcpcmiijadmcaaDoorFld1
import Derived.Test.YtjcpcmiijadmcaaDoorRows2
import Derived.Test.YtjcpcmiijadmcaaDoorOwn
import Derived.Test.YtjcpcmiijadmcaaDoorSeqT
import Derived.Laws.MakeOwn
import Derived.Laws.OwnMore
namespace Go.Proofs.YtjcpcmiijadmcaaDoor
open Go.RowKit Wh.Fld

/-- A share. -/
structure Share where
  x : F
  d : ByteArray
def shareCells (s : Share) : List Value := [.int .i64 s.x.toNat, .string s.d]
def xOf (xs : List Share) (i : Nat) : F := (xs[i]?.map (·.x)).getD 0#8
theorem xOf_at {xs : List Share} {i : Nat} {s : Share} (h : xs[i]? = some s) : xOf xs i = s.x := by simp [xOf, h]

theorem shareRow {w : World} {a : Option Addr} {xs : List Share} (h : HoldsR w a 2 (xs.map shareCells)) {k : Nat} {s : Share} (hk : xs[k]? = some s) :
    ∃ b off, a = some ⟨b, off, none⟩ ∧ b < w.heap.size ∧ w.cell? ⟨b, off + k * 2, none⟩ = some (.int .i64 s.x.toNat) ∧ w.cell? ⟨b, off + k * 2 + 1, none⟩ = some (.string s.d) := by
  obtain ⟨b, off, ha, hb, hc⟩ := h.at (k := k) (row := shareCells s) (by simp [hk])
  exact ⟨b, off, ha, hb, hc 0 _ rfl, hc 1 _ rfl⟩

/-- A block of bytes. -/
def RowB (w : World) (g : Nat) (bs : List F) : Prop := w.heap[g]? = some (.cells (bs.map vf).toArray 5 (0, 0))
theorem RowB.lt {w : World} {g : Nat} {bs : List F} (h : RowB w g bs) : g < w.heap.size := (Array.getElem?_eq_some_iff.1 h).1
theorem RowB.under {w w' : World} {g : Nat} {bs : List F} (h : RowB w g bs) (hb : Below w.heap.size w w') : RowB w' g bs := by
  unfold RowB
  rw [hb.block g h.lt]
  exact h
theorem RowB.cell {w : World} {g : Nat} {bs : List F} (h : RowB w g bs) {i : Nat} {b : F} (hi : bs[i]? = some b) : w.cell? ⟨g, i, none⟩ = some (vf b) ∧ w.frozen? ⟨g, i, none⟩ = false := by
  constructor
  · rw [Lib.cell_of_heap h]
    simp [hi]
  · exact Lib.frozen_of_heap h i
theorem RowB.set {w : World} {g : Nat} {bs : List F} (h : RowB w g bs) (i : Nat) (v : F) : RowB (w.setCell ⟨g, i, none⟩ (vf v)) g (bs.set i v) := by
  unfold RowB at *
  simp [World.setCell, Array.getElem?_modify, h, List.map_set]
theorem row_other {w : World} {g k : Nat} (hk : k ≠ g) (i : Nat) (v : Value) : (w.setCell ⟨g, i, none⟩ v).heap[k]? = w.heap[k]? := Below.heap_setCell _ _ _ _ (fun e => hk e)

theorem zero_cells (n : Nat) : madeCells #[Value.int .u8 0] n = ((List.replicate n (0#8 : F)).map vf).toArray := by
  apply Array.toList_inj.1
  rw [toList_madeCells_one]
  simp

/-- make([]byte, n) -/
theorem make_bytes (n : Nat) (w : World) (hn : n ≤ 1000000) :
    (Instr.makeSlice 44 (.int .i64 n) (.int .i64 n)).run Tryd.prog w = .ok (.slice (some ⟨w.heap.size, 0, none⟩) n n) (w.alloc (.cells ((List.replicate n (0#8 : F)).map vf).toArray 5)) := by
  obtain ⟨i, ht, hi, hz0, hz1, hz2, hz3⟩ := elem_byte
  have h := run_makeSlice (P := Tryd.prog) w 44 5 i (.int .u8 0) ht hi hz0 .i64 .i64 n n (by omega) (by omega) (by rw [hz1]; omega) (by rw [hz2]; omega) (by omega)
  rw [hz1] at h
  simp only [Int.toNat_natCast, Nat.mul_one] at h
  have hc : (Value.int .u8 0).cells = #[Value.int .u8 0] := rfl
  rw [hc, zero_cells] at h
  exact h

/-- A block that holds a share. -/
def ShareBox (w : World) (b : Nat) (s : Share) : Prop := b < w.heap.size ∧ w.cell? ⟨b, 0, none⟩ = some (.int .i64 s.x.toNat) ∧ w.cell? ⟨b, 1, none⟩ = some (.string s.d)
theorem ShareBox.under {w w' : World} {b : Nat} {s : Share} (h : ShareBox w b s) (hb : Below w.heap.size w w') : ShareBox w' b s := by
  obtain ⟨h0, h1, h2⟩ := h
  exact ⟨Nat.lt_of_lt_of_le h0 hb.size, (hb.cell (p := ⟨b, 0, none⟩) h0).trans h1, (hb.cell (p := ⟨b, 1, none⟩) h0).trans h2⟩
theorem shareBox_new (w : World) (s : Share) (t : TypeId) : ShareBox (w.alloc (.cells #[.int .i64 s.x.toNat, .string s.d] t)) w.heap.size s := by
  refine ⟨by simp, ?_, ?_⟩ <;> (rw [World.cell?_alloc_at _ _ _ _ rfl]; rfl)
theorem ShareBox.drew {w : World} {b : Nat} {s : Share} (h : ShareBox w b s) : ShareBox w.drew b s := h
theorem RowB.drew {w : World} {g : Nat} {bs : List F} (h : RowB w g bs) : RowB w.drew g bs := h
theorem ShareBox.set {w : World} {b g : Nat} {s : Share} (h : ShareBox w b s) (hg : b ≠ g) (i : Nat) (v : Value) : ShareBox (w.setCell ⟨g, i, none⟩ v) b s := by
  obtain ⟨h0, h1, h2⟩ := h
  have hb : (w.setCell ⟨g, i, none⟩ v).heap[b]? = w.heap[b]? := row_other hg i v
  have hc : ∀ o, (w.setCell ⟨g, i, none⟩ v).cell? ⟨b, o, none⟩ = w.cell? ⟨b, o, none⟩ := fun o => by simp only [World.cell?, hb]
  exact ⟨by simpa [World.setCell] using h0, (hc 0).trans h1, (hc 1).trans h2⟩

set_option maxHeartbeats 2000000 in
set_option maxRecDepth 100000 in
theorem weights_any (xs : List Share) (a : Option Addr) (c : Nat) (z : F) (w : World) (hH : HoldsR w a 2 (xs.map shareCells)) (hl : xs.length ≤ 255) :
    Calls Tryd.prog 71 #[.slice a xs.length c, vf z] w fun e w' => ∃ g, e = .returned (.slice (some ⟨g, 0, none⟩) xs.length xs.length) ∧ RowB w' g ((List.range xs.length).map (fun i => wtTo (xOf xs) z i xs.length)) ∧ w.heap.size ≤ g ∧ Below w.heap.size w w' := by
  have HH := Lib.hid hH
  have hm := fun W => make_bytes xs.length W (by omega)
  clear hH
  go_enter Tryd.func71, Tryd.ntmps71
  go_wp2_with fail
  have HR0 : Hid (RowB (w.alloc (.cells (Array.replicate xs.length (vf 0#8)) 5)) w.heap.size ((List.range xs.length).map (fun i => if i < 0 then wtTo (xOf xs) z i xs.length else 0#8))) := Lib.hid (by
    unfold RowB
    rw [heap_alloc_new]
    congr 2
    apply Array.toList_inj.1
    have e : (List.range xs.length).map (fun i => if i < 0 then wtTo (xOf xs) z i xs.length else 0#8) = List.replicate xs.length 0#8 := by
      apply List.ext_getElem
      · simp
      · intro i h1 h2
        simp
    rw [e]
    simp)
  have hb0 : Below w.heap.size w (w.alloc (.cells (Array.replicate xs.length (vf 0#8)) 5)) := bAlloc (Below.refl _ _) _
  generalize w.alloc (.cells (Array.replicate xs.length (vf 0#8)) 5) = w1 at *
  go_loopg [15] xs.length (fun g i wx => ∃ k : Nat, k + g = xs.length ∧ i = .int .i64 k ∧ Below w.heap.size w wx ∧ Hid (RowB wx w.heap.size ((List.range xs.length).map (fun i => if i < k then wtTo (xOf xs) z i xs.length else 0#8))))
  case atStart => exact ⟨0, by omega, rfl, hb0, HR0⟩
  case round =>
    clear HR0 hb0
    obtain ⟨k, hk, rfl, hb, HR⟩ := hrel
    by_cases hlt : k < xs.length
    · obtain ⟨g, rfl⟩ : ∃ g, gk = g + 1 := ⟨gk - 1, by omega⟩
      obtain ⟨s, hx⟩ : ∃ s, xs[k]? = some s := ⟨_, List.getElem?_eq_getElem hlt⟩
      obtain ⟨ba, off, ha, hba, r0, r1⟩ := shareRow (HH.out.under hb) hx
      have HXs := Lib.hid (xOf_at hx)
      subst ha
      have HBx := Lib.hid (shareBox_new wr s 39)
      have hbx : Below wr.heap.size wr (wr.alloc (.cells #[.int .i64 s.x.toNat, .string s.d] 39)) := bAlloc (Below.refl _ _) _
      have hsz := HR.out.lt
      generalize hB : (List.range xs.length).map (fun i => if i < k then wtTo (xOf xs) z i xs.length else 0#8) = B at *
      have hBl : B.length = xs.length := by rw [← hB]; simp
      have HB := Lib.hid hB
      clear hx hB
      go_upto_region 5 with fail
      generalize wr.alloc _ = w3 at *
      have HR3 := Lib.hid (HR.out.under hbx)
      obtain ⟨bk, hbk⟩ : ∃ bk, B[k]? = some bk := ⟨_, List.getElem?_eq_getElem (by omega)⟩
      obtain ⟨q1, q2⟩ := HR3.out.cell hbk
      have HR4 : Hid (RowB (w3.setCell ⟨w.heap.size, k, none⟩ (.int .u8 1)) w.heap.size (B.set k (wtTo (xOf xs) z k 0))) := Lib.hid (HR3.out.set k 1#8)
      have HBx4 : Hid (ShareBox (w3.setCell ⟨w.heap.size, k, none⟩ (.int .u8 1)) wr.heap.size s) := Lib.hid (HBx.out.set (by omega) k _)
      have hb4 : Below w.heap.size w (w3.setCell ⟨w.heap.size, k, none⟩ (.int .u8 1)) := (bTrans hb hbx).setCell (p := ⟨w.heap.size, k, none⟩) (Nat.le_refl _) _
      clear hbk HR HR3 HBx hbx r0 r1 hb
      go_upto_region 6 with fail
      generalize w3.setCell _ _ = w4 at *
      clear q1 q2
      obtain ⟨wo, rfl⟩ : ∃ wo : World, wo = wr := ⟨_, rfl⟩
      go_wp2_with fail
      go_loopg [25] xs.length (fun g i wx => ∃ j : Nat, j + g = xs.length ∧ i = .int .i64 j ∧ Below w.heap.size w wx ∧ Hid (ShareBox wx wo.heap.size s) ∧ Hid (RowB wx w.heap.size (B.set k (wtTo (xOf xs) z k j))))
      case atStart => exact ⟨0, by omega, rfl, hb4, HBx4, HR4⟩
      case round =>
        clear HR4 HBx4 hb4
        obtain ⟨j, hj, rfl, hb, HBx, HR⟩ := hrel
        by_cases hlt2 : j < xs.length
        · obtain ⟨g2, rfl⟩ : ∃ g2, gk = g2 + 1 := ⟨gk - 1, by omega⟩
          obtain ⟨t, hx⟩ : ∃ t, xs[j]? = some t := ⟨_, List.getElem?_eq_getElem hlt2⟩
          obtain ⟨ba', off', ha, hba, r0, r1⟩ := shareRow (HH.out.under hb) hx
          have HXt := Lib.hid (xOf_at hx)
          cases ha
          have HBt := Lib.hid (shareBox_new wr t 39)
          have hbx : Below wr.heap.size wr (wr.alloc (.cells #[.int .i64 t.x.toNat, .string t.d] 39)) := bAlloc (Below.refl _ _) _
          have hBx0 := HBx.out.1
          have hgl := HR.out.lt
          clear hx
          go_upto_region 9 with fail
          generalize wr.alloc _ = w3 at *
          have HR3 := Lib.hid (HR.out.under hbx)
          have HBx3 := Lib.hid (HBx.out.under hbx)
          have hb3 := bTrans hb hbx
          clear r0 r1 HR HBx hb hbx
          by_cases hjk : j = k
          · subst hjk
            go_wp2_with fail
            go_roundg g2
            case measure => omega
            case rel => exact ⟨j + 1, by omega, by go_num, hb3, HBx3, Lib.hid (by rw [wtTo, if_neg (by omega)]; exact HR3.out)⟩
          · have hne : ((j : Int) != (k : Int)) = true := by simp; omega
            have HWt : Hid (wtTo (xOf xs) z k (j + 1) = mul (wtTo (xOf xs) z k j) (mul (z ^^^ t.x) (inv (s.x ^^^ t.x)))) := Lib.hid (by rw [wtTo, if_pos hjk, HXs.out, HXt.out])
            generalize wtTo (xOf xs) z k j = o at *
            obtain ⟨q1, q2⟩ := HR3.out.cell (i := k) (b := o) (by rw [List.getElem?_set_self (by omega)])
            obtain ⟨p0, p1, p2⟩ := HBx3.out
            obtain ⟨p3, p4, p5⟩ := HBt.out
            have x1 := bits_xor z t.x
            have x2 := bits_xor s.x t.x
            have hw1 := wrap_u8 s.x.toNat s.x.isLt
            have hw2 := wrap_u8 t.x.toNat t.x.isLt
            generalize z ^^^ t.x = zt at *
            generalize s.x ^^^ t.x = st at *
            go_wp2_with fail
            --R10
            refine wp_region_seqT (fun W => W = w3.drew) 22 [(0, true), (1, true), (2, true), (3, true), (4, true), (5, true), (6, true), (7, true), (8, true), (9, true), (10, true), (11, true), (12, true), (13, true), (14, true), (15, true), (16, true), (17, true), (18, false), (19, false), (20, false), (21, true), (22, false)] (by as_aux_lemma => kernel_rfl) (by as_aux_lemma => kernel_rfl) (by as_aux_lemma => kernel_rfl) (by decide) (by as_aux_lemma => kernel_rfl) (by decide) rfl ?_
            intro OPS HO
            refine seqT_take (o := ⟨_, _, _, _, _, _⟩) (v := ?_) (by rw [HO.out]; rfl) (by rfl) ?_ ?_
            rotate_left 1
            · first | ((intro W _; go_simp) <;> with_reducible rfl) | (intro W hW; subst hW; (go_simp <;> with_reducible rfl))
            try simp only [Act.put, List.setIfInBounds_toArray, List.set_cons_zero, List.set_cons_succ]
            refine seqT_take (o := ⟨_, _, _, _, _, _⟩) (v := ?_) (by rw [HO.out]; rfl) (by rfl) ?_ ?_
            rotate_left 1
            · first | ((intro W _; go_simp) <;> with_reducible rfl) | (intro W hW; subst hW; (go_simp <;> with_reducible rfl))
            try simp only [Act.put, List.setIfInBounds_toArray, List.set_cons_zero, List.set_cons_succ]
            refine seqT_take (o := ⟨_, _, _, _, _, _⟩) (v := ?_) (by rw [HO.out]; rfl) (by rfl) ?_ ?_
            rotate_left 1
            · first | ((intro W _; go_simp) <;> with_reducible rfl) | (intro W hW; subst hW; (go_simp <;> with_reducible rfl))
            try simp only [Act.put, List.setIfInBounds_toArray, List.set_cons_zero, List.set_cons_succ]
            refine seqT_take (o := ⟨_, _, _, _, _, _⟩) (v := ?_) (by rw [HO.out]; rfl) (by rfl) ?_ ?_
            rotate_left 1
            · first | ((intro W _; go_simp) <;> with_reducible rfl) | (intro W hW; subst hW; (go_simp <;> with_reducible rfl))
            try simp only [Act.put, List.setIfInBounds_toArray, List.set_cons_zero, List.set_cons_succ]
            refine seqT_take (o := ⟨_, _, _, _, _, _⟩) (v := ?_) (by rw [HO.out]; rfl) (by rfl) ?_ ?_
            rotate_left 1
            · first | ((intro W _; go_simp) <;> with_reducible rfl) | (intro W hW; subst hW; (go_simp <;> with_reducible rfl))
            try simp only [Act.put, List.setIfInBounds_toArray, List.set_cons_zero, List.set_cons_succ]
            refine seqT_take (o := ⟨_, _, _, _, _, _⟩) (v := ?_) (by rw [HO.out]; rfl) (by rfl) ?_ ?_
            rotate_left 1
            · first | ((intro W _; go_simp) <;> with_reducible rfl) | (intro W hW; subst hW; (go_simp <;> with_reducible rfl))
            try simp only [Act.put, List.setIfInBounds_toArray, List.set_cons_zero, List.set_cons_succ]
            refine seqT_take (o := ⟨_, _, _, _, _, _⟩) (v := ?_) (by rw [HO.out]; rfl) (by rfl) ?_ ?_
            rotate_left 1
            · first | ((intro W _; go_simp) <;> with_reducible rfl) | (intro W hW; subst hW; (go_simp <;> with_reducible rfl))
            try simp only [Act.put, List.setIfInBounds_toArray, List.set_cons_zero, List.set_cons_succ]
            refine seqT_take (o := ⟨_, _, _, _, _, _⟩) (v := ?_) (by rw [HO.out]; rfl) (by rfl) ?_ ?_
            rotate_left 1
            · first | ((intro W _; go_simp) <;> with_reducible rfl) | (intro W hW; subst hW; (go_simp <;> with_reducible rfl))
            try simp only [Act.put, List.setIfInBounds_toArray, List.set_cons_zero, List.set_cons_succ]
            refine seqT_take (o := ⟨_, _, _, _, _, _⟩) (v := ?_) (by rw [HO.out]; rfl) (by rfl) ?_ ?_
            rotate_left 1
            · first | ((intro W _; go_simp) <;> with_reducible rfl) | (intro W hW; subst hW; (go_simp <;> with_reducible rfl))
            try simp only [Act.put, List.setIfInBounds_toArray, List.set_cons_zero, List.set_cons_succ]
            refine seqT_take (o := ⟨_, _, _, _, _, _⟩) (v := ?_) (by rw [HO.out]; rfl) (by rfl) ?_ ?_
            rotate_left 1
            · first | ((intro W _; go_simp) <;> with_reducible rfl) | (intro W hW; subst hW; (go_simp <;> with_reducible rfl))
            try simp only [Act.put, List.setIfInBounds_toArray, List.set_cons_zero, List.set_cons_succ]
            refine seqT_take (o := ⟨_, _, _, _, _, _⟩) (v := ?_) (by rw [HO.out]; rfl) (by rfl) ?_ ?_
            rotate_left 1
            · first | ((intro W _; go_simp) <;> with_reducible rfl) | (intro W hW; subst hW; (go_simp <;> with_reducible rfl))
            try simp only [Act.put, List.setIfInBounds_toArray, List.set_cons_zero, List.set_cons_succ]
            refine seqT_take (o := ⟨_, _, _, _, _, _⟩) (v := ?_) (by rw [HO.out]; rfl) (by rfl) ?_ ?_
            rotate_left 1
            · first | ((intro W _; go_simp) <;> with_reducible rfl) | (intro W hW; subst hW; (go_simp <;> with_reducible rfl))
            try simp only [Act.put, List.setIfInBounds_toArray, List.set_cons_zero, List.set_cons_succ]
            refine seqT_take (o := ⟨_, _, _, _, _, _⟩) (v := ?_) (by rw [HO.out]; rfl) (by rfl) ?_ ?_
            rotate_left 1
            · first | ((intro W _; go_simp) <;> with_reducible rfl) | (intro W hW; subst hW; (go_simp <;> with_reducible rfl))
            try simp only [Act.put, List.setIfInBounds_toArray, List.set_cons_zero, List.set_cons_succ]
            refine seqT_take (o := ⟨_, _, _, _, _, _⟩) (v := ?_) (by rw [HO.out]; rfl) (by rfl) ?_ ?_
            rotate_left 1
            · first | ((intro W _; go_simp) <;> with_reducible rfl) | (intro W hW; subst hW; (go_simp <;> with_reducible rfl))
            try simp only [Act.put, List.setIfInBounds_toArray, List.set_cons_zero, List.set_cons_succ]
            refine seqT_take (o := ⟨_, _, _, _, _, _⟩) (v := ?_) (by rw [HO.out]; rfl) (by rfl) ?_ ?_
            rotate_left 1
            · first | ((intro W _; go_simp) <;> with_reducible rfl) | (intro W hW; subst hW; (go_simp <;> with_reducible rfl))
            try simp only [Act.put, List.setIfInBounds_toArray, List.set_cons_zero, List.set_cons_succ]
            refine seqT_take (o := ⟨_, _, _, _, _, _⟩) (v := ?_) (by rw [HO.out]; rfl) (by rfl) ?_ ?_
            rotate_left 1
            · first | ((intro W _; go_simp) <;> with_reducible rfl) | (intro W hW; subst hW; (go_simp <;> with_reducible rfl))
            try simp only [Act.put, List.setIfInBounds_toArray, List.set_cons_zero, List.set_cons_succ]
            refine seqT_take (o := ⟨_, _, _, _, _, _⟩) (v := ?_) (by rw [HO.out]; rfl) (by rfl) ?_ ?_
            rotate_left 1
            · first | ((intro W _; go_simp) <;> with_reducible rfl) | (intro W hW; subst hW; (go_simp <;> with_reducible rfl))
            try simp only [Act.put, List.setIfInBounds_toArray, List.set_cons_zero, List.set_cons_succ]
            refine seqT_take (o := ⟨_, _, _, _, _, _⟩) (v := ?_) (by rw [HO.out]; rfl) (by rfl) ?_ ?_
            rotate_left 1
            · first | ((intro W _; go_simp) <;> with_reducible rfl) | (intro W hW; subst hW; (go_simp <;> with_reducible rfl))
            try simp only [Act.put, List.setIfInBounds_toArray, List.set_cons_zero, List.set_cons_succ]
            refine seqT_do (o := ⟨_, _, _, _, _, _⟩) (by rw [HO.out]; rfl) (by rfl) (fun K hK => ?_)
            try simp only [hw1, hw2, x1, x2]
            go_wp2_with (go_at_call 100; (with_reducible refine (inverse_any _ _).mono ?_); rintro e w' ⟨rfl, rfl⟩)
            refine hK.out _ _ (fun _ => rfl) ?_
            clear hK K
            try simp only [Act.put, List.setIfInBounds_toArray, List.set_cons_zero, List.set_cons_succ]
            refine seqT_do (o := ⟨_, _, _, _, _, _⟩) (by rw [HO.out]; rfl) (by rfl) (fun K hK => ?_)
            go_wp2_with (go_at_call 42; (with_reducible refine (times_any _ _ _).mono ?_); rintro e w' ⟨rfl, rfl⟩)
            refine hK.out _ _ (fun _ => rfl) ?_
            clear hK K
            try simp only [Act.put, List.setIfInBounds_toArray, List.set_cons_zero, List.set_cons_succ]
            refine seqT_do (o := ⟨_, _, _, _, _, _⟩) (by rw [HO.out]; rfl) (by rfl) (fun K hK => ?_)
            go_wp2_with (go_at_call 42; (with_reducible refine (times_any _ _ _).mono ?_); rintro e w' ⟨rfl, rfl⟩)
            refine hK.out _ _ (fun _ => rfl) ?_
            clear hK K
            try simp only [Act.put, List.setIfInBounds_toArray, List.set_cons_zero, List.set_cons_succ]
            refine seqT_take (o := ⟨_, _, _, _, _, _⟩) (v := ?_) (by rw [HO.out]; rfl) (by rfl) ?_ ?_
            rotate_left 1
            · first | ((intro W _; go_simp) <;> with_reducible rfl) | (intro W hW; subst hW; (go_simp <;> with_reducible rfl))
            try simp only [Act.put, List.setIfInBounds_toArray, List.set_cons_zero, List.set_cons_succ]
            refine seqT_do (o := ⟨_, _, _, _, _, _⟩) (by rw [HO.out]; rfl) (by rfl) (fun K hK => ?_)
            go_wp2_with fail
            refine hK.out _ _ (fun h => absurd rfl h) ?_
            clear hK K
            try simp only [Act.put, List.setIfInBounds_toArray, List.set_cons_zero, List.set_cons_succ]
            refine seqT_done ?_
            --END10
            go_wp2_with fail
            go_roundg g2
            case measure => omega
            case rel => exact ⟨j + 1, by omega, by go_num, (hb3.drew).setCell (p := ⟨w.heap.size, k, none⟩) (Nat.le_refl _) _, Lib.hid (HBx3.out.drew.set (by omega) k _), Lib.hid (by rw [HWt.out]; have := HR3.out.drew.set k (mul o (mul zt (inv st))); rw [List.set_set] at this; exact this)⟩
        · have HB2 : Hid ((List.range xs.length).map (fun i => if i < k + 1 then wtTo (xOf xs) z i xs.length else 0#8) = B.set k (wtTo (xOf xs) z k xs.length)) := Lib.hid (by
            rw [← HB.out]
            apply List.ext_getElem
            · simp
            · intro i h1 h2
              rw [List.getElem_set]
              by_cases e : k = i
              · subst e
                simp
              · simp only [List.getElem_map, List.getElem_range, if_neg e]
                by_cases e2 : i < k
                · rw [if_pos e2, if_pos (by omega)]
                · rw [if_neg e2, if_neg (by omega)])
          obtain rfl : j = xs.length := by omega
          go_wp2_with fail
          go_roundg g
          case measure => omega
          case rel => exact ⟨k + 1, by omega, by go_num, hb, Lib.hid (by rw [HB2.out]; exact HR.out)⟩
    · have HR2 : Hid (RowB wr w.heap.size ((List.range xs.length).map (fun i => wtTo (xOf xs) z i xs.length))) := Lib.hid (by
        have e : (List.range xs.length).map (fun i => if i < k then wtTo (xOf xs) z i xs.length else 0#8) = (List.range xs.length).map (fun i => wtTo (xOf xs) z i xs.length) := by
          apply List.map_congr_left
          intro i hi
          rw [if_pos (by have := List.mem_range.1 hi; omega)]
        rw [← e]
        exact HR.out)
      clear HR
      go_wp2_with fail
      go_ret
      exact ⟨_, rfl, HR2.out, Nat.le_refl _, hb⟩
end Go.Proofs.YtjcpcmiijadmcaaDoor
