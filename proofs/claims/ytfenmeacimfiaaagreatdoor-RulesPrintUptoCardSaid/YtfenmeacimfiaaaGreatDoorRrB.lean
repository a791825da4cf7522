/-
 The texts Rr4, Rr5, Rr3, Rr6, Rr7, Rr8, Rr9, in one.
-/
import Derived.Test.YtfenmeacimfiaaaGreatDoorRrA
import Derived.Test.YtfenmeacimfiaaaGreatDoorGrD
import Derived.Test.YtfenmeacimfiaaaGreatDoorGrB
import Derived.Test.YtfenmeacimfiaaaGreatDoorGp5
import Derived.Test.YtfenmeacimfiaaaGreatDoorGp10
import Derived.Test.YtfenmeacimfiaaaGreatDoorGp9
import Derived.Test.YtfenmeacimfiaaaGreatDoorGrC
namespace Go.Proofs.YtfenmeacimfiaaaGreatDoor
open Go.RowKit Wh.G

/-- What the closure does. -/
def TextOk (n z ob M : Nat) (x : UInt8) (xs : List (P (n + 1))) (w : World) (E : Ending) (w' : World) : Prop :=
 E = .returned (.tuple #[]) ∧ ∃ (a' : Option Addr) (cap' : Nat) (ys : List (P (n + 1))), BoxIs w' ob #[.slice a' ys.length cap'] lty ∧ LsAt (n + 1) z w' a' cap' ys ∧ gpL (n + 1) ys = addT (gpL (n + 1) xs) x ∧ ys.length ≤ xs.length + 1 ∧ (∀ q ∈ ys, txtSz n q ≤ M + 1) ∧ Below ob w w'

set_option maxHeartbeats 4000000 in
set_option maxRecDepth 100000 in
theorem rtext_any (n z ob M : Nat) (x : UInt8) (w : World) (a : Option Addr) (cap : Nat) (xs : List (P (n + 1))) (hO : BoxIs w ob #[.slice a xs.length cap] lty) (hL : LsAt (n + 1) z w a cap xs) (hz : ob < z) (hzw : z ≤ w.heap.size) (hl : xs.length ≤ 1000000) (hM : M ≤ 1000000) (hT : ∀ q ∈ xs, txtSz n q ≤ M) :
  Calls Tryz.prog 161 #[.int .u8 x.toNat, .pointer (some ⟨ob, 0, none⟩)] w (TextOk n z ob M x xs w) := by
 have HO := Lib.hid hO
 have HLs := Lib.hid hL
 have HT := Lib.hid hT
 have hcv := run_chr x.toNat (by omega) (by have := x.toNat_lt; omega) w
 have HCh := Lib.hid (chr_byte x)
 have HCs : Hid ((chr (x.toNat : Int)).size = 1) := Lib.hid (by rw [chr_byte]; rfl)
 clear hO hL hT
 rcases List.eq_nil_or_concat xs with rfl | ⟨ys, p, hxs⟩
 ·have c0 := HO.out.cell (j := 0) rfl
  have hn0 : ¬ (0 : Int) < ((([] : List (P (n + 1))).length : Nat) : Int) := by simp
  have HLT : Hid (lastT (gpL (n + 1) ([] : List (P (n + 1)))) = false) := Lib.hid rfl
  have HX8 := Lib.hid (boxG_snd w (.cells #[.int .u8 x.toNat] 5) #[.int .i64 1, .string (chr x.toNat), .bool false, .slice none 0 0, .slice none 0 0] party)
  have HLs8 := Lib.hid (HLs.out.under HX8.out.2)
  have HO8 := Lib.hid (BoxIs.under HO.out HX8.out.2)
  have hz8 : z ≤ ((w.alloc (.cells #[.int .u8 x.toNat] 5)).alloc (.cells #[.int .i64 1, .string (chr x.toNat), .bool false, .slice none 0 0, .slice none 0 0] party)).heap.size := Nat.le_trans hzw HX8.out.2.size
  have HBa := Lib.hid (HX8.out.2.mono hzw)
  go_enter Tryz.func161, Tryz.ntmps161
  go_wp2_with (at_builtin; refine wpl_app elemPt (by decide) rfl (partCells_len (n + 1)) (oneCells (n + 1)) (by decide) hz8 HLs8.out.own (by omega) (simpleP n 1 (chr x.toNat)) HX8.out.1 rfl (.tmp 29) (.tmp 34) rfl (by first | rfl | (rw [List.length_append]; rfl)) rfl ?_)
  intro g cap' w' hown hgr hat hlt'
  have hown2 : OwnG party 5 (partCells (n + 1)) z w' (some ⟨g, 0, none⟩) cap' (([] : List (P (n + 1))) ++ [simpleP n 1 (chr x.toNat)]) := by first | exact hown | (rw [List.append_assoc]; exact hown)
  have HL9 := Lib.hid (HLs8.out.snoc (simple_made n _ _ 1 (chr x.toNat) (.inl ⟨rfl, by have := HCs.out; omega⟩)) (fun q hq => absurd hq simple_fp) hown2 hgr (hat.imp id (fun e => by rw [e]; simp)))
  have HO9 := Lib.hid (box_grown HO8.out hgr hz (fun q hq => (HLs8.out.own.base q hq).1))
  have HB9 : Hid (Below z w w') := Lib.hid (HBa.out.grown hgr hz8 (fun q hq => (HLs8.out.own.base q hq).1))
  clear hown hown2 hgr hat hlt' hcv
  have c9 := HO9.out.cell (j := 0) rfl
  have f9 := Lib.frozen_of_heap HO9.out 0
  have hs9 := (Side.refl ob w').set 0 (.slice (some ⟨g, 0, none⟩) (([] : List (P (n + 1))).length + 1) cap')
  have HO10 := Lib.hid (HO9.out.put 0 (.slice (some ⟨g, 0, none⟩) (([] : List (P (n + 1))).length + 1) cap'))
  have HL10 := Lib.hid (HL9.out.side hs9 hz)
  have HB10 := Lib.hid ((HB9.out.mono (by omega : ob ≤ z)).trans (hs9.below (Nat.le_refl _) (Nat.le_of_lt HO9.out.lt)))
  clear hs9
  go_wp2_with fail
  go_end0
  have e0 : (([] : List (P (n + 1))) ++ [simpleP n 1 (chr x.toNat)]).length = ([] : List (P (n + 1))).length + 1 := by first | rfl | simp
  refine ⟨rfl, some ⟨g, 0, none⟩, cap', ([] : List (P (n + 1))) ++ [simpleP n 1 (chr x.toNat)], by rw [e0]; exact HO10.out, HL10.out, ?_, by rw [e0]; first | exact Nat.le_refl _ | simp, fun q hq => ?_, HB10.out⟩
  ·rw [addT_new x HLT.out]
   unfold gpL
   rw [List.map_append, List.map_cons, List.map_nil]
   congr 2
   show GP.text (chr x.toNat).data.toList = _
   rw [HCh.out]
  ·rcases List.mem_append.1 hq with hq | hq
   ·have := HT.out q hq
    omega
   ·rw [List.mem_singleton.1 hq]
    show (chr x.toNat).size ≤ M + 1
    rw [HCh.out]
    show 1 ≤ M + 1
    omega
 ·rw [List.concat_eq_append] at hxs
  subst hxs
  obtain ⟨g0, cur, rfl, hz0, hheap, ckind, ctext⟩ := last_cells HLs.out.own
  have c0 := HO.out.cell (j := 0) rfl
  have hlen : (ys ++ [p]).length = ys.length + 1 := by simp
  have hl1 : (((ys ++ [p]).length : Nat) : Int) - 1 = (ys.length : Int) := by omega
  have hl2 : (0 : Int) < (((ys ++ [p]).length : Nat) : Int) := by omega
  have hl3 : (ys.length : Int) < (((ys ++ [p]).length : Nat) : Int) := by omega
  clear hlen
  have hl4 : (0 : Int) ≤ (ys.length : Int) := by omega
  by_cases hk1 : (pt n p).kind = 1
  rotate_left 1
  ·have hk1b : ((pt n p).kind == 1) = false := by simpa using hk1
   have HLT : Hid (lastT (gpL (n + 1) (ys ++ [p])) = false) := Lib.hid (by
    unfold gpL
    rw [List.map_append, List.map_cons, List.map_nil, lastT_snoc]
    exact gpOf_notext hk1)
   clear hk1 hheap ctext
   generalize (pt n p).kind = kd at *
   have HX8 := Lib.hid (boxG_snd w (.cells #[.int .u8 x.toNat] 5) #[.int .i64 1, .string (chr x.toNat), .bool false, .slice none 0 0, .slice none 0 0] party)
   have HLs8 := Lib.hid (HLs.out.under HX8.out.2)
   have HO8 := Lib.hid (BoxIs.under HO.out HX8.out.2)
   have hz8 : z ≤ ((w.alloc (.cells #[.int .u8 x.toNat] 5)).alloc (.cells #[.int .i64 1, .string (chr x.toNat), .bool false, .slice none 0 0, .slice none 0 0] party)).heap.size := Nat.le_trans hzw HX8.out.2.size
   have HBa := Lib.hid (HX8.out.2.mono hzw)
   go_enter Tryz.func161, Tryz.ntmps161
   go_wp2_with (at_builtin; refine wpl_app elemPt (by decide) rfl (partCells_len (n + 1)) (oneCells (n + 1)) (by decide) hz8 HLs8.out.own (by omega) (simpleP n 1 (chr x.toNat)) HX8.out.1 rfl (.tmp 29) (.tmp 34) rfl (by first | rfl | (rw [List.length_append]; rfl)) rfl ?_)
   intro g cap' w' hown hgr hat hlt'
   have hown2 : OwnG party 5 (partCells (n + 1)) z w' (some ⟨g, 0, none⟩) cap' ((ys ++ [p]) ++ [simpleP n 1 (chr x.toNat)]) := by first | exact hown | (rw [List.append_assoc]; exact hown)
   have HL9 := Lib.hid (HLs8.out.snoc (simple_made n _ _ 1 (chr x.toNat) (.inl ⟨rfl, by have := HCs.out; omega⟩)) (fun q hq => absurd hq simple_fp) hown2 hgr (hat.imp id (fun e => by rw [e]; simp)))
   have HO9 := Lib.hid (box_grown HO8.out hgr hz (fun q hq => (HLs8.out.own.base q hq).1))
   have HB9 : Hid (Below z w w') := Lib.hid (HBa.out.grown hgr hz8 (fun q hq => (HLs8.out.own.base q hq).1))
   clear hown hown2 hgr hat hlt' hcv
   have c9 := HO9.out.cell (j := 0) rfl
   have f9 := Lib.frozen_of_heap HO9.out 0
   have hs9 := (Side.refl ob w').set 0 (.slice (some ⟨g, 0, none⟩) (ys.length + 1 + 1) cap')
   have HO10 := Lib.hid (HO9.out.put 0 (.slice (some ⟨g, 0, none⟩) (ys.length + 1 + 1) cap'))
   have HL10 := Lib.hid (HL9.out.side hs9 hz)
   have HB10 := Lib.hid ((HB9.out.mono (by omega : ob ≤ z)).trans (hs9.below (Nat.le_refl _) (Nat.le_of_lt HO9.out.lt)))
   clear hs9
   go_wp2_with fail
   go_end0
   have e0 : ((ys ++ [p]) ++ [simpleP n 1 (chr x.toNat)]).length = ys.length + 1 + 1 := by first | rfl | simp
   refine ⟨rfl, some ⟨g, 0, none⟩, cap', (ys ++ [p]) ++ [simpleP n 1 (chr x.toNat)], by rw [e0]; exact HO10.out, HL10.out, ?_, by rw [e0]; first | exact Nat.le_refl _ | simp, fun q hq => ?_, HB10.out⟩
   ·rw [addT_new x HLT.out]
    unfold gpL
    rw [List.map_append, List.map_cons, List.map_nil]
    congr 2
    show GP.text (chr x.toNat).data.toList = _
    rw [HCh.out]
   ·rcases List.mem_append.1 hq with hq | hq
    ·have := HT.out q hq
     omega
    ·rw [List.mem_singleton.1 hq]
     show (chr x.toNat).size ≤ M + 1
     rw [HCh.out]
     show 1 ≤ M + 1
     omega
  ·have hk1b : ((pt n p).kind == 1) = true := by simpa using hk1
   have HTp : Hid ((pt n p).text.size ≤ M) := Lib.hid (HT.out p (by simp))
   have htp := HTp.out
   have hcs := HCs.out
   have hadd := fun W => run_add (pt n p).text (chr x.toNat) W (by omega)
   have HNt : Hid ((⟨((pt n p).text.data.toList ++ (chr (x.toNat : Int)).data.toList).toArray⟩ : ByteArray).data.toList = (pt n p).text.data.toList ++ [x]) := Lib.hid (by rw [HCh.out])
   have HNs : Hid ((⟨((pt n p).text.data.toList ++ (chr (x.toNat : Int)).data.toList).toArray⟩ : ByteArray).size ≤ M + 1) := Lib.hid (by
    rw [Lib.size_eq, HNt.out, List.length_append, ← Lib.size_eq]
    simp
    omega)
   have hwp : IntKind.i64.wrap ((((ys ++ [p]).length : Nat) : Int) - 1) = (ys.length : Int) := by
    rw [hl1]
    exact IntWalk.i64_in _ (by omega)
   have hcv2 : (convert 137 9 (.slice (some ⟨w.heap.size, 0, none⟩) 1 1)).run Tryz.prog ((w.alloc (.cells #[.int .u8 x.toNat] 5)).drew) = .ok (.string (chr x.toNat)) ((w.alloc (.cells #[.int .u8 x.toNat] 5)).drew) := run_chr x.toNat (by omega) (by have := x.toNat_lt; omega) w.drew
   have HB8 : Hid (Below w.heap.size w ((w.alloc (.cells #[.int .u8 x.toNat] 5)).drew)) := Lib.hid (bDrewN (bAlloc (Below.refl w.heap.size w) (.cells #[.int .u8 x.toNat] 5)) 1)
   have hwl : IntKind.i64.wrap (ys.length : Int) = (ys.length : Int) := IntWalk.i64_in _ (by omega)
   have hl5 : (ys.length : Int) < (ys.length : Int) + 1 := by omega
   have hg0 : g0 < w.heap.size := (Array.getElem?_eq_some_iff.1 hheap).1
   have hh8 : ((w.alloc (.cells #[.int .u8 x.toNat] 5)).drew).heap[g0]? = some (.cells cur party (0, 0)) := (HB8.out.block g0 hg0).trans hheap
   have df := Lib.frozen_of_heap hh8 (ys.length * 5 + 1)
   have c8 : ((w.alloc (.cells #[.int .u8 x.toNat] 5)).drew).cell? ⟨g0, ys.length * 5 + 1, none⟩ = some (.string (pt n p).text) := (World.cell?_of_block (w := w) (HB8.out.block g0 hg0)).trans ctext
   have c08 : ((w.alloc (.cells #[.int .u8 x.toNat] 5)).drew).cell? ⟨ob, 0, none⟩ = some (.slice (some ⟨g0, 0, none⟩) (ys ++ [p]).length cap) := (World.cell?_of_block (w := w) (HB8.out.block ob HO.out.lt)).trans c0
   clear hheap hh8 hcv
   go_enter Tryz.func161, Tryz.ntmps161
   go_upto_region 2 with fail
   clear ckind
   refine wp_region_seqU (fun W => W.cell? ⟨g0, ys.length * 5 + 1, none⟩ = some (.string (pt n p).text) ∧ W.cell? ⟨ob, 0, none⟩ = some (.slice (some ⟨g0, 0, none⟩) (ys ++ [p]).length cap)) 12 [(0, true), (1, true), (2, true), (3, true), (4, true), (5, true), (6, true), (7, false), (8, false), (9, true), (10, true), (11, true), (12, false)] (by as_aux_lemma => kernel_rfl) (by as_aux_lemma => kernel_rfl) (by as_aux_lemma => kernel_rfl) (by decide) (by as_aux_lemma => kernel_rfl) (by decide) ⟨ctext, c0⟩ ?_
   clear c0
   intro OPS HO2
   refine seqT_take (o := ⟨_, _, _, _, _, _⟩) (v := ?_) (by rw [HO2.out]; rfl) (by rfl) ?_ ?_
   rotate_left 1
   ·first | ((intro W _; go_simp) <;> with_reducible rfl) | (intro W hW; have s1 := hW.1; have s2 := hW.2; (go_simp <;> with_reducible rfl))
   try simp only [Act.put, List.setIfInBounds_toArray, List.set_cons_zero, List.set_cons_succ]
   refine seqT_take (o := ⟨_, _, _, _, _, _⟩) (v := ?_) (by rw [HO2.out]; rfl) (by rfl) ?_ ?_
   rotate_left 1
   ·first | ((intro W _; go_simp) <;> with_reducible rfl) | (intro W hW; have s1 := hW.1; have s2 := hW.2; (go_simp <;> with_reducible rfl))
   try simp only [Act.put, List.setIfInBounds_toArray, List.set_cons_zero, List.set_cons_succ]
   refine seqT_take (o := ⟨_, _, _, _, _, _⟩) (v := ?_) (by rw [HO2.out]; rfl) (by rfl) ?_ ?_
   rotate_left 1
   ·first | ((intro W _; go_simp) <;> with_reducible rfl) | (intro W hW; have s1 := hW.1; have s2 := hW.2; (go_simp <;> with_reducible rfl))
   try simp only [Act.put, List.setIfInBounds_toArray, List.set_cons_zero, List.set_cons_succ]
   refine seqT_take (o := ⟨_, _, _, _, _, _⟩) (v := ?_) (by rw [HO2.out]; rfl) (by rfl) ?_ ?_
   rotate_left 1
   ·first | ((intro W _; go_simp) <;> with_reducible rfl) | (intro W hW; have s1 := hW.1; have s2 := hW.2; (go_simp <;> with_reducible rfl))
   try simp only [Act.put, List.setIfInBounds_toArray, List.set_cons_zero, List.set_cons_succ]
   refine seqT_take (o := ⟨_, _, _, _, _, _⟩) (v := ?_) (by rw [HO2.out]; rfl) (by rfl) ?_ ?_
   rotate_left 1
   ·first | ((intro W _; go_simp) <;> with_reducible rfl) | (intro W hW; have s1 := hW.1; have s2 := hW.2; (go_simp <;> with_reducible rfl))
   try simp only [Act.put, List.setIfInBounds_toArray, List.set_cons_zero, List.set_cons_succ]
   refine seqT_take (o := ⟨_, _, _, _, _, _⟩) (v := ?_) (by rw [HO2.out]; rfl) (by rfl) ?_ ?_
   rotate_left 1
   ·first | ((intro W _; go_simp) <;> with_reducible rfl) | (intro W hW; have s1 := hW.1; have s2 := hW.2; (go_simp <;> with_reducible rfl))
   try simp only [Act.put, List.setIfInBounds_toArray, List.set_cons_zero, List.set_cons_succ]
   refine seqT_take (o := ⟨_, _, _, _, _, _⟩) (v := ?_) (by rw [HO2.out]; rfl) (by rfl) ?_ ?_
   rotate_left 1
   ·first | ((intro W _; go_simp) <;> with_reducible rfl) | (intro W hW; have s1 := hW.1; have s2 := hW.2; (go_simp <;> with_reducible rfl))
   try simp only [Act.put, List.setIfInBounds_toArray, List.set_cons_zero, List.set_cons_succ]
   refine seqT_do (o := ⟨_, _, _, _, _, _⟩) (by rw [HO2.out]; rfl) (by rfl) (fun K hK => ?_)
   go_wp2_with fail
   refine hK.out _ _ (fun _ => ⟨c8, c08⟩) ?_
   clear hK K
   try simp only [Act.put, List.setIfInBounds_toArray, List.set_cons_zero, List.set_cons_succ]
   refine seqT_do (o := ⟨_, _, _, _, _, _⟩) (by rw [HO2.out]; rfl) (by rfl) (fun K hK => ?_)
   go_wp2_with fail
   refine hK.out _ _ (fun _ => ⟨c8, c08⟩) ?_
   clear hK K
   try simp only [Act.put, List.setIfInBounds_toArray, List.set_cons_zero, List.set_cons_succ]
   refine seqT_take (o := ⟨_, _, _, _, _, _⟩) (v := ?_) (by rw [HO2.out]; rfl) (by rfl) ?_ ?_
   rotate_left 1
   ·first | ((intro W _; go_simp) <;> with_reducible rfl) | (intro W hW; have s1 := hW.1; have s2 := hW.2; (go_simp <;> with_reducible rfl))
   try simp only [Act.put, List.setIfInBounds_toArray, List.set_cons_zero, List.set_cons_succ]
   refine seqT_take (o := ⟨_, _, _, _, _, _⟩) (v := ?_) (by rw [HO2.out]; rfl) (by rfl) ?_ ?_
   rotate_left 1
   ·first | ((intro W _; go_simp) <;> with_reducible rfl) | (intro W hW; have s1 := hW.1; have s2 := hW.2; (go_simp <;> with_reducible rfl))
   try simp only [Act.put, List.setIfInBounds_toArray, List.set_cons_zero, List.set_cons_succ]
   refine seqT_take (o := ⟨_, _, _, _, _, _⟩) (v := ?_) (by rw [HO2.out]; rfl) (by rfl) ?_ ?_
   rotate_left 1
   ·first | ((intro W _; go_simp) <;> with_reducible rfl) | (intro W hW; have s1 := hW.1; have s2 := hW.2; (go_simp <;> with_reducible rfl))
   try simp only [Act.put, List.setIfInBounds_toArray, List.set_cons_zero, List.set_cons_succ]
   refine seqT_do (o := ⟨_, _, _, _, _, _⟩) (by rw [HO2.out]; rfl) (by rfl) (fun K hK => ?_)
   go_wp2_with fail
   refine hK.out _ _ (fun h => absurd rfl h) ?_
   clear hK K
   try simp only [Act.put, List.setIfInBounds_toArray, List.set_cons_zero, List.set_cons_succ]
   try simp only [Act.put, List.setIfInBounds_toArray, List.set_cons_zero, List.set_cons_succ]
   refine seqT_done ?_
   have HL7t := Lib.hid (HLs.out.text hk1 (t := ⟨((pt n p).text.data.toList ++ (chr (x.toNat : Int)).data.toList).toArray⟩) (by have := HNs.out; omega))
   have HSg : Hid (Side g0 w (w.setCell ⟨g0, ys.length * 5 + 1, none⟩ (.string ⟨((pt n p).text.data.toList ++ (chr (x.toNat : Int)).data.toList).toArray⟩))) := Lib.hid ((Side.refl g0 _).set _ _)
   generalize w.setCell _ _ = w8 at *
   have HB9 : Hid (Below w8.heap.size w8 (w8.alloc (.cells #[.int .u8 x.toNat] 5)).drew) := Lib.hid (bDrewN (bAlloc (Below.refl w8.heap.size w8) (.cells #[.int .u8 x.toNat] 5)) 1)
   have HO9 : Hid (BoxIs (w8.alloc (.cells #[.int .u8 x.toNat] 5)).drew ob #[.slice (some ⟨g0, 0, none⟩) (ys ++ [p]).length cap] lty) := Lib.hid (BoxIs.under (BoxIs.side HO.out HSg.out (by omega)) HB9.out)
   have HL9 := Lib.hid (HL7t.out.under HB9.out)
   have hsz := HSg.out.size
   have HBo : Hid (Below ob w (w8.alloc (.cells #[.int .u8 x.toNat] 5)).drew) := Lib.hid ((HSg.out.below (by omega) (by omega)).trans (HB9.out.mono (by omega)))
   clear df c8 c08 ctext hcv2 hadd hwp HSg
   generalize (w8.alloc _).drew = w9 at *
   go_wp2_with fail
   go_end0
   refine ⟨rfl, some ⟨g0, 0, none⟩, cap, ys ++ [withText n p ⟨((pt n p).text.data.toList ++ (chr (x.toNat : Int)).data.toList).toArray⟩], ?_, HL9.out, ?_, ?_, fun q hq => ?_, HBo.out⟩
   ·have e : (ys ++ [withText n p ⟨((pt n p).text.data.toList ++ (chr (x.toNat : Int)).data.toList).toArray⟩]).length = (ys ++ [p]).length := by simp
    rw [e]
    exact HO9.out
   ·have e0 : gpL (n + 1) (ys ++ [p]) = gpL (n + 1) ys ++ [.text (pt n p).text.data.toList] := by
     unfold gpL
     rw [List.map_append, List.map_cons, List.map_nil, gpOf_text hk1]
    rw [e0, addT_more]
    unfold gpL
    rw [List.map_append, List.map_cons, List.map_nil]
    congr 2
    exact (gpOf_text (p := withText n p ⟨((pt n p).text.data.toList ++ (chr (x.toNat : Int)).data.toList).toArray⟩) hk1).trans (congrArg GP.text HNt.out)
   ·simp
   ·rcases List.mem_append.1 hq with hq | hq
    ·have := HT.out q (by simp [hq])
     omega
    ·rw [List.mem_singleton.1 hq]
     exact HNs.out
end Go.Proofs.YtfenmeacimfiaaaGreatDoor
namespace Go.Proofs.YtfenmeacimfiaaaGreatDoor
open Go.RowKit Wh.G

/-- Whether a list of parts ends here. -/
def stopR (dd : Bool) : List UInt8 → Bool
 | [] => true
 | c :: _ => dd && (c == 44 || c == 125)
theorem PL_stopR {dd : Bool} {acc : List GP} {l : List UInt8} (h : stopR dd l = true) : PL dd acc l = .ok acc l := by
 cases l with
 | nil => exact PL_nil _ _
 | cons c r =>
  rw [PL_bind, if_pos]
  simpa [stopR] using h
theorem PL_goR {dd : Bool} {acc : List GP} {c : UInt8} {r : List UInt8} (h : stopR dd (c :: r) = false) : PL dd acc (c :: r) =
  if c = 63 then PL dd (acc ++ [.one]) r
  else if c = 42 then ((goS 0 (c :: r)).bind (fun kd q => .ok (if kd = 4 then GP.deep else .star) q)).bind (fun p q => PL dd (acc ++ [p]) q)
  else if c = 91 then (setR r).bind (fun p q => PL dd (acc ++ [p]) q)
  else if c = 123 then (WL [] r).bind (fun w q => PL dd (acc ++ [.ways w]) q)
  else if c = 92 then (if r = [] then .bad [] else if r.head? = some 0 then .bad r else PL dd (addT acc (r.headD 0)) r.tail)
  else if c = 0 ∨ c = 93 ∨ c = 125 then .bad (c :: r)
  else PL dd (addT acc c) r := by
 rw [PL_bind, if_neg (by intro h2; simp [stopR, h2.1] at h; exact h2.2.elim (fun e => h.1 e) (fun e => h.2 e))]
 by_cases k3 : c = 42
 ·subst k3
  have n1 : ¬ ((42 : UInt8) = 63) := by decide
  have n2 : (42 : UInt8) = 42 := rfl
  rw [if_neg n1, if_pos n2, if_neg n1, if_pos n2, goS_zero]
  split
  ·split
   ·rfl
   ·rfl
  ·rfl
 ·rw [if_neg k3, if_neg k3]
theorem go_bad {dd : Bool} {acc : List GP} {c : UInt8} {r : List UInt8} (h : stopR dd (c :: r) = false) (hc : c = 0 ∨ c = 93 ∨ c = 125) : PL dd acc (c :: r) = .bad (c :: r) := by
 rw [PL_goR h]
 rcases hc with rfl | rfl | rfl <;> simp
theorem go_one (dd : Bool) (acc : List GP) (r : List UInt8) : PL dd acc (63 :: r) = PL dd (acc ++ [.one]) r := by
 rw [PL_goR (by cases dd <;> rfl), if_pos rfl]
theorem go_stars (dd : Bool) (acc : List GP) (r : List UInt8) : PL dd acc (42 :: r) = ((goS 0 (42 :: r)).bind (fun kd q => .ok (if kd = 4 then GP.deep else .star) q)).bind (fun p q => PL dd (acc ++ [p]) q) := by
 rw [PL_goR (by cases dd <;> rfl), if_neg (show ¬ ((42 : UInt8) = 63) by decide), if_pos rfl]
theorem go_set (dd : Bool) (acc : List GP) (r : List UInt8) : PL dd acc (91 :: r) = (setR r).bind (fun p q => PL dd (acc ++ [p]) q) := by
 rw [PL_goR (by cases dd <;> rfl), if_neg (show ¬ ((91 : UInt8) = 63) by decide), if_neg (show ¬ ((91 : UInt8) = 42) by decide), if_pos rfl]
theorem go_ways (dd : Bool) (acc : List GP) (r : List UInt8) : PL dd acc (123 :: r) = (WL [] r).bind (fun w q => PL dd (acc ++ [.ways w]) q) := by
 rw [PL_goR (by cases dd <;> rfl), if_neg (show ¬ ((123 : UInt8) = 63) by decide), if_neg (show ¬ ((123 : UInt8) = 42) by decide), if_neg (show ¬ ((123 : UInt8) = 91) by decide), if_pos rfl]
theorem go_q0 (dd : Bool) (acc : List GP) : PL dd acc [92] = .bad [] := by
 rw [PL_goR (by cases dd <;> rfl), if_neg (show ¬ ((92 : UInt8) = 63) by decide), if_neg (show ¬ ((92 : UInt8) = 42) by decide), if_neg (show ¬ ((92 : UInt8) = 91) by decide), if_neg (show ¬ ((92 : UInt8) = 123) by decide), if_pos rfl, if_pos rfl]
theorem go_q (dd : Bool) (acc : List GP) (x : UInt8) (r : List UInt8) : PL dd acc (92 :: x :: r) = if x = 0 then .bad (x :: r) else PL dd (addT acc x) r := by
 rw [PL_goR (by cases dd <;> rfl), if_neg (show ¬ ((92 : UInt8) = 63) by decide), if_neg (show ¬ ((92 : UInt8) = 42) by decide), if_neg (show ¬ ((92 : UInt8) = 91) by decide), if_neg (show ¬ ((92 : UInt8) = 123) by decide), if_pos rfl, if_neg (by simp)]
 by_cases hx : x = 0
 ·subst hx; rfl
 ·rw [if_neg hx, if_neg (fun e => hx (by injection e))]
  rfl
theorem go_text {dd : Bool} {acc : List GP} {c : UInt8} {r : List UInt8} (h : stopR dd (c :: r) = false) (h0 : ¬ (c = 0 ∨ c = 93 ∨ c = 125)) (h1 : c ≠ 63) (h2 : c ≠ 42) (h3 : c ≠ 91) (h4 : c ≠ 123) (h5 : c ≠ 92) : PL dd acc (c :: r) = PL dd (addT acc c) r := by
 rw [PL_goR h, if_neg h1, if_neg h2, if_neg h3, if_neg h4, if_neg h5, if_neg h0]
theorem WL_go {ws : List (List GP)} {l : List UInt8} {p : List GP} {c : UInt8} {r : List UInt8} (h : PL true [] l = .ok p (c :: r)) : (c = 125 ∧ WL ws l = .ok (ws ++ [p]) r) ∨ (c ≠ 125 ∧ WL ws l = WL (ws ++ [p]) r) := by
 rw [WL_unf, h]
 dsimp only
 by_cases hc : c = 125
 ·subst hc
  exact .inl ⟨rfl, by rw [if_neg (by decide)]⟩
 ·refine .inr ⟨hc, ?_⟩
  rw [if_pos]
  exact Classical.byContradiction fun h44 => PL_stop h (fun h => h.elim h44 hc)
theorem goS_kind {r : List UInt8} {kd : Int} {q : List UInt8} (h : goS 0 (42 :: r) = .ok kd q) : kd = 3 ∨ kd = 4 := by
 rw [goS_zero] at h
 split at h
 ·split at h
  ·cases h
  ·injection h with h _
   exact .inr h.symm
 ·injection h with h _
  exact .inl h.symm

/-- What set does. -/
def RSetOk : Prop := ∀ (n b : Nat) (T : ByteArray) (k : Nat) (w : World), ReAt w b T k → k < T.size → T.size ≤ 100000 →
 Calls Tryz.prog 165 #[.pointer (some ⟨b, 0, none⟩)] w (RePost b T w (setR (left T (k + 1) T.size)) (PartVal (n + 1) w.heap.size))
/-- What parts does. -/
def RListOk (n : Nat) : Prop := ∀ (b : Nat) (T : ByteArray) (k d : Nat) (w : World), ReAt w b T k → k ≤ T.size → T.size ≤ 100000 → d + (T.size - k) ≤ 1000000 → (left T k T.size).length < n →
 Calls Tryz.prog 111 #[.pointer (some ⟨b, 0, none⟩), .int .i64 d] w (RePost b T w (PL (decide (0 < d)) [] (left T k T.size)) (ListVal n w.heap.size))
theorem RePost.mono {α β : Type} {b : Nat} {T : ByteArray} {w : World} {res : Rd α} {f : α → List UInt8 → Rd β} {val : α → Value → World → Prop} {val2 : β → Value → World → Prop} {E : Ending} {w' : World}
  (h : RePost b T w res val E w') (g : α → β) (hf : ∀ a q, f a q = .ok (g a) q) (hv : ∀ a q v, res = .ok a q → val a v w' → val2 (g a) v w') : RePost b T w (res.bind f) val2 E w' := by
 cases res with
 | bad r => exact h
 | ok a q =>
  show RePost b T w (f a q) val2 E w'
  rw [hf]
  obtain ⟨v, k, h1, h2, h3⟩ := h
  exact ⟨v, k, h1, hv a q v rfl h2, h3⟩
/-- The part that stars make. -/
theorem rstars_part (n b : Nat) (T : ByteArray) (k : Nat) (w : World) (h : ReAt w b T k) (hk : k < T.size) (hc : T[k] = 42) (hs : T.size ≤ 2000000) :
  Calls Tryz.prog 164 #[.pointer (some ⟨b, 0, none⟩)] w (RePost b T w ((goS 0 (left T k T.size)).bind (fun kd q => .ok (if kd = 4 then GP.deep else .star) q)) (PartVal (n + 1) w.heap.size)) := by
 refine (rstars_any b T k w h (by omega) hs).mono ?_
 intro E w' hp
 refine hp.mono (fun kd => if kd = 4 then GP.deep else .star) (fun _ _ => rfl) (fun kd q v hr hv => ?_)
 rw [left_cons hk (Nat.le_refl _) 42 hc] at hr
 rcases goS_kind hr with rfl | rfl
 ·exact ⟨simpleP n 3 ⟨#[]⟩, hv, simple_made n _ _ 3 _ (.inr ⟨.inr (.inl rfl), rfl⟩), rfl⟩
 ·exact ⟨simpleP n 4 ⟨#[]⟩, hv, simple_made n _ _ 4 _ (.inr ⟨.inr (.inr rfl), rfl⟩), rfl⟩
theorem enters_text : ∀ args w, (callFunc 161 args).run Tryz.prog w = .ok (.enter 161 args) w := enters_of Tryz.func161 (by kernel_rfl) rfl
theorem ReAt.peekL {b : Nat} {T : ByteArray} {j : Nat} {W : World} (h : ReAt W b T j) (hj : j < T.size) (hs : T.size ≤ 2000000) {c : UInt8} (hc : T[j] = c) (v : Int) (hv : (c.toNat : Int) = v) :
  Calls Tryz.prog 162 #[.pointer (some ⟨b, 0, none⟩)] W fun e' w' => e' = .returned (.int .i64 v) ∧ ∃ n, w' = W.drewN n := by
 rw [← hv]
 exact h.peek hj hs hc
theorem wrap_byte (c : UInt8) : IntKind.u8.wrap (c.toNat : Int) = (c.toNat : Int) := by
 have h := c.toNat_lt
 unfold IntKind.wrap
 simp [IntKind.bits, IntKind.signed]
 omega

/-- A list under construction. -/
structure RL (n b ob k : Nat) (T : ByteArray) (w W : World) (j : Nat) (a : Option Addr) (cap : Nat) (xs : List (P (n + 1))) : Prop where
 rd : ReAt W b T j
 side : Side b w W
 out : BoxIs W ob #[.slice a xs.length cap] lty
 ls : LsAt (n + 1) (ob + 1) W a cap xs
 len : xs.length ≤ j - k
 txt : ∀ q ∈ xs, txtSz n q ≤ j - k
variable {n b ob k : Nat} {T : ByteArray} {w W W' : World} {j : Nat} {a : Option Addr} {cap : Nat} {xs : List (P (n + 1))}
theorem RL.drew (h : RL n b ob k T w W j a cap xs) (m : Nat) : RL n b ob k T w (W.drewN m) j a cap xs := ⟨h.rd, h.side.drew m, h.out, h.ls.under ⟨rfl, rfl, rfl, Nat.le_refl _, fun _ _ => rfl⟩, h.len, h.txt⟩
theorem RL.call (h : RL n b ob k T w W j a cap xs) (hb : b < ob) (hs : Side b W W') {j' : Nat} (hj : j ≤ j') (hr : ReAt W' b T j') : RL n b ob k T w W' j' a cap xs :=
 ⟨hr, h.side.trans hs, h.out.side hs (by omega), h.ls.side hs (by omega), by have := h.len; omega, fun q hq => by have := h.txt q hq; omega⟩
theorem RL.step (h : RL n b ob k T w W j a cap xs) (hb : b < ob) : RL n b ob k T w (W.setCell ⟨b, 1, none⟩ (.int .i64 ((j : Int) + 1))) (j + 1) a cap xs :=
 h.call hb ((Side.refl b W).set 1 _) (Nat.le_succ _) (h.rd.step (j + 1))
theorem RL.under (h : RL n b ob k T w W j a cap xs) (hB : Below W.heap.size W W') : RL n b ob k T w W' j a cap xs :=
 ⟨BoxIs.under h.rd hB, h.side.trans (Side.of hB), h.out.under hB, h.ls.under hB, h.len, h.txt⟩
/-- The closure has added a byte of text. -/
theorem RL.text (h : RL n b ob k T w W j a cap xs) (hb : b < ob) (hw : w.heap.size ≤ ob) {x : UInt8} {E : Ending} (ht : TextOk n (ob + 1) ob (j - k) x xs W E W') (hkj : k ≤ j) :
  E = .returned (.tuple #[]) ∧ ∃ (a' : Option Addr) (cap' : Nat) (ys : List (P (n + 1))), gpL (n + 1) ys = addT (gpL (n + 1) xs) x ∧ ReAt W' b T j ∧ RL n b ob k T w (W'.setCell ⟨b, 1, none⟩ (.int .i64 ((j : Int) + 1))) (j + 1) a' cap' ys := by
 obtain ⟨rfl, a', cap', ys, h1, h2, h3, h4, h5, h6⟩ := ht
 have hR : ReAt W' b T j := BoxIs.low h.rd h6 hb
 have hs : Side b W' (W'.setCell ⟨b, 1, none⟩ (.int .i64 ((j : Int) + 1))) := (Side.refl b W').set 1 _
 refine ⟨rfl, a', cap', ys, h3, hR, hR.step (j + 1), (h.side.low h6 hw).trans hs, h1.side hs (by omega), h2.side hs (by omega), ?_, fun q hq => ?_⟩
 ·have := h.len; omega
 ·have := h5 q hq; omega
/-- An element more. -/
theorem RL.snoc (h : RL n b ob k T w W j a cap xs) (hb : b < ob) (hw : w.heap.size ≤ ob) {p : P (n + 1)} (hp : MadeP (n + 1) (ob + 1) W p) (hoff : ∀ k, FP (n + 1) p k → (Value.slice a xs.length cap).ownBlock ≠ some k) (hpt : txtSz n p = 0) (hkj : k ≤ j) {j0 : Nat} (hj0 : j0 < j) (hl0 : xs.length ≤ j0 - k) (hk0 : k ≤ j0)
  {g cap' : Nat} (hO : OwnG party 5 (partCells (n + 1)) (ob + 1) W' (some ⟨g, 0, none⟩) cap' (xs ++ [p])) (hg : W.grownBy W' (Value.slice a xs.length cap).ownBlock) (hat : (Value.slice a xs.length cap).ownBlock = some g ∨ g = W.heap.size) :
  BoxIs W' ob #[.slice a xs.length cap] lty ∧ RL n b ob k T w (W'.setCell ⟨ob, 0, none⟩ (.slice (some ⟨g, 0, none⟩) (xs.length + 1) cap')) j (some ⟨g, 0, none⟩) cap' (xs ++ [p]) := by
 have hbase : ∀ q, (Value.slice a xs.length cap).ownBlock = some q → ob + 1 ≤ q := fun q hq => (h.ls.own.base q hq).1
 have hz : ob + 1 ≤ W.heap.size := h.out.lt
 have hbx : BoxIs W' ob #[.slice a xs.length cap] lty := box_grown h.out hg (Nat.lt_succ_self ob) hbase
 have hB : Below (ob + 1) W W' := (Below.refl (ob + 1) W).grown hg hz hbase
 have hs : Side ob W' (W'.setCell ⟨ob, 0, none⟩ (.slice (some ⟨g, 0, none⟩) (xs.length + 1) cap')) := (Side.refl ob W').set 0 _
 refine ⟨hbx, BoxIs.side (BoxIs.low h.rd hB (by omega)) hs (by omega), (h.side.low hB (by omega)).new hs hw, ?_, (h.ls.snoc hp hoff hO hg hat).side hs (by omega), ?_, fun q hq => ?_⟩
 ·have := hbx.put 0 (.slice (some ⟨g, 0, none⟩) (xs.length + 1) cap')
  rw [show (xs ++ [p]).length = xs.length + 1 by simp]
  exact this
 ·rw [List.length_append]
  simp
  omega
 ·rcases List.mem_append.1 hq with hq | hq
  ·exact h.txt q hq
  ·rw [List.mem_singleton.1 hq, hpt]
   exact Nat.zero_le _
end Go.Proofs.YtfenmeacimfiaaaGreatDoor
namespace Go.Proofs.YtfenmeacimfiaaaGreatDoor
open Go.RowKit Wh.G

abbrev tbTy : TypeId := 224
/-- A table of 256 truths. -/
def hasC (f : Nat → Bool) : Array Value := ((List.range 256).map (fun i => Value.bool (f i))).toArray
theorem hasC_get (f : Nat → Bool) {i : Nat} (h : i < 256) : (hasC f)[i]? = some (.bool (f i)) := by
 simp [hasC, h]
theorem hasC_set (f : Nat → Bool) {i : Nat} (h : i < 256) : (hasC f).setIfInBounds i (.bool true) = hasC (fun x => f x || decide (x = i)) := by
 apply Array.ext_getElem?
 intro j
 rw [Array.getElem?_setIfInBounds]
 by_cases hj : j < 256
 ·rw [hasC_get _ hj, hasC_get _ hj]
  by_cases hij : i = j
  ·subst hij
   rw [if_pos rfl, if_pos (by simp [hasC]; exact h)]
   simp
  ·rw [if_neg hij]
   simp [show ¬ j = i from fun e => hij e.symm]
 ·have h1 : ∀ g, (hasC g)[j]? = none := fun g => by simp [hasC]; omega
  rw [h1, h1]
  split
  ·split
   ·omega
   ·rfl
  ·rfl
theorem hasC_zero : hasC (fun _ => false) = Array.replicate 256 (.bool false) := by
 apply Array.ext_getElem?
 intro j
 by_cases hj : j < 256
 ·rw [hasC_get _ hj]
  simp [hj]
 ·simp [hasC, hj]

theorem tab_zero : hasC (hasOf []) = Tryz.zeroCells224 := by
 rw [show hasOf [] = (fun _ => false) from rfl, hasC_zero]
 kernel_rfl
theorem bnd_ne0 {l q : List UInt8} {c : UInt8} (h : Wh.G.bnd l = .ok c q) : 1 ≤ c.toNat := by
 have key : c ≠ 0 := by
  cases l with
  | nil => cases h
  | cons x r =>
   simp only [Wh.G.bnd] at h
   split at h
   ·split at h
    ·cases h
    ·split at h
     ·cases h
     ·rename_i hx
      injection h with h _
      subst h
      exact fun e => hx (.inl e)
   ·split at h
    ·cases h
    ·rename_i hx
     injection h with h _
     subst h
     exact fun e => hx (.inl e)
 have : c.toNat ≠ 0 := fun e => key (UInt8.toNat_inj.1 e)
 omega
/-- A set under construction. -/
structure RS (b rb pb hb : Nat) (T : ByteArray) (w W : World) (j : Nat) (neg : Bool) (f : Nat → Bool) (a : Option Addr) (N cap : Nat) (acc : List (Int × Int)) : Prop where
 rd : ReAt W b T j
 side : Side b w W
 res : BoxIs W rb pZero party
 part : BoxIs W pb (pSet neg a N cap) party
 has : BoxIs W hb (hasC f) tbTy
 own : OwnG rgty 2 rgCells (hb + 1) W a cap acc
 len : acc.length = N
 ok : ∀ r ∈ acc, okB r
variable {b rb pb hb : Nat} {T : ByteArray} {w W W' : World} {j : Nat} {neg : Bool} {f : Nat → Bool} {a : Option Addr} {N cap : Nat} {acc : List (Int × Int)}
theorem RS.drew (h : RS b rb pb hb T w W j neg f a N cap acc) (n : Nat) : RS b rb pb hb T w (W.drewN n) j neg f a N cap acc := ⟨h.rd, h.side.drew n, h.res, h.part, h.has, h.own, h.len, h.ok⟩
theorem RS.call (h : RS b rb pb hb T w W j neg f a N cap acc) (h1 : b < rb) (h2 : rb < pb) (h3 : pb < hb) (hs : Side b W W') {j' : Nat} (hr : ReAt W' b T j') : RS b rb pb hb T w W' j' neg f a N cap acc :=
 ⟨hr, h.side.trans hs, h.res.side hs (by omega), h.part.side hs (by omega), h.has.side hs (by omega), h.own.side hs (by omega), h.len, h.ok⟩
theorem RS.step (h : RS b rb pb hb T w W j neg f a N cap acc) (h1 : b < rb) (h2 : rb < pb) (h3 : pb < hb) : RS b rb pb hb T w (W.setCell ⟨b, 1, none⟩ (.int .i64 ((j : Int) + 1))) (j + 1) neg f a N cap acc :=
 h.call h1 h2 h3 ((Side.refl b W).set 1 _) (h.rd.step (j + 1))
theorem RS.mark (h : RS b rb pb hb T w W j neg f a N cap acc) (h1 : b < rb) (h2 : rb < pb) (h3 : pb < hb) (hw : w.heap.size ≤ rb) {i : Nat} (hi : i < 256) : RS b rb pb hb T w (W.setCell ⟨hb, i, none⟩ (.bool true)) j neg (fun x => f x || decide (x = i)) a N cap acc := by
 have hs := (Side.refl hb W).set i (.bool true)
 exact ⟨BoxIs.side h.rd hs (by omega), h.side.new hs (by omega), h.res.side hs (by omega), h.part.side hs (by omega), by rw [← hasC_set f hi]; exact h.has.put i _, h.own.side hs (by omega), h.len, h.ok⟩
theorem RS.put {a' : Option Addr} {N' cap' : Nat} {acc' : List (Int × Int)} (h : RS b rb pb hb T w W j neg f a N cap acc) (h1 : b < rb) (h2 : rb < pb) (h3 : pb < hb) (hw : w.heap.size ≤ rb) (hB : Below (hb + 1) W W') (hO : OwnG rgty 2 rgCells (hb + 1) W' a' cap' acc') (hN : acc'.length = N') (hok : ∀ r ∈ acc', okB r) :
  RS b rb pb hb T w (W'.setCell ⟨pb, 3, none⟩ (.slice a' N' cap')) j neg f a' N' cap' acc' := by
 have hs := (Side.refl pb W').set 3 (.slice a' N' cap')
 exact ⟨BoxIs.side (BoxIs.low h.rd hB (by omega)) hs (by omega), (h.side.low hB (by omega)).new hs (by omega), BoxIs.side (BoxIs.low h.res hB (by omega)) hs (by omega), (BoxIs.low h.part hB (by omega)).put 3 _, BoxIs.side (BoxIs.low h.has hB (by omega)) hs (by omega), hO.side hs (by omega), hN, hok⟩
theorem RS.fn {f' : Nat → Bool} (h : RS b rb pb hb T w W j neg f a N cap acc) (e : f = f') : RS b rb pb hb T w W j neg f' a N cap acc := by rw [← e]; exact h
theorem rset_made (n : Nat) (h : RS b rb pb hb T w W j neg f a N cap acc) : MadeP (n + 1) (hb + 1) W (setP n neg a cap acc) := by
 refine ⟨⟨⟨by show (0 : Nat) ≤ maxLen; exact Nat.zero_le _, by show (-9223372036854775808 : Int) ≤ 5; decide, by show (5 : Int) ≤ 9223372036854775807; decide⟩, ⟨h.own.holds (fun _ => rfl), h.own.cap⟩, fun r hr => ?_, ⟨.inl rfl, Nat.le_refl _, Nat.zero_le _⟩, fun s hs => (by cases hs)⟩, .inr (.inr (.inl ⟨rfl, rfl, rfl⟩)), ?_⟩
 ·have := h.ok r hr
  unfold okB at this
  omega
 ·rintro k (⟨o, t, ha⟩ | ⟨o, t, ha⟩ | ⟨q, hq, _⟩)
  ·have ha : a = some ⟨k, o, t⟩ := ha
   have := h.own.base k (by rw [ha]; rfl)
   exact ⟨this.1, this.2.1⟩
  ·cases ha
  ·cases hq
/-- A reader's peek, by what is left. -/
theorem ReAt.peekH (h : ReAt W b T j) (hj : j ≤ T.size) (hs : T.size ≤ 2000000) (m : UInt8) : ∃ v : Int, (v == (m.toNat : Int)) = decide ((left T j T.size).head? = some m) ∧
  Calls Tryz.prog 162 #[.pointer (some ⟨b, 0, none⟩)] W fun e' w' => e' = .returned (.int .i64 v) ∧ ∃ n, w' = W.drewN n := by
 refine ⟨_, ?_, rpeek_any b T j W h hj hs⟩
 cases left T j T.size with
 | nil => simp [pk]
 | cons c r =>
  rw [pk_byte, u8_eq]
  rw [Bool.eq_iff_iff]
  simp
theorem posF_cons {T : ByteArray} {k : Nat} (hk : k ≤ T.size) (h1 : 1 ≤ k) (x : UInt8) : posF T (x :: left T k T.size) = (k : Int) - 1 := by
 unfold posF
 rw [List.length_cons, left_len (Nat.le_refl _)]
 omega

set_option maxHeartbeats 8000000 in
set_option maxRecDepth 100000 in
theorem rset_any : RSetOk := by
 intro n b T k w h hk hs
 have H := Lib.hid h
 have hbl := h.lt
 obtain ⟨Res, hRes⟩ : ∃ Res, setR (left T (k + 1) T.size) = Res := ⟨_, rfl⟩
 rw [hRes]
 have HRes := Lib.hid hRes
 clear hRes
 have HF := Lib.hid (fun n W => rfail_any b n W)
 have HB0 := Lib.hid (bAlloc (Below.refl w.heap.size w) (.cells pZero party))
 have HZ := Lib.hid (BoxIs.new w pZero party)
 clear h
 go_enter Tryz.func165, Tryz.ntmps165
 go_upto_region 1 with fail
 obtain ⟨rb, hrb0⟩ : ∃ rb, rb = w.heap.size := ⟨_, rfl⟩
 rw [← hrb0]
 rw [← hrb0] at HZ
 have hrb : b < rb := by omega
 have hrz : w.heap.size ≤ rb := by omega
 clear hrb0
 generalize w.alloc _ = w1 at *
 have HR1 : Hid (ReAt w1 b T k) := Lib.hid (BoxIs.under H.out HB0.out)
 have HS1 : Hid (Side b w w1) := Lib.hid (Side.of HB0.out)
 have x1 := HR1.out.cell (j := 1) rfl
 have f1 := Lib.frozen_of_heap HR1.out 1
 have HR2 := Lib.hid (HR1.out.step (k + 1))
 have HSs := Lib.hid ((Side.refl b w1).set 1 (.int .i64 ((k + 1 : Nat) : Int)))
 go_upto_region 2 with fail
 have HS2 := Lib.hid (HS1.out.trans HSs.out)
 have HZ2 := Lib.hid (BoxIs.side HZ.out HSs.out (by omega))
 clear x1 f1 HR1 HS1 HZ HB0 H HSs
 have e1 : (((k + 1 : Nat) : Int)) = (k : Int) + 1 := rfl
 rw [e1] at HR2 HS2 HZ2
 clear e1
 generalize w1.setCell _ _ = w2 at *
 obtain ⟨pb, hpb0⟩ : ∃ pb, pb = w2.heap.size := ⟨_, rfl⟩
 have hrp : rb < pb := by rw [hpb0]; exact HZ2.out.lt
 have HB3 := Lib.hid (bAlloc (Below.refl w2.heap.size w2) (.cells (pSet false none 0 0) party))
 have HP3 := Lib.hid (BoxIs.new w2 (pSet false none 0 0) party)
 go_upto_region 3 with fail
 rw [← hpb0]
 rw [← hpb0] at HP3
 clear hpb0
 have HR3 : Hid (ReAt (w2.alloc (.cells (pSet false none 0 0) party)) b T (k + 1)) := Lib.hid (BoxIs.under HR2.out HB3.out)
 have HS3 := Lib.hid (HS2.out.trans (Side.of HB3.out))
 have HZ3 := Lib.hid (BoxIs.under HZ2.out HB3.out)
 clear HB3 HR2 HS2 HZ2
 generalize w2.alloc _ = w3 at *
 obtain ⟨neg, hneg⟩ : ∃ neg, neg = decide ((left T (k + 1) T.size).head? = some 94) := ⟨_, rfl⟩
 obtain ⟨v94, e94, hM⟩ := HR3.out.peekH (by omega) (by omega) 94
 change (v94 == 94) = _ at e94
 rw [← hneg] at e94
 have HM := Lib.hid hM
 have HNg := Lib.hid hneg
 clear hM hneg
 go_upto_if 21 with (go_at_call 162; refine HM.out.mono ?_; rintro E w4 ⟨rfl, n4, rfl⟩)
 have HR4 := Lib.hid (HR3.out.drew n4)
 have HS4 := Lib.hid (HS3.out.drew n4)
 have HZ4 : Hid (BoxIs (w3.drewN n4) rb pZero party) := Lib.hid HZ3.out
 have HP4 : Hid (BoxIs (w3.drewN n4) pb (pSet false none 0 0) party) := Lib.hid HP3.out
 clear HR3 HS3 HZ3 HP3 HM
 generalize w3.drewN n4 = w4 at *
 go_cut [] (fun wx => ∃ k1, k1 ≤ T.size ∧ k < k1 ∧ Hid (ReAt wx b T k1) ∧ Hid (Side b w wx) ∧ Hid (BoxIs wx rb pZero party) ∧ Hid (BoxIs wx pb (pSet neg none 0 0) party) ∧ Hid ((SG [] (left T k1 T.size)).bind (fun x q => Rd.ok (.set neg (canonOf x)) q) = Res))
 case first =>
  cases neg
  ·have hh : ¬ (left T (k + 1) T.size).head? = some 94 := of_decide_eq_false HNg.out.symm
   have HRes2 := Lib.hid ((setR_neg hh).symm.trans HRes.out)
   clear hh
   go_wp2_with fail
   go_meet
   exact ⟨k + 1, hk, Nat.lt_succ_self _, HR4, HS4, HZ4, HP4, HRes2⟩
  ·have hh : (left T (k + 1) T.size).head? = some 94 := of_decide_eq_true HNg.out.symm
   have hlt : k + 1 < T.size := by
    refine Nat.lt_of_not_le fun h => ?_
    rw [left_nil h] at hh
    cases hh
   have HRes2 := Lib.hid ((setR_pos hh).symm.trans HRes.out)
   rw [left_tail hlt (Nat.le_refl _)] at HRes2
   have q2 := HP4.out.cell (j := 2) rfl
   have q2f := Lib.frozen_of_heap HP4.out 2
   have hsd := (Side.refl pb w4).set 2 (.bool true)
   have HR5 : Hid (ReAt (w4.setCell ⟨pb, 2, none⟩ (.bool true)) b T (k + 1)) := Lib.hid (BoxIs.side HR4.out hsd (by omega))
   have HS5 := Lib.hid (HS4.out.new hsd (by omega))
   have HZ5 := Lib.hid (BoxIs.side HZ4.out hsd (by omega))
   have HP5 : Hid (BoxIs (w4.setCell ⟨pb, 2, none⟩ (.bool true)) pb (pSet true none 0 0) party) := Lib.hid (HP4.out.put 2 _)
   clear hsd
   go_upto_region 5 with fail
   clear q2 q2f hh HR4 HS4 HZ4 HP4 HRes
   generalize w4.setCell _ _ = w5 at *
   have x1 := HR5.out.cell (j := 1) rfl
   have f1 := Lib.frozen_of_heap HR5.out 1
   have hsd := (Side.refl b w5).set 1 (.int .i64 ((k : Int) + 1 + 1))
   have HR6 : Hid (ReAt (w5.setCell ⟨b, 1, none⟩ (.int .i64 ((k : Int) + 1 + 1))) b T (k + 1 + 1)) := Lib.hid (HR5.out.step (k + 1 + 1))
   have HS6 := Lib.hid (HS5.out.trans hsd)
   have HZ6 := Lib.hid (BoxIs.side HZ5.out hsd (by omega))
   have HP6 := Lib.hid (BoxIs.side HP5.out hsd (by omega))
   clear hsd HR5 HS5 HZ5 HP5
   go_wp2_with fail
   go_meet
   exact ⟨k + 1 + 1, hlt, by omega, HR6, HS6, HZ6, HP6, HRes2⟩
 case rest =>
  obtain ⟨k1, hk1, hk1k, HR5, HS5, HZ5, HP5, HRs⟩ := hcut
  clear HRes HR4 HS4 HZ4 HP4 HNg e94
  have HB6 := Lib.hid (bAlloc (Below.refl wc.heap.size wc) (.cells Tryz.zeroCells224 tbTy))
  have HX6 := Lib.hid (BoxIs.new wc Tryz.zeroCells224 tbTy)
  obtain ⟨hb, hhb⟩ : ∃ hb, hb = wc.heap.size := ⟨_, rfl⟩
  have hph : pb < hb := by rw [hhb]; exact HP5.out.lt
  go_upto_region 7 with fail
  rw [← hhb]
  rw [← hhb] at HX6
  clear hhb
  have HA6 : Hid (RS b rb pb hb T w (wc.alloc (.cells Tryz.zeroCells224 tbTy)) k1 neg (hasOf []) none 0 0 []) := Lib.hid ⟨BoxIs.under HR5.out HB6.out, HS5.out.trans (Side.of HB6.out), BoxIs.under HZ5.out HB6.out, BoxIs.under HP5.out HB6.out, by rw [show hasC (hasOf []) = Tryz.zeroCells224 from tab_zero]; exact HX6.out, OwnG.nil _ _ _ _ _, rfl, fun r hr => by cases hr⟩
  clear HB6 HX6 HR5 HS5 HZ5 HP5
  generalize wc.alloc _ = w6 at *
  go_wp2_with fail
  go_loopg [5] (T.size - k1) (fun g s5 wx => ∃ (j : Nat) (acc : List (Int × Int)) (fst : Bool), j + g = T.size ∧ k < j ∧ j ≤ T.size ∧ s5 = .bool fst ∧ Hid (fst = acc.isEmpty) ∧ Hid (∀ r ∈ acc, 1 ≤ r.1 ∧ r.2 ≤ 255) ∧ Hid (RS b rb pb hb T w wx j neg (hasOf acc) none 0 0 []) ∧ Hid ((SG acc (left T j T.size)).bind (fun x q => Rd.ok (.set neg (canonOf x)) q) = Res))
  case atStart => exact ⟨k1, [], true, by omega, hk1k, hk1, rfl, Lib.hid rfl, Lib.hid (fun r hr => by cases hr), HA6, HRs⟩
  case round =>
   clear HA6 HRs
   obtain ⟨j, acc, fst, hg, hkj, hje, rfl, HFst, HBd, HA, HRs⟩ := hrel
   obtain ⟨cnd, hcnd⟩ : ∃ c : Bool, c = decide (acc ≠ [] ∧ (left T j T.size).head? = some 93) := ⟨_, rfl⟩
   have HCn := Lib.hid hcnd
   clear hcnd
   go_upto_region 8 with fail
   go_cut [35] (fun s35 wx => s35 = .bool (!cnd) ∧ Hid (RS b rb pb hb T w wx j neg (hasOf acc) none 0 0 []))
   case first =>
    cases fst
    ·have hae := HFst.out.symm
     obtain ⟨v, hv, hM⟩ := HA.out.rd.peekH hje (by omega) 93
     change (v == 93) = _ at hv
     have hne : acc ≠ [] := fun e => by rw [e] at hae; cases hae
     have hcv : cnd = (v == 93) := by
      rw [HCn.out, hv]
      exact decide_eq_decide.2 ⟨fun h => h.2, fun h => ⟨hne, h⟩⟩
     have HM := Lib.hid hM
     have HCv := Lib.hid hcv
     clear hM hcv hv hae hne
     go_wp2_with (go_at_call 162; refine HM.out.mono ?_; rintro E w7 ⟨rfl, n7, rfl⟩)
     go_meet
     exact ⟨by rw [HCv.out]; rfl, Lib.hid (HA.out.drew n7)⟩
    ·have hn : cnd = false := by
      rw [HCn.out]
      exact decide_eq_false (fun h => h.1 (List.isEmpty_iff.1 HFst.out.symm))
     have HN := Lib.hid hn
     clear hn
     go_wp2_with fail
     go_meet
     exact ⟨by rw [HN.out]; rfl, HA⟩
   case rest =>
    obtain ⟨rfl, HA2⟩ := hcut
    clear HA
    cases cnd
    ·-- one range more
     have hcn : ¬ (acc ≠ [] ∧ (left T j T.size).head? = some 93) := of_decide_eq_false HCn.out.symm
     have HRs2 : Hid (((rng (left T j T.size)).bind (fun x q => SG (acc ++ [x]) q)).bind (fun x q => Rd.ok (.set neg (canonOf x)) q) = Res) := Lib.hid (by
      have h1 := HRs.out
      rw [SG_unf, if_neg hcn] at h1
      exact h1)
     clear hcn HCn HRs
     have HBy := Lib.hid (rsetByte_any b T j wc HA2.out.rd hje (by omega))
     cases hG : Wh.G.bnd (left T j T.size) with
     | bad r =>
      rw [hG] at HBy
      have HRs3 : Hid (Rd.bad r = Res) := Lib.hid (by
       have h1 := HRs2.out
       rw [rng_bind, hG] at h1
       exact h1)
      clear hG HRs2
      go_wp2_with (go_at_call 201; refine HBy.out.mono ?_; rintro E w3 ⟨rfl, hS3⟩)
      refine ⟨rfl, ?_⟩
      rw [← HRs3.out]
      exact ⟨rfl, HA2.out.side.trans hS3⟩
     | ok c1 q =>
      rw [hG] at HBy
      have HRs3 : Hid (((rng2 c1 q).bind (fun x q => SG (acc ++ [x]) q)).bind (fun x q => Rd.ok (.set neg (canonOf x)) q) = Res) := Lib.hid (by
       have h1 := HRs2.out
       rw [rng_bind, hG] at h1
       exact h1)
      have HQl := Lib.hid (Wh.G.bnd_len hG)
      have HC1 := Lib.hid (bnd_ne0 hG)
      clear hG HRs2
      go_upto_region 12 with (go_at_call 201; refine HBy.out.mono ?_; rintro E w3 ⟨v3, j3, rfl, rfl, hR3, hj3, hl3, hS3⟩; have HL3 := Lib.hid hl3; have HA3 := Lib.hid (HA2.out.call hrb hrp hph hS3 hR3); clear hR3 hl3 hS3; obtain ⟨m1, hm1⟩ : ∃ m : Nat, c1.toNat = m := ⟨_, rfl⟩; have hm10 : 1 ≤ m1 ∧ m1 ≤ 255 := (by (have := c1.toNat_lt; have := HC1.out; omega)); have HM1 := Lib.hid hm1; rw [hm1]; clear hm1)
      have hj3j : j < j3 := by
       have h1 := left_len (k := j) (Nat.le_refl T.size)
       have h2 := left_len (k := j3) (Nat.le_refl T.size)
       have h3 := HQl.out
       rw [← HL3.out] at h3
       omega
      obtain ⟨hy, hhy⟩ : ∃ c : Bool, c = decide ((left T j3 T.size).head? = some 45) := ⟨_, rfl⟩
      obtain ⟨v, hv, hM⟩ := HA3.out.rd.peekH hj3 (by omega) 45
      change (v == 45) = _ at hv
      rw [← hhy] at hv
      have HM := Lib.hid hM
      have HHy := Lib.hid hhy
      clear hhy hM HA2 HBy
      go_upto_if 41 with (go_at_call 162; refine HM.out.mono ?_; rintro E w4 ⟨rfl, n4, rfl⟩)
      have HA4 := Lib.hid (HA3.out.drew n4)
      clear HA3 HM hv
      generalize w3.drewN n4 = w4 at *
      go_cut [7] (fun s7 wx => ∃ (m2 : Nat) (j5 : Nat), s7 = .int .i64 m2 ∧ j3 ≤ j5 ∧ j5 ≤ T.size ∧ m1 ≤ m2 ∧ m2 ≤ 255 ∧ Hid (RS b rb pb hb T w wx j5 neg (hasOf acc) none 0 0 []) ∧ Hid (rng2 c1 q = .ok ((m1 : Int), (m2 : Int)) (left T j5 T.size)))
      case first =>
       cases hy
       ·have hh : ¬ (left T j3 T.size).head? = some 45 := of_decide_eq_false HHy.out.symm
        have HRg : Hid (rng2 c1 q = .ok ((m1 : Int), (m1 : Int)) (left T j3 T.size)) := Lib.hid (by
         rw [← HL3.out, rng2_other _ hh, HM1.out])
        clear hh
        go_wp2_with fail
        go_meet
        exact ⟨m1, j3, rfl, Nat.le_refl _, hj3, Nat.le_refl _, hm10.2, HA4, HRg⟩
       ·have hh : (left T j3 T.size).head? = some 45 := of_decide_eq_true HHy.out.symm
        have hlt : j3 < T.size := by
         refine Nat.lt_of_not_le fun h => ?_
         rw [left_nil h] at hh
         cases hh
        have HRg : Hid (rng2 c1 q = rng3 c1 (left T (j3 + 1) T.size)) := Lib.hid (by
         obtain ⟨c, hc⟩ : ∃ c : UInt8, T[j3]'(by omega) = c := ⟨_, rfl⟩
         rw [left_head hlt (Nat.le_refl _) hc] at hh
         injection hh with hh
         rw [← HL3.out, left_cons hlt (Nat.le_refl _) c hc, hh, rng2_hyphen])
        clear hh
        have x1 := HA4.out.rd.cell (j := 1) rfl
        have f1 := Lib.frozen_of_heap HA4.out.rd 1
        have HA5 := Lib.hid (HA4.out.step hrb hrp hph)
        go_upto_region 14 with fail
        clear x1 f1 HA4
        generalize w4.setCell _ _ = w5 at *
        have HBd5 := Lib.hid (rsetByte_any b T (j3 + 1) w5 HA5.out.rd hlt (by omega))
        cases hG : Wh.G.bnd (left T (j3 + 1) T.size) with
        | bad r =>
         rw [hG] at HBd5
         have HRs4 : Hid (Rd.bad r = Res) := Lib.hid (by
          have h1 := HRs3.out
          rw [HRg.out] at h1
          unfold rng3 at h1
          rw [hG] at h1
          exact h1)
         clear hG HRs3
         go_wp2_with (go_at_call 201; refine HBd5.out.mono ?_; rintro E w6 ⟨rfl, hS6⟩)
         refine ⟨rfl, ?_⟩
         rw [← HRs4.out]
         exact ⟨rfl, HA5.out.side.trans hS6⟩
        | ok c2 q2 =>
         rw [hG] at HBd5
         have HQ2 : Hid (rng3 c1 (left T (j3 + 1) T.size) = if c2.toNat < c1.toNat then .bad (c2 :: q2) else .ok (c1.toNat, c2.toNat) q2) := Lib.hid (by
          unfold rng3
          rw [hG]
          rfl)
         have HQ3 := Lib.hid (Wh.G.bnd_len hG)
         clear hG
         go_upto_region 15 with (go_at_call 201; refine HBd5.out.mono ?_; rintro E w6 ⟨v6, j6, rfl, rfl, hR6, hj6, hl6, hS6⟩; have HL6 := Lib.hid hl6; have HA6 := Lib.hid (HA5.out.call hrb hrp hph hS6 hR6); clear hR6 hl6 hS6; obtain ⟨m2, hm2⟩ : ∃ m : Nat, c2.toNat = m := ⟨_, rfl⟩; have hm20 : m2 ≤ 255 := (by (have := c2.toNat_lt; omega)); have HM2 := Lib.hid hm2; rw [hm2]; clear hm2)
         have hj6j : j3 < j6 := by
          have h1 := left_len (k := j3 + 1) (Nat.le_refl T.size)
          have h2 := left_len (k := j6) (Nat.le_refl T.size)
          have h3 := HQ3.out
          rw [← HL6.out] at h3
          omega
         by_cases hlm : m2 < m1
         ·have HRs4 : Hid (Rd.bad (c2 :: q2) = Res) := Lib.hid (by
           have h1 := HRs3.out
           rw [HRg.out, HQ2.out, if_pos (by have := HM1.out; have := HM2.out; omega)] at h1
           exact h1)
          have HPo := Lib.hid (posF_cons hj6 (by omega) c2)
          rw [HL6.out] at HPo
          have hlmI : (m2 : Int) < (m1 : Int) := by omega
          have x1 := HA6.out.rd.cell (j := 1) rfl
          go_wp2_with (go_at_call 163; refine (HF.out _ _).mono ?_; rintro E wz ⟨rfl, hwz⟩; subst wz)
          refine ⟨rfl, ?_⟩
          rw [← HRs4.out]
          exact ⟨by rw [HPo.out], HA6.out.side⟩
         ·have HRg2 : Hid (rng2 c1 q = .ok ((m1 : Int), (m2 : Int)) (left T j6 T.size)) := Lib.hid (by
           rw [HRg.out, HQ2.out, if_neg (by have := HM1.out; have := HM2.out; omega), HM1.out, HM2.out, HL6.out])
          have hlmI : ¬ (m2 : Int) < (m1 : Int) := by omega
          go_wp2_with fail
          go_meet
          exact ⟨m2, j6, rfl, by omega, hj6, by omega, hm20, HA6, HRg2⟩
      case rest =>
       obtain ⟨m2, j5, rfl, hj35, hj5e, hm12, hm2, HA5, HRg⟩ := hcut
       clear HA4 HHy
       have HRs5 : Hid ((SG (acc ++ [((m1 : Int), (m2 : Int))]) (left T j5 T.size)).bind (fun x q => Rd.ok (.set neg (canonOf x)) q) = Res) := Lib.hid (by
        have h1 := HRs3.out
        rw [HRg.out] at h1
        exact h1)
       go_wp2_with fail
       go_loopg [8] (m2 + 1 - m1) (fun g s8 wx => ∃ i : Nat, i + g = m2 + 1 ∧ m1 ≤ i ∧ s8 = .int .i64 i ∧ Hid (RS b rb pb hb T w wx j5 neg (fun x => hasOf acc x || (decide (m1 ≤ x) && decide (x < i))) none 0 0 []))
       case atStart => exact ⟨m1, by omega, Nat.le_refl _, rfl, Lib.hid (HA5.out.fn (by
        funext x
        rw [show (decide (m1 ≤ x) && decide (x < m1)) = false by rw [Bool.and_eq_false_iff]; simp; omega, Bool.or_false]))⟩
       case round =>
        clear HA5
        obtain ⟨i, hgi, hmi, rfl, HAi⟩ := hrel
        by_cases hlt : i ≤ m2
        ·obtain ⟨g2, rfl⟩ : ∃ g2, gk = g2 + 1 := ⟨gk - 1, by omega⟩
         have hI : (i : Int) ≤ (m2 : Int) := by omega
         have hi0 : (0 : Int) ≤ (i : Int) := by omega
         have hi1 : (i : Int) < 256 := by omega
         have ci := HAi.out.has.cell (hasC_get _ (show i < 256 by omega))
         have fi := Lib.frozen_of_heap HAi.out.has i
         have HAn := Lib.hid (HAi.out.mark hrb hrp hph hrz (show i < 256 by omega))
         go_wp2_with fail
         go_roundg g2
         case measure => omega
         case rel => exact ⟨i + 1, by omega, by omega, by go_num, Lib.hid (HAn.out.fn (by
          funext x
          rw [Bool.or_assoc]
          congr 1
          rw [Bool.eq_iff_iff]
          simp
          omega))⟩
        ·have hI : ¬ (i : Int) ≤ (m2 : Int) := by omega
         have hie : i = m2 + 1 := by omega
         have HAe : Hid (RS b rb pb hb T w wr j5 neg (hasOf (acc ++ [((m1 : Int), (m2 : Int))])) none 0 0 []) := Lib.hid (HAi.out.fn (by rw [hasOf_snoc, hie]))
         clear hie HAi
         go_wp2_with fail
         go_roundg (T.size - j5)
         case measure => omega
         case rel => exact ⟨j5, acc ++ [((m1 : Int), (m2 : Int))], false, by omega, by omega, hj5e, rfl, Lib.hid (by cases acc <;> rfl), Lib.hid (fun r hr => by
          rcases List.mem_append.1 hr with hr | hr
          ·exact HBd.out r hr
          ·rw [List.mem_singleton.1 hr]
           exact ⟨by show (1 : Int) ≤ (m1 : Int); omega, by show (m2 : Int) ≤ 255; omega⟩), HAe, HRs5⟩
    ·-- the end
     have hcn : acc ≠ [] ∧ (left T j T.size).head? = some 93 := of_decide_eq_true HCn.out.symm
     have hlt : j < T.size := by
      refine Nat.lt_of_not_le fun h => ?_
      rw [left_nil h] at hcn
      cases hcn.2
     have HRs2 : Hid (Rd.ok (.set neg (canonOf acc)) (left T (j + 1) T.size) = Res) := Lib.hid (by
      have h1 := HRs.out
      rw [SG_unf, if_pos hcn, left_tail hlt (Nat.le_refl _)] at h1
      exact h1)
     clear hcn HCn HRs
     have HIb := Lib.hid (in_bounds HBd.out)
     have x1 := HA2.out.rd.cell (j := 1) rfl
     have f1 := Lib.frozen_of_heap HA2.out.rd 1
     have HA3 := Lib.hid (HA2.out.step hrb hrp hph)
     go_upto_region 22 with fail
     clear x1 f1 HA2
     generalize wc.setCell _ _ = w7 at *
     go_wp2_with fail
     go_loopg [9] 255 (fun g s9 wx => ∃ (i : Nat) (a : Option Addr) (N cap : Nat) (out : List (Int × Int)), i + g = 256 ∧ 1 ≤ i ∧ s9 = .int .i64 i ∧ N ≤ i ∧ Hid (CInv acc out i) ∧ Hid (RS b rb pb hb T w wx (j + 1) neg (hasOf acc) a N cap out))
     case atStart => exact ⟨1, none, 0, 0, [], by omega, Nat.le_refl _, rfl, by omega, Lib.hid (CInv.start (fun n h => (HIb.out n h).1)), HA3⟩
     case round =>
      clear HA3
      obtain ⟨i, a, N, cap, out, hgi, hi1, rfl, hNi, HCi, HAi⟩ := hrel
      have HLe := Lib.hid HAi.out.len
      by_cases hlt2 : i < 256
      ·have hI : (i : Int) < 256 := by omega
       have hi0 : (0 : Int) ≤ (i : Int) := by omega
       have ci := HAi.out.has.cell (hasC_get _ hlt2)
       cases hhas : hasOf acc i
       ·rw [hhas] at ci
        have HCn := Lib.hid (HCi.out.skip (fun h => by rw [(hasOf_in acc i).2 h] at hhas; cases hhas))
        clear hhas
        obtain ⟨g2, rfl⟩ : ∃ g2, gk = g2 + 1 := ⟨gk - 1, by omega⟩
        go_wp2_with fail
        go_roundg g2
        case measure => omega
        case rel => exact ⟨i + 1, a, N, cap, out, by omega, by omega, by go_num, by omega, HCn, HAi⟩
       ·have HIn := Lib.hid ((hasOf_in acc i).1 hhas)
        rw [hhas] at ci
        clear hhas
        go_wp2_with fail
        go_loopg [10] (255 - i) (fun g s10 wx => ∃ kk : Nat, kk + g = 255 ∧ i ≤ kk ∧ s10 = .int .i64 kk ∧ Hid (∀ n : Int, i ≤ n → n ≤ kk → In n acc) ∧ Hid (RS b rb pb hb T w wx (j + 1) neg (hasOf acc) a N cap out))
        case atStart => exact ⟨i, by omega, Nat.le_refl _, rfl, Lib.hid (fun n h1 h2 => by rw [show n = (i : Int) by omega]; exact HIn.out), HAi⟩
        case round =>
         clear HAi ci
         obtain ⟨kk, hgk, hik, rfl, HAll, HAk⟩ := hrel
         by_cases hmore : kk < 255 ∧ hasOf acc (kk + 1) = true
         ·obtain ⟨hk255, hhas⟩ := hmore
          obtain ⟨g2, rfl⟩ : ∃ g2, gk = g2 + 1 := ⟨gk - 1, by omega⟩
          have hI2 : (kk : Int) < 255 := by omega
          have hk0 : (0 : Int) ≤ (kk : Int) + 1 := by omega
          have hk1 : (kk : Int) + 1 < 256 := by omega
          have ck := HAk.out.has.cell (hasC_get _ (show kk + 1 < 256 by omega))
          rw [hhas] at ck
          have HIn2 := Lib.hid ((hasOf_in acc (kk + 1)).1 hhas)
          clear hhas
          go_wp2_with fail
          go_roundg g2
          case measure => omega
          case rel => exact ⟨kk + 1, by omega, by omega, by go_num, Lib.hid (fun n h1 h2 => by
           rcases Int.lt_or_eq_of_le h2 with h3 | h3
           ·exact HAll.out n h1 (by omega)
           ·rw [h3]; exact HIn2.out), HAk⟩
         ·by_cases hk255 : kk < 255
          ·have hhas : hasOf acc (kk + 1) = false := by
            cases hh : hasOf acc (kk + 1)
            ·rfl
            ·exact absurd ⟨hk255, hh⟩ hmore
           have HNo : Hid (¬ In ((kk + 1 : Nat) : Int) acc) := Lib.hid (fun h => by rw [(hasOf_in acc (kk + 1)).2 h] at hhas; cases hhas)
           have hI2 : (kk : Int) < 255 := by omega
           have hk0 : (0 : Int) ≤ (kk : Int) + 1 := by omega
           have hk1 : (kk : Int) + 1 < 256 := by omega
           have ck := HAk.out.has.cell (hasC_get _ (show kk + 1 < 256 by omega))
           rw [hhas] at ck
           clear hhas hmore
           have HCn : Hid (CInv acc (out ++ [((i : Int), (kk : Int))]) (kk + 1)) := Lib.hid (HCi.out.add hik HAll.out HNo.out)
           clear HNo
           have q3 := HAk.out.part.cell (j := 3) rfl
           have HB6 := Lib.hid (bAlloc (Below.refl wr.heap.size wr) (.cells #[.int .i64 (i : Int), .int .i64 (kk : Int)] rgty))
           have HX6 := Lib.hid (BoxIs.new wr #[.int .i64 (i : Int), .int .i64 (kk : Int)] rgty)
           have HO6 := Lib.hid (HAk.out.own.under HB6.out)
           have hbz : hb + 1 ≤ wr.heap.size := HAk.out.has.lt
           have hz6 : hb + 1 ≤ (wr.alloc (.cells #[.int .i64 (i : Int), .int .i64 (kk : Int)] rgty)).heap.size := Nat.le_trans hbz HB6.out.size
           go_wp2_with (at_builtin; refine wpl_app elemRg (by decide) rfl (fun _ => rfl) rgOne (by decide) hz6 HO6.out (by rw [HLe.out]; omega) ((i : Int), (kk : Int)) HX6.out rfl (.tmp 96) (.tmp 100) rfl (by rw [HLe.out]; rfl) rfl ?_)
           intro g cap' w' hown hgr hat hlt'
           have HB7 : Hid (Below (hb + 1) wr w') := Lib.hid ((HB6.out.mono hbz).grown hgr hz6 (fun q hq => (HO6.out.base q hq).1))
           have HP7 := Lib.hid (BoxIs.low HAk.out.part HB7.out (by omega))
           have f7 := Lib.frozen_of_heap HP7.out 3
           have q7 := HP7.out.cell (j := 3) rfl
           have HA7 : Hid (RS b rb pb hb T w (w'.setCell ⟨pb, 3, none⟩ (.slice (some ⟨g, 0, none⟩) (N + 1) cap')) (j + 1) neg (hasOf acc) (some ⟨g, 0, none⟩) (N + 1) cap' (out ++ [((i : Int), (kk : Int))])) := Lib.hid (HAk.out.put hrb hrp hph hrz HB7.out hown (by rw [List.length_append, HLe.out]; rfl) (CInv.ok HCn.out HIb.out))
           clear hown hgr hat hlt' q3
           rw [HLe.out]
           go_wp2_with fail
           go_roundg (255 - kk)
           case measure => omega
           case rel => exact ⟨kk + 1, some ⟨g, 0, none⟩, N + 1, cap', out ++ [((i : Int), (kk : Int))], by omega, by omega, by go_num, by omega, HCn, HA7⟩
          ·have HNo : Hid (¬ In ((kk + 1 : Nat) : Int) acc) := Lib.hid (fun h => by have := (HIb.out _ h).2; omega)
           have hI2 : ¬ (kk : Int) < 255 := by omega
           clear hmore
           have HCn : Hid (CInv acc (out ++ [((i : Int), (kk : Int))]) (kk + 1)) := Lib.hid (HCi.out.add hik HAll.out HNo.out)
           clear HNo
           have q3 := HAk.out.part.cell (j := 3) rfl
           have HB6 := Lib.hid (bAlloc (Below.refl wr.heap.size wr) (.cells #[.int .i64 (i : Int), .int .i64 (kk : Int)] rgty))
           have HX6 := Lib.hid (BoxIs.new wr #[.int .i64 (i : Int), .int .i64 (kk : Int)] rgty)
           have HO6 := Lib.hid (HAk.out.own.under HB6.out)
           have hbz : hb + 1 ≤ wr.heap.size := HAk.out.has.lt
           have hz6 : hb + 1 ≤ (wr.alloc (.cells #[.int .i64 (i : Int), .int .i64 (kk : Int)] rgty)).heap.size := Nat.le_trans hbz HB6.out.size
           go_wp2_with (at_builtin; refine wpl_app elemRg (by decide) rfl (fun _ => rfl) rgOne (by decide) hz6 HO6.out (by rw [HLe.out]; omega) ((i : Int), (kk : Int)) HX6.out rfl (.tmp 96) (.tmp 100) rfl (by rw [HLe.out]; rfl) rfl ?_)
           intro g cap' w' hown hgr hat hlt'
           have HB7 : Hid (Below (hb + 1) wr w') := Lib.hid ((HB6.out.mono hbz).grown hgr hz6 (fun q hq => (HO6.out.base q hq).1))
           have HP7 := Lib.hid (BoxIs.low HAk.out.part HB7.out (by omega))
           have f7 := Lib.frozen_of_heap HP7.out 3
           have q7 := HP7.out.cell (j := 3) rfl
           have HA7 : Hid (RS b rb pb hb T w (w'.setCell ⟨pb, 3, none⟩ (.slice (some ⟨g, 0, none⟩) (N + 1) cap')) (j + 1) neg (hasOf acc) (some ⟨g, 0, none⟩) (N + 1) cap' (out ++ [((i : Int), (kk : Int))])) := Lib.hid (HAk.out.put hrb hrp hph hrz HB7.out hown (by rw [List.length_append, HLe.out]; rfl) (CInv.ok HCn.out HIb.out))
           clear hown hgr hat hlt' q3
           rw [HLe.out]
           go_wp2_with fail
           go_roundg (255 - kk)
           case measure => omega
           case rel => exact ⟨kk + 1, some ⟨g, 0, none⟩, N + 1, cap', out ++ [((i : Int), (kk : Int))], by omega, by omega, by go_num, by omega, HCn, HA7⟩
      ·have hI : ¬ (i : Int) < 256 := by omega
       obtain rfl : i = 256 := by omega
       have HOut := Lib.hid (HCi.out.done (fun n h => (HIb.out n h).2))
       obtain rfl : N = out.length := HLe.out.symm
       have k0 := HAi.out.part.cell (j := 0) rfl
       have k1 := HAi.out.part.cell (j := 1) rfl
       have k2 := HAi.out.part.cell (j := 2) rfl
       have k3 := HAi.out.part.cell (j := 3) rfl
       have k4 := HAi.out.part.cell (j := 4) rfl
       have d0 := HAi.out.res.cell (j := 0) rfl
       have d1 := HAi.out.res.cell (j := 1) rfl
       have d2 := HAi.out.res.cell (j := 2) rfl
       have d3 := HAi.out.res.cell (j := 3) rfl
       have d4 := HAi.out.res.cell (j := 4) rfl
       have g0 := Lib.frozen_of_heap HAi.out.res 0
       have g1 := Lib.frozen_of_heap HAi.out.res 1
       have g2 := Lib.frozen_of_heap HAi.out.res 2
       have g3 := Lib.frozen_of_heap HAi.out.res 3
       have g4 := Lib.frozen_of_heap HAi.out.res 4
       have HFn := Lib.hid (part_put HAi.out.res (.int .i64 5) (.string ⟨#[]⟩) (.bool neg) (.slice a out.length cap) (.slice none 0 0))
       go_wp2_with fail
       clear d0 d1 d2 d3 d4 g0 g1 g2 g3 g4 k0 k1 k2 k3 k4
       generalize ((((World.setCell _ _ _).setCell _ _).setCell _ _).setCell _ _).setCell _ _ = wf at *
       have d0 := HFn.out.1.cell (j := 0) rfl
       have d1 := HFn.out.1.cell (j := 1) rfl
       have d2 := HFn.out.1.cell (j := 2) rfl
       have d3 := HFn.out.1.cell (j := 3) rfl
       have d4 := HFn.out.1.cell (j := 4) rfl
       refine bodyPost_ret (v := .agg (pSet neg a out.length cap)) ?_ rfl ?_
       ·simp [results, Tryz.f165]
        go_simp
       ·rw [← HRs2.out]
        exact ⟨_, j + 1, rfl, ⟨setP n neg a cap out, rfl, ((rset_made n HAi.out).same HFn.out.2.size (fun q hq => HFn.out.2.block q ((rset_made n HAi.out).fp q hq).2 (by have := ((rset_made n HAi.out).fp q hq).1; omega))).mono (by omega), by rw [← HOut.out]; rfl⟩, BoxIs.side HAi.out.rd HFn.out.2 (by omega), hlt, rfl, HAi.out.side.new HFn.out.2 hrz⟩
end Go.Proofs.YtfenmeacimfiaaaGreatDoor
namespace Go.Proofs.YtfenmeacimfiaaaGreatDoor
open Go.RowKit Wh.G

set_option maxHeartbeats 4000000 in
set_option maxRecDepth 100000 in
theorem rparts_step (HSet : RSetOk) (n : Nat) (HRec : RListOk n) : RListOk (n + 1) := by
 intro b T k d w h hk hs hd hn
 have H := Lib.hid h
 have hbl := h.lt
 obtain ⟨dd, hdd⟩ : ∃ dd, decide (0 < d) = dd := ⟨_, rfl⟩
 rw [hdd]
 have HDD := Lib.hid hdd
 clear hdd
 obtain ⟨Res, hRes⟩ : ∃ Res, PL dd [] (left T k T.size) = Res := ⟨_, rfl⟩
 rw [hRes]
 have HRes := Lib.hid hRes
 clear hRes
 have HF := Lib.hid (fun n W => rfail_any b n W)
 have HRec1 := Lib.hid (fun W j (hR : ReAt W b T j) (h1 : j ≤ T.size) (h2 : k < j) => HRec b T j (d + 1) W hR h1 hs (by omega) (by rw [left_len (Nat.le_refl _)] at hn ⊢; omega))
 have HSet1 := Lib.hid (fun W j (hR : ReAt W b T j) (h1 : j < T.size) => HSet n b T j W hR h1 hs)
 have HB0 := Lib.hid (bAlloc (Below.refl w.heap.size w) (.cells #[.slice none 0 0] lty))
 have HZ := Lib.hid (BoxIs.new w #[.slice none 0 0] lty)
 clear h HSet HRec hn
 go_enter Tryz.func111, Tryz.ntmps111
 go_upto_region 2 with fail
 obtain ⟨ob, hob⟩ : ∃ ob, ob = w.heap.size := ⟨_, rfl⟩
 rw [← hob]
 rw [← hob] at HZ
 have hbo : b < ob := by omega
 have hwo : w.heap.size ≤ ob := by omega
 clear hob
 have HR1 : Hid (RL n b ob k T w (w.alloc (.cells #[.slice none 0 0] lty)) k none 0 []) := Lib.hid ⟨BoxIs.under H.out HB0.out, Side.of HB0.out, HZ.out, LsAt.nil _ _ _, Nat.zero_le _, fun q hq => by cases hq⟩
 clear H HB0 HZ
 generalize w.alloc _ = w1 at *
 go_wp2_with fail
 go_loopg [] (T.size - k) (fun g wx => ∃ (j : Nat) (a : Option Addr) (cap : Nat) (xs : List (P (n + 1))), j + g = T.size ∧ k ≤ j ∧ j ≤ T.size ∧ Hid (RL n b ob k T w wx j a cap xs) ∧ Hid (PL dd (gpL (n + 1) xs) (left T j T.size) = Res))
 case atStart => exact ⟨k, none, 0, [], by omega, Nat.le_refl _, hk, HR1, HRes⟩
 case round =>
  clear HR1 HRes
  obtain ⟨j, a, cap, xs, hg, hkj, hje, HL, HRs⟩ := hrel
  obtain ⟨v, hv⟩ : ∃ v, pk (left T j T.size) = v := ⟨_, rfl⟩
  have HM := Lib.hid (rpeek_any b T j wr HL.out.rd hje (by omega))
  rw [hv] at HM
  have HV := Lib.hid hv
  clear hv
  go_upto_region 6 with (go_at_call 162; refine HM.out.mono ?_; rintro E w2 ⟨rfl, n2, rfl⟩)
  have HL2 := Lib.hid (HL.out.drew n2)
  clear HL HM
  generalize wr.drewN n2 = w2 at *
  obtain ⟨stop, hst⟩ : ∃ stop, stopR dd (left T j T.size) = stop := ⟨_, rfl⟩
  have HSt := Lib.hid hst
  clear hst
  go_cut [23] (fun s23 wx => s23 = .bool stop ∧ Hid (RL n b ob k T w wx j a cap xs))
  case first =>
   by_cases hlt : j < T.size
   ·obtain ⟨c, hc⟩ : ∃ c : UInt8, T[j]'(by omega) = c := ⟨_, rfl⟩
    have hL := left_cons hlt (Nat.le_refl _) c hc
    obtain rfl : v = (c.toNat : Int) := by rw [← HV.out, hL]; rfl
    have hstop : stop = (dd && (c == 44 || c == 125)) := by rw [← HSt.out, hL]; rfl
    clear hL
    have hn0 : ¬ ((c.toNat : Int) < 0) := by omega
    have e44 := u8_eq c 44
    have e125 := u8_eq c 125
    change ((c.toNat : Int) == 44) = _ at e44
    change ((c.toNat : Int) == 125) = _ at e125
    have hddv : dd = decide (0 < d) := HDD.out.symm
    rcases Nat.eq_zero_or_pos d with hd0 | hd0
    ·have hN : stop = false := by rw [hstop, hddv, hd0]; rfl
     have HN := Lib.hid hN
     have hdI : ¬ (0 : Int) < (d : Int) := by omega
     clear hN hstop hddv hd0
     go_wp2_with fail
     go_meet
     exact ⟨by rw [HN.out], HL2⟩
    ·have hdt : decide (0 < d) = true := by simpa using hd0
     have hdI : (0 : Int) < (d : Int) := by omega
     rw [hddv, hdt] at hstop
     clear hddv hdt
     cases h44 : (c == 44)
     ·cases h125 : (c == 125)
      ·have hN : stop = false := by rw [hstop, h44, h125]; rfl
       have HN := Lib.hid hN
       rw [h44] at e44
       rw [h125] at e125
       clear hN hstop h44 h125
       go_wp2_with fail
       go_meet
       exact ⟨by rw [HN.out], HL2⟩
      ·have hN : stop = true := by rw [hstop, h44, h125]; rfl
       have HN := Lib.hid hN
       rw [h44] at e44
       rw [h125] at e125
       clear hN hstop h44 h125
       go_wp2_with fail
       go_meet
       exact ⟨by rw [HN.out], HL2⟩
     ·have hN : stop = true := by rw [hstop, h44]; rfl
      have HN := Lib.hid hN
      rw [h44] at e44
      clear hN hstop h44
      go_wp2_with fail
      go_meet
      exact ⟨by rw [HN.out], HL2⟩
   ·have hL := left_nil (T := T) (k := j) (e := T.size) (by omega)
    obtain rfl : v = -1 := by rw [← HV.out, hL]; rfl
    have hN : stop = true := by rw [← HSt.out, hL]; rfl
    have HN := Lib.hid hN
    clear hN hL
    go_wp2_with fail
    go_meet
    exact ⟨by rw [HN.out], HL2⟩
  case rest =>
   obtain ⟨rfl, HL3⟩ := hcut
   clear HL2
   cases stop
   rotate_left 1
   ·have HRs2 : Hid (Rd.ok (gpL (n + 1) xs) (left T j T.size) = Res) := Lib.hid ((PL_stopR HSt.out).symm.trans HRs.out)
    have c0 := HL3.out.out.cell (j := 0) rfl
    go_wp2_with fail
    go_ret
    rw [← HRs2.out]
    exact ⟨_, j, rfl, ⟨⟨a, cap, xs⟩, rfl, (ls_made HL3.out.ls).mono (by omega), rfl⟩, HL3.out.rd, hje, rfl, HL3.out.side⟩
   ·have hlt : j < T.size := Nat.lt_of_not_le fun h => by
     have h1 := HSt.out
     rw [left_nil h] at h1
     cases h1
    obtain ⟨c, hc⟩ : ∃ c : UInt8, T[j]'(by omega) = c := ⟨_, rfl⟩
    have HLc := Lib.hid (left_cons hlt (Nat.le_refl _) c hc)
    have hvc : v = (c.toNat : Int) := by rw [← HV.out, HLc.out]; rfl
    have HRs2 := HRs
    rw [HLc.out] at HRs2
    have HSt2 := HSt
    rw [HLc.out] at HSt2
    clear HRs HSt HV
    by_cases k0 : c = 0 ∨ c = 93 ∨ c = 125
    ·have HRs3 : Hid (Rd.bad (c :: left T (j + 1) T.size) = Res) := Lib.hid ((go_bad HSt2.out k0).symm.trans HRs2.out)
     clear HRs2 HSt2
     have key : v = 0 ∨ v = 93 ∨ v = 125 := by
      rcases k0 with h | h | h
      ·exact .inl (by rw [hvc, h]; rfl)
      ·exact .inr (.inl (by rw [hvc, h]; rfl))
      ·exact .inr (.inr (by rw [hvc, h]; rfl))
     clear k0 hvc
     rcases key with rfl | rfl | rfl
     ·skip
      have x1 := HL3.out.rd.cell (j := 1) rfl
      have HPo := Lib.hid (posF_left (T := T) (k := j) (by omega))
      go_wp2_with (go_at_call 163; refine (HF.out _ _).mono ?_; rintro E w9 ⟨rfl, hw9⟩; subst w9)
      refine ⟨rfl, ?_⟩
      have hpo := HPo.out
      rw [HLc.out] at hpo
      rw [← HRs3.out]
      exact ⟨by rw [hpo] <;> rfl, HL3.out.side⟩
     ·skip
      have x1 := HL3.out.rd.cell (j := 1) rfl
      have HPo := Lib.hid (posF_left (T := T) (k := j) (by omega))
      go_wp2_with (go_at_call 163; refine (HF.out _ _).mono ?_; rintro E w9 ⟨rfl, hw9⟩; subst w9)
      refine ⟨rfl, ?_⟩
      have hpo := HPo.out
      rw [HLc.out] at hpo
      rw [← HRs3.out]
      exact ⟨by rw [hpo] <;> rfl, HL3.out.side⟩
     ·skip
      have x1 := HL3.out.rd.cell (j := 1) rfl
      have HPo := Lib.hid (posF_left (T := T) (k := j) (by omega))
      go_wp2_with (go_at_call 163; refine (HF.out _ _).mono ?_; rintro E w9 ⟨rfl, hw9⟩; subst w9)
      refine ⟨rfl, ?_⟩
      have hpo := HPo.out
      rw [HLc.out] at hpo
      rw [← HRs3.out]
      exact ⟨by rw [hpo] <;> rfl, HL3.out.side⟩
    by_cases k92 : c = 92
    ·subst k92
     have hv2 : v = 92 := hvc
     clear hvc
     subst hv2
     clear k0 HSt2
     have x1 := HL3.out.rd.cell (j := 1) rfl
     have f1 := Lib.frozen_of_heap HL3.out.rd 1
     have HL4 := Lib.hid (HL3.out.step hbo)
     go_upto_region 12 with fail
     clear x1 f1 HL3
     generalize wc.setCell _ _ = w4 at *
     by_cases hlt2 : j + 1 < T.size
     ·obtain ⟨x, hx⟩ : ∃ x : UInt8, T[j + 1]'(by omega) = x := ⟨_, rfl⟩
      have HL2 := Lib.hid (left_cons hlt2 (Nat.le_refl _) x hx)
      rw [HL2.out, go_q] at HRs2
      by_cases x0 : x = 0
      ·have HRs3 : Hid (Rd.bad (left T (j + 1) T.size) = Res) := Lib.hid (by
        have h1 := HRs2.out
        rw [if_pos x0, ← HL2.out] at h1
        exact h1)
       have HM4 := Lib.hid (HL4.out.rd.peekL hlt2 (by omega) hx 0 (by rw [x0]; rfl))
       clear x0
       go_upto_region 14 with (go_at_call 162; refine HM4.out.mono ?_; rintro E w5 ⟨rfl, n5, rfl⟩)
       have HL5 := Lib.hid (HL4.out.drew n5)
       clear HL4 HM4
       generalize w4.drewN n5 = w5 at *
       have x1 := HL5.out.rd.cell (j := 1) rfl
       have HPo := Lib.hid (posF_left (T := T) (k := j + 1) (by omega))
       go_wp2_with (go_at_call 163; refine (HF.out _ _).mono ?_; rintro E w9 ⟨rfl, hw9⟩; subst w9)
       refine ⟨rfl, ?_⟩
       have hpo := HPo.out
       skip
       rw [← HRs3.out]
       exact ⟨by rw [hpo] <;> rfl, HL5.out.side⟩
      ·have HRs3 : Hid (PL dd (addT (gpL (n + 1) xs) x) (left T (j + 1 + 1) T.size) = Res) := Lib.hid (by
        have h1 := HRs2.out
        rw [if_neg x0] at h1
        exact h1)
       have HM4 := Lib.hid (HL4.out.rd.peek hlt2 (by omega) hx)
       have hle := nat_le0 x0
       clear x0 HRs2
       go_upto_region 15 with (go_at_call 162; refine HM4.out.mono ?_; rintro E w5 ⟨rfl, n5, rfl⟩)
       have HL5 := Lib.hid (HL4.out.drew n5)
       clear HL4 HM4
       generalize w4.drewN n5 = w5 at *
       clear hle
       have HTx := Lib.hid (rtext_any n (ob + 1) ob (j + 1 - k) x w5 a cap xs HL5.out.out HL5.out.ls (Nat.lt_succ_self ob) HL5.out.out.lt (by have := HL5.out.len; omega) (by omega) HL5.out.txt)
       have hent := enters_text
       have hwx := wrap_byte x
       go_upto_region 16 with (go_at_call 161; refine HTx.out.mono ?_; intro E w5 ht; obtain ⟨rfl, a', cap', ys, hgp, hR5, hRL5⟩ := HL5.out.text hbo hwo ht (by omega); have HG5 := Lib.hid hgp; have HR5 := Lib.hid hR5; have HRL5 := Lib.hid hRL5; clear ht hgp hR5 hRL5)
       have x1 := HR5.out.cell (j := 1) rfl
       have f1 := Lib.frozen_of_heap HR5.out 1
       clear HTx hent hwx
       go_wp2_with fail
       go_roundg (T.size - (j + 1 + 1))
       case measure => omega
       case rel => exact ⟨j + 1 + 1, a', cap', ys, by omega, by omega, by omega, HRL5, Lib.hid (by rw [HG5.out]; exact HRs3.out)⟩
     ·have hE : T.size = j + 1 := by omega
      have HNil := Lib.hid (left_nil (T := T) (k := j + 1) (e := T.size) (by omega))
      have HRs3 : Hid (Rd.bad [] = Res) := Lib.hid (by
       have h1 := HRs2.out
       rw [HNil.out, go_q0] at h1
       exact h1)
      have HM4 := Lib.hid (HL4.out.rd.peekE (by omega) (by omega))
      go_upto_region 14 with (go_at_call 162; refine HM4.out.mono ?_; rintro E w5 ⟨rfl, n5, rfl⟩)
      have HL5 := Lib.hid (HL4.out.drew n5)
      clear HL4 HM4 hE
      generalize w4.drewN n5 = w5 at *
      have x1 := HL5.out.rd.cell (j := 1) rfl
      have HPo := Lib.hid (posF_left (T := T) (k := j + 1) (by omega))
      go_wp2_with (go_at_call 163; refine (HF.out _ _).mono ?_; rintro E w9 ⟨rfl, hw9⟩; subst w9)
      refine ⟨rfl, ?_⟩
      have hpo := HPo.out
      rw [HNil.out] at hpo
      rw [← HRs3.out]
      exact ⟨by rw [hpo] <;> rfl, HL5.out.side⟩
    by_cases k63 : c = 63
    ·subst k63
     have hv2 : v = 63 := hvc
     clear hvc
     subst hv2
     clear k0 k92 HSt2
     have HRs3 : Hid (PL dd (gpL (n + 1) xs ++ [.one]) (left T (j + 1) T.size) = Res) := Lib.hid ((go_one _ _ _).symm.trans HRs2.out)
     have x1 := HL3.out.rd.cell (j := 1) rfl
     have f1 := Lib.frozen_of_heap HL3.out.rd 1
     have HL4 := Lib.hid (HL3.out.step hbo)
     go_upto_region 19 with fail
     clear x1 f1 HRs2
     have HLen := Lib.hid HL3.out.len
     clear HL3
     generalize wc.setCell _ _ = w4 at *
     have c4 := HL4.out.out.cell (j := 0) rfl
     have HB5 := Lib.hid (bAlloc (Below.refl w4.heap.size w4) (.cells (partCells (n + 1) (simpleP n 2 ⟨#[]⟩)).toArray party))
     have HX5 := Lib.hid (BoxIs.new w4 (partCells (n + 1) (simpleP n 2 ⟨#[]⟩)).toArray party)
     have HL5 := Lib.hid (HL4.out.under HB5.out)
     go_wp2_with (at_builtin; refine wpl_app elemPt (by decide) rfl (partCells_len (n + 1)) (oneCells (n + 1)) (by decide) HL5.out.out.lt HL5.out.ls.own (by have := HLen.out; omega) (simpleP n 2 ⟨#[]⟩) HX5.out rfl (.tmp 97) (.tmp 99) rfl rfl rfl ?_)
     intro g cap' w' hown hgr hat hlt'
     have hsn := HL5.out.snoc hbo hwo (p := simpleP n 2 ⟨#[]⟩) (simple_made n _ _ 2 _ (.inr ⟨.inl rfl, rfl⟩)) (fun q hq => absurd hq simple_fp) rfl (by omega) (j0 := j) (by omega) HLen.out hkj hown hgr (hat.imp id (fun e => by rw [e] <;> simp))
     have HX9 := Lib.hid hsn.1
     have HL9 := Lib.hid hsn.2
     clear hown hgr hat hlt' hsn c4
     have c9 := HX9.out.cell (j := 0) rfl
     have f9 := Lib.frozen_of_heap HX9.out 0
     go_wp2_with fail
     go_roundg (T.size - (j + 1))
     case measure => omega
     case rel => exact ⟨j + 1, _, cap', xs ++ [simpleP n 2 ⟨#[]⟩], by omega, by omega, by omega, HL9, Lib.hid (by
      unfold gpL
      rw [List.map_append, List.map_cons, List.map_nil]
      exact HRs3.out)⟩
    by_cases k42 : c = 42
    ·subst k42
     have hv2 : v = 42 := hvc
     clear hvc
     subst hv2
     clear k0 k92 k63 HSt2
     have HC := Lib.hid (rstars_part n b T j wc.drew HL3.out.rd hlt hc (by omega))
     have HRs3 := Lib.hid ((go_stars _ _ _).symm.trans HRs2.out)
     rw [← HLc.out] at HRs3
     have HLen42 : ∀ gp q, (goS 0 (left T j T.size)).bind (fun kd q => .ok (if kd = 4 then GP.deep else .star) q) = .ok gp q → q.length < (left T j T.size).length ∧ isT gp = false := fun gp q h => by
      cases hg2 : goS 0 (left T j T.size) with
      | bad r => rw [hg2] at h; cases h
      | ok kd q2 =>
       rw [hg2] at h
       injection h with h1 h2
       subst h1 h2
       rw [HLc.out] at hg2 ⊢
       refine ⟨?_, by split <;> rfl⟩
       rw [goS_zero] at hg2
       have tl : (left T (j + 1) T.size).tail.length ≤ (left T (j + 1) T.size).length := by rw [List.length_tail]; omega
       rw [List.length_cons]
       split at hg2
       ·split at hg2
        ·cases hg2
        ·injection hg2 with _ hg2
         rw [← hg2]
         omega
       ·injection hg2 with _ hg2
        rw [← hg2]
        omega
     have HNt42 := fun gp q h => (HLen42 gp q h).2
     replace HLen42 := fun gp q h => (HLen42 gp q h).1
     have HLen42 := Lib.hid HLen42
     have HNt42 := Lib.hid HNt42
     generalize (goS 0 (left T j T.size)).bind _ = G at *
     go_upto_region 21 with fail
     clear HRs2
     have HLen5 : Hid (∀ gp q, G = .ok gp q → q.length < (left T j T.size).length) := HLen42
     have HNt : Hid (∀ gp q, G = .ok gp q → isT gp = false) := HNt42
     cases G with
     | bad r =>
      have HRs4 : Hid (Rd.bad r = Res) := Lib.hid HRs3.out
      have c4 := HL3.out.out.cell (j := 0) rfl
      refine wp_region_seqP (fun ch w' => ch = [{ v := .iface rBadTy (.agg #[.int .i64 (posF T r)]), recovered := false }] ∧ Side b w w') (fun W => W.cell? ⟨ob, 0, none⟩ = some (.slice a xs.length cap)) 5 [(0, true), (1, true), (2, false), (3, false), (4, false), (5, false)] (by as_aux_lemma => kernel_rfl) (by as_aux_lemma => kernel_rfl) (by as_aux_lemma => kernel_rfl) (by decide) (by as_aux_lemma => kernel_rfl) (by decide) c4 ?_ ?_
      ·rintro ch a' w' hdf ⟨rfl, hS⟩
       refine ⟨hdf, ?_⟩
       rw [← HRs4.out]
       exact ⟨rfl, hS⟩
      intro OPS HO
      refine seqT_take (o := ⟨_, _, _, _, _, _⟩) (v := ?_) (by rw [HO.out]; rfl) (by rfl) ?_ ?_
      rotate_left 1
      ·first | ((intro W _; go_simp) <;> with_reducible rfl) | (intro W hW; have s1 := hW; (go_simp <;> with_reducible rfl))
      try simp only [Act.put, List.setIfInBounds_toArray, List.set_cons_zero, List.set_cons_succ]
      refine seqT_take (o := ⟨_, _, _, _, _, _⟩) (v := ?_) (by rw [HO.out]; rfl) (by rfl) ?_ ?_
      rotate_left 1
      ·first | ((intro W _; go_simp) <;> with_reducible rfl) | (intro W hW; have s1 := hW; (go_simp <;> with_reducible rfl))
      try simp only [Act.put, List.setIfInBounds_toArray, List.set_cons_zero, List.set_cons_succ]
      refine seqT_do (o := ⟨_, _, _, _, _, _⟩) (by rw [HO.out]; rfl) (by rfl) (fun K hK => ?_)
      go_wp2_with (go_at_call 164; refine HC.out.mono ?_; rintro E w5 ⟨rfl, hS5⟩)
      exact ⟨rfl, rfl, HL3.out.side.trans ⟨hS5.os, hS5.tape, hS5.output, hS5.size, hS5.block⟩⟩
     | ok gp q =>
      have HRs4 : Hid (PL dd (gpL (n + 1) xs ++ [gp]) q = Res) := Lib.hid HRs3.out
      have c4 := HL3.out.out.cell (j := 0) rfl
      refine wp_region_seqP (fun _ _ => False) (fun W => W.cell? ⟨ob, 0, none⟩ = some (.slice a xs.length cap)) 5 [(0, true), (1, true), (2, false), (3, false), (4, false), (5, false)] (by as_aux_lemma => kernel_rfl) (by as_aux_lemma => kernel_rfl) (by as_aux_lemma => kernel_rfl) (by decide) (by as_aux_lemma => kernel_rfl) (by decide) c4 ?_ ?_
      ·intro _ _ _ _ h
       exact h.elim
      intro OPS HO
      refine seqT_take (o := ⟨_, _, _, _, _, _⟩) (v := ?_) (by rw [HO.out]; rfl) (by rfl) ?_ ?_
      rotate_left 1
      ·first | ((intro W _; go_simp) <;> with_reducible rfl) | (intro W hW; have s1 := hW; (go_simp <;> with_reducible rfl))
      try simp only [Act.put, List.setIfInBounds_toArray, List.set_cons_zero, List.set_cons_succ]
      refine seqT_take (o := ⟨_, _, _, _, _, _⟩) (v := ?_) (by rw [HO.out]; rfl) (by rfl) ?_ ?_
      rotate_left 1
      ·first | ((intro W _; go_simp) <;> with_reducible rfl) | (intro W hW; have s1 := hW; (go_simp <;> with_reducible rfl))
      try simp only [Act.put, List.setIfInBounds_toArray, List.set_cons_zero, List.set_cons_succ]
      refine seqT_do (o := ⟨_, _, _, _, _, _⟩) (by rw [HO.out]; rfl) (by rfl) (fun K hK => ?_)
      go_wp2_with (go_at_call 164; refine HC.out.mono ?_; rintro E w5 ⟨v5, k5, rfl, ⟨p5, rfl, hm5, hg5⟩, hR5, hk5, hl5, hS5⟩; have HR5 := Lib.hid hR5; have HL5 := Lib.hid hl5; have HM5 := Lib.hid hm5; have HG5 := Lib.hid hg5; have HS5 : Hid (Side b wc w5) := Lib.hid ⟨hS5.os, hS5.tape, hS5.output, hS5.size, hS5.block⟩; clear hR5 hl5 hm5 hg5 hS5; obtain ⟨p5', hp5'⟩ : ∃ p5' : PartOf (P n), p5' = p5 := ⟨_, rfl⟩; obtain ⟨pk, pt5, pn, pr, pw⟩ := p5'; subst hp5'; simp only [partCells, partCellsOf])
      have hjk : j < k5 := by
       have h1 := HLen5.out _ _ rfl
       rw [← HL5.out, left_len (Nat.le_refl _), left_len (Nat.le_refl _)] at h1
       omega
      have HLw := Lib.hid (HL3.out.call hbo HS5.out (Nat.le_of_lt hjk) HR5.out)
      have c5 := HLw.out.out.cell (j := 0) rfl
      have c5a := fun ob' => (BoxIs.under HLw.out.out (bAlloc (Below.refl _ _) ob')).cell (j := 0) rfl
      clear c4
      refine hK.out _ _ (fun _ => c5) ?_
      clear hK K
      try simp only [Act.put, List.setIfInBounds_toArray, List.set_cons_zero, List.set_cons_succ]
      refine seqT_do (o := ⟨_, _, _, _, _, _⟩) (by rw [HO.out]; rfl) (by rfl) (fun K hK => ?_)
      clear c5
      go_wp2_with fail
      refine hK.out _ _ (fun _ => (c5a _)) ?_
      clear hK K
      try simp only [Act.put, List.setIfInBounds_toArray, List.set_cons_zero, List.set_cons_succ]
      refine seqT_do (o := ⟨_, _, _, _, _, _⟩) (by rw [HO.out]; rfl) (by rfl) (fun K hK => ?_)
      have HBa := Lib.hid (bAlloc (Below.refl w5.heap.size w5) (.cells #[.int .i64 pk, .string pt5, .bool pn, .slice pr.a pr.xs.length pr.c, .slice pw.a pw.xs.length pw.c] party))
      have HLa := Lib.hid (HLw.out.under HBa.out)
      have HMa := Lib.hid ((HM5.out.mono (show ob + 1 ≤ wc.drew.heap.size from HL3.out.out.lt)).same HBa.out.size (fun q hq => HBa.out.block q (HM5.out.fp q hq).2))
      have HPz : Hid (txtSz n (mkP n pk pt5 pn pr pw) = 0) := Lib.hid (clean_notext HM5.out.cl (by rw [HG5.out]; exact HNt.out _ _ rfl))
      refine wpo_app elemPt (by decide) rfl (partCells_len (n + 1)) (oneCells (n + 1)) (by decide) HLa.out.out.lt HLa.out.ls.own (by have := HL3.out.len; omega) (mkP n pk pt5 pn pr pw) (BoxIs.new w5 _ _) (.tmp 104) (.tmp 107) rfl rfl rfl ?_
      intro g cap' w' hown hgr hat hlt'
      have hsn := HLa.out.snoc hbo hwo (p := mkP n pk pt5 pn pr pw) HMa.out (fun q hq e => by
       have h1 := (HM5.out.fp q hq).1
       have h2 := (HL3.out.ls.own.base q e).2.1
       have h3 : wc.drew.heap.size = wc.heap.size := rfl
       omega) HPz.out (by omega) (j0 := j) hjk HL3.out.len hkj hown hgr (hat.imp id (fun e => by rw [e] <;> simp))
      have HX9 := Lib.hid hsn.1
      have HL9 := Lib.hid hsn.2
      clear hown hgr hat hlt' hsn c5a
      have d1 := HX9.out.cell (j := 0) rfl
      have df := Lib.frozen_of_heap HX9.out 0
      refine hK.out _ _ (fun _ => d1) ?_
      clear hK K
      try simp only [Act.put, List.setIfInBounds_toArray, List.set_cons_zero, List.set_cons_succ]
      refine seqT_do (o := ⟨_, _, _, _, _, _⟩) (by rw [HO.out]; rfl) (by rfl) (fun K hK => ?_)
      go_wp2_with fail
      refine hK.out _ _ (fun h => absurd rfl h) ?_
      clear hK K
      try simp only [Act.put, List.setIfInBounds_toArray, List.set_cons_zero, List.set_cons_succ]
      refine seqP_done ?_
      clear d1 df
      have HRs9 : Hid (PL dd (gpL (n + 1) (xs ++ [mkP n pk pt5 pn pr pw])) (left T k5 T.size) = Res) := Lib.hid (by
       rw [HL5.out]
       unfold gpL
       rw [List.map_append, List.map_cons, List.map_nil, HG5.out]
       exact HRs4.out)
      clear HM5 HMa HLa HLw HBa HL3
      generalize w'.setCell _ _ = w9 at *
      go_wp2_with fail
      go_roundg (T.size - k5)
      case measure => omega
      case rel => exact ⟨k5, _, cap', xs ++ [mkP n pk pt5 pn pr pw], by omega, by omega, hk5, HL9, HRs9⟩
    by_cases k91 : c = 91
    ·subst k91
     have hv2 : v = 91 := hvc
     clear hvc
     subst hv2
     clear k0 k92 k63 k42 HSt2
     have HC := Lib.hid (HSet1.out wc.drew j HL3.out.rd hlt)
     have HRs3 := Lib.hid ((go_set _ _ _).symm.trans HRs2.out)
     have HLen91 : Hid (∀ gp q, setR (left T (j + 1) T.size) = .ok gp q → q.length < (left T j T.size).length) := Lib.hid (fun gp q h => by
      have := setR_len h
      rw [HLc.out, List.length_cons]
      omega)
     have HNt91 : Hid (∀ gp q, setR (left T (j + 1) T.size) = .ok gp q → isT gp = false) := Lib.hid (fun gp q h => setR_notext h)
     generalize setR (left T (j + 1) T.size) = G at *
     go_upto_region 23 with fail
     clear HRs2
     have HLen5 : Hid (∀ gp q, G = .ok gp q → q.length < (left T j T.size).length) := HLen91
     have HNt : Hid (∀ gp q, G = .ok gp q → isT gp = false) := HNt91
     cases G with
     | bad r =>
      have HRs4 : Hid (Rd.bad r = Res) := Lib.hid HRs3.out
      have c4 := HL3.out.out.cell (j := 0) rfl
      refine wp_region_seqP (fun ch w' => ch = [{ v := .iface rBadTy (.agg #[.int .i64 (posF T r)]), recovered := false }] ∧ Side b w w') (fun W => W.cell? ⟨ob, 0, none⟩ = some (.slice a xs.length cap)) 5 [(0, true), (1, true), (2, false), (3, false), (4, false), (5, false)] (by as_aux_lemma => kernel_rfl) (by as_aux_lemma => kernel_rfl) (by as_aux_lemma => kernel_rfl) (by decide) (by as_aux_lemma => kernel_rfl) (by decide) c4 ?_ ?_
      ·rintro ch a' w' hdf ⟨rfl, hS⟩
       refine ⟨hdf, ?_⟩
       rw [← HRs4.out]
       exact ⟨rfl, hS⟩
      intro OPS HO
      refine seqT_take (o := ⟨_, _, _, _, _, _⟩) (v := ?_) (by rw [HO.out]; rfl) (by rfl) ?_ ?_
      rotate_left 1
      ·first | ((intro W _; go_simp) <;> with_reducible rfl) | (intro W hW; have s1 := hW; (go_simp <;> with_reducible rfl))
      try simp only [Act.put, List.setIfInBounds_toArray, List.set_cons_zero, List.set_cons_succ]
      refine seqT_take (o := ⟨_, _, _, _, _, _⟩) (v := ?_) (by rw [HO.out]; rfl) (by rfl) ?_ ?_
      rotate_left 1
      ·first | ((intro W _; go_simp) <;> with_reducible rfl) | (intro W hW; have s1 := hW; (go_simp <;> with_reducible rfl))
      try simp only [Act.put, List.setIfInBounds_toArray, List.set_cons_zero, List.set_cons_succ]
      refine seqT_do (o := ⟨_, _, _, _, _, _⟩) (by rw [HO.out]; rfl) (by rfl) (fun K hK => ?_)
      go_wp2_with (go_at_call 165; refine HC.out.mono ?_; rintro E w5 ⟨rfl, hS5⟩)
      exact ⟨rfl, rfl, HL3.out.side.trans ⟨hS5.os, hS5.tape, hS5.output, hS5.size, hS5.block⟩⟩
     | ok gp q =>
      have HRs4 : Hid (PL dd (gpL (n + 1) xs ++ [gp]) q = Res) := Lib.hid HRs3.out
      have c4 := HL3.out.out.cell (j := 0) rfl
      refine wp_region_seqP (fun _ _ => False) (fun W => W.cell? ⟨ob, 0, none⟩ = some (.slice a xs.length cap)) 5 [(0, true), (1, true), (2, false), (3, false), (4, false), (5, false)] (by as_aux_lemma => kernel_rfl) (by as_aux_lemma => kernel_rfl) (by as_aux_lemma => kernel_rfl) (by decide) (by as_aux_lemma => kernel_rfl) (by decide) c4 ?_ ?_
      ·intro _ _ _ _ h
       exact h.elim
      intro OPS HO
      refine seqT_take (o := ⟨_, _, _, _, _, _⟩) (v := ?_) (by rw [HO.out]; rfl) (by rfl) ?_ ?_
      rotate_left 1
      ·first | ((intro W _; go_simp) <;> with_reducible rfl) | (intro W hW; have s1 := hW; (go_simp <;> with_reducible rfl))
      try simp only [Act.put, List.setIfInBounds_toArray, List.set_cons_zero, List.set_cons_succ]
      refine seqT_take (o := ⟨_, _, _, _, _, _⟩) (v := ?_) (by rw [HO.out]; rfl) (by rfl) ?_ ?_
      rotate_left 1
      ·first | ((intro W _; go_simp) <;> with_reducible rfl) | (intro W hW; have s1 := hW; (go_simp <;> with_reducible rfl))
      try simp only [Act.put, List.setIfInBounds_toArray, List.set_cons_zero, List.set_cons_succ]
      refine seqT_do (o := ⟨_, _, _, _, _, _⟩) (by rw [HO.out]; rfl) (by rfl) (fun K hK => ?_)
      go_wp2_with (go_at_call 165; refine HC.out.mono ?_; rintro E w5 ⟨v5, k5, rfl, ⟨p5, rfl, hm5, hg5⟩, hR5, hk5, hl5, hS5⟩; have HR5 := Lib.hid hR5; have HL5 := Lib.hid hl5; have HM5 := Lib.hid hm5; have HG5 := Lib.hid hg5; have HS5 : Hid (Side b wc w5) := Lib.hid ⟨hS5.os, hS5.tape, hS5.output, hS5.size, hS5.block⟩; clear hR5 hl5 hm5 hg5 hS5; obtain ⟨p5', hp5'⟩ : ∃ p5' : PartOf (P n), p5' = p5 := ⟨_, rfl⟩; obtain ⟨pk, pt5, pn, pr, pw⟩ := p5'; subst hp5'; simp only [partCells, partCellsOf])
      have hjk : j < k5 := by
       have h1 := HLen5.out _ _ rfl
       rw [← HL5.out, left_len (Nat.le_refl _), left_len (Nat.le_refl _)] at h1
       omega
      have HLw := Lib.hid (HL3.out.call hbo HS5.out (Nat.le_of_lt hjk) HR5.out)
      have c5 := HLw.out.out.cell (j := 0) rfl
      have c5a := fun ob' => (BoxIs.under HLw.out.out (bAlloc (Below.refl _ _) ob')).cell (j := 0) rfl
      clear c4
      refine hK.out _ _ (fun _ => c5) ?_
      clear hK K
      try simp only [Act.put, List.setIfInBounds_toArray, List.set_cons_zero, List.set_cons_succ]
      refine seqT_do (o := ⟨_, _, _, _, _, _⟩) (by rw [HO.out]; rfl) (by rfl) (fun K hK => ?_)
      clear c5
      go_wp2_with fail
      refine hK.out _ _ (fun _ => (c5a _)) ?_
      clear hK K
      try simp only [Act.put, List.setIfInBounds_toArray, List.set_cons_zero, List.set_cons_succ]
      refine seqT_do (o := ⟨_, _, _, _, _, _⟩) (by rw [HO.out]; rfl) (by rfl) (fun K hK => ?_)
      have HBa := Lib.hid (bAlloc (Below.refl w5.heap.size w5) (.cells #[.int .i64 pk, .string pt5, .bool pn, .slice pr.a pr.xs.length pr.c, .slice pw.a pw.xs.length pw.c] party))
      have HLa := Lib.hid (HLw.out.under HBa.out)
      have HMa := Lib.hid ((HM5.out.mono (show ob + 1 ≤ wc.drew.heap.size from HL3.out.out.lt)).same HBa.out.size (fun q hq => HBa.out.block q (HM5.out.fp q hq).2))
      have HPz : Hid (txtSz n (mkP n pk pt5 pn pr pw) = 0) := Lib.hid (clean_notext HM5.out.cl (by rw [HG5.out]; exact HNt.out _ _ rfl))
      refine wpo_app elemPt (by decide) rfl (partCells_len (n + 1)) (oneCells (n + 1)) (by decide) HLa.out.out.lt HLa.out.ls.own (by have := HL3.out.len; omega) (mkP n pk pt5 pn pr pw) (BoxIs.new w5 _ _) (.tmp 112) (.tmp 115) rfl rfl rfl ?_
      intro g cap' w' hown hgr hat hlt'
      have hsn := HLa.out.snoc hbo hwo (p := mkP n pk pt5 pn pr pw) HMa.out (fun q hq e => by
       have h1 := (HM5.out.fp q hq).1
       have h2 := (HL3.out.ls.own.base q e).2.1
       have h3 : wc.drew.heap.size = wc.heap.size := rfl
       omega) HPz.out (by omega) (j0 := j) hjk HL3.out.len hkj hown hgr (hat.imp id (fun e => by rw [e] <;> simp))
      have HX9 := Lib.hid hsn.1
      have HL9 := Lib.hid hsn.2
      clear hown hgr hat hlt' hsn c5a
      have d1 := HX9.out.cell (j := 0) rfl
      have df := Lib.frozen_of_heap HX9.out 0
      refine hK.out _ _ (fun _ => d1) ?_
      clear hK K
      try simp only [Act.put, List.setIfInBounds_toArray, List.set_cons_zero, List.set_cons_succ]
      refine seqT_do (o := ⟨_, _, _, _, _, _⟩) (by rw [HO.out]; rfl) (by rfl) (fun K hK => ?_)
      go_wp2_with fail
      refine hK.out _ _ (fun h => absurd rfl h) ?_
      clear hK K
      try simp only [Act.put, List.setIfInBounds_toArray, List.set_cons_zero, List.set_cons_succ]
      refine seqP_done ?_
      clear d1 df
      have HRs9 : Hid (PL dd (gpL (n + 1) (xs ++ [mkP n pk pt5 pn pr pw])) (left T k5 T.size) = Res) := Lib.hid (by
       rw [HL5.out]
       unfold gpL
       rw [List.map_append, List.map_cons, List.map_nil, HG5.out]
       exact HRs4.out)
      clear HM5 HMa HLa HLw HBa HL3
      generalize w'.setCell _ _ = w9 at *
      go_wp2_with fail
      go_roundg (T.size - k5)
      case measure => omega
      case rel => exact ⟨k5, _, cap', xs ++ [mkP n pk pt5 pn pr pw], by omega, by omega, hk5, HL9, HRs9⟩
    by_cases k123 : c = 123
    ·subst k123
     have hv2 : v = 123 := hvc
     clear hvc
     subst hv2
     clear k0 k92 k63 k42 k91 HSt2
     have HRs3 := Lib.hid ((go_ways _ _ _).symm.trans HRs2.out)
     have x1 := HL3.out.rd.cell (j := 1) rfl
     have f1 := Lib.frozen_of_heap HL3.out.rd 1
     have HL4 := Lib.hid (HL3.out.step hbo)
     go_upto_region 26 with fail
     clear x1 f1 HRs2
     have HLen := Lib.hid HL3.out.len
     clear HL3
     generalize wc.setCell _ _ = wq at *
     obtain ⟨ResW, hRW⟩ : ∃ ResW, WL [] (left T (j + 1) T.size) = ResW := ⟨_, rfl⟩
     rw [hRW] at HRs3
     have HRW := Lib.hid hRW
     clear hRW
     have HBq := Lib.hid (bAlloc (Below.refl wq.heap.size wq) (.cells (pWays none 0 0) party))
     have HPq := Lib.hid (BoxIs.new wq (pWays none 0 0) party)
     go_wp2_with fail
     obtain ⟨pb, hpb⟩ : ∃ pb, pb = wq.heap.size := ⟨_, rfl⟩
     rw [← hpb]
     rw [← hpb] at HPq
     have hop : ob < pb := by rw [hpb]; exact HL4.out.out.lt
     have hbp : b < pb := by omega
     have hwp : wq.heap.size ≤ pb := by omega
     have hwp2 : pb ≤ wq.heap.size := by omega
     have HRq := Lib.hid (BoxIs.under HL4.out.rd HBq.out)
     have HSq := Lib.hid (Side.of (b := b) HBq.out)
     clear hpb HBq
     generalize wq.alloc _ = w4 at *
     go_loopg [] (T.size - (j + 1)) (fun g wx => ∃ (i : Nat) (wa : Option Addr) (wc2 : Nat) (ws : List (Sl (P n))), i + g = T.size ∧ j < i ∧ i ≤ T.size ∧ ws.length ≤ i - j ∧ Hid (ReAt wx b T i) ∧ Hid (Side b wq wx) ∧ Hid (BoxIs wx pb (pWays wa ws.length wc2) party) ∧ Hid (WsAt n (pb + 1) wx wa wc2 ws) ∧ Hid (WL (ws.map (fun s => gpL n s.xs)) (left T i T.size) = ResW))
     case atStart => exact ⟨j + 1, none, 0, [], by omega, by omega, by omega, Nat.zero_le _, HRq, HSq, HPq, Lib.hid (WsAt.nil _ _ _), HRW⟩
     case round =>
      clear HRq HSq HPq HRW
      obtain ⟨i, wa, wc2, ws, hg2, hji, hie, hwl, HRi, HSi, HPi, HWi, HRsW⟩ := hrel
      have hbx : b < wr.heap.size := HRi.out.lt
      have hpx : pb < wr.heap.size := HPi.out.lt
      have HLi3 := Lib.hid (HRec1.out wr.drew i HRi.out hie (by omega))
      have c4 := HPi.out.cell (j := 4) rfl
      have hwd : IntKind.i64.wrap ((d : Int) + 1) = (d : Int) + 1 := IntWalk.i64_in _ (by omega)
      rw [show decide (0 < d + 1) = true by simp, show (((d + 1 : Nat) : Int)) = (d : Int) + 1 from rfl] at HLi3
      obtain ⟨G, hG⟩ : ∃ G, PL true [] (left T i T.size) = G := ⟨_, rfl⟩
      rw [hG] at HLi3
      have HGq := Lib.hid hG
      clear hG
      cases G with
      | bad r =>
       have HRs4 : Hid (Rd.bad r = Res) := Lib.hid (by
        have h1 := HRsW.out
        rw [WL_unf, HGq.out] at h1
        have h2 := HRs3.out
        rw [← h1] at h2
        exact h2)
       go_upto_region 27 with fail
       refine wp_region_seqP (fun ch w' => ch = [{ v := .iface rBadTy (.agg #[.int .i64 (posF T r)]), recovered := false }] ∧ Side b w w') (fun W => W.cell? ⟨pb, 4, none⟩ = some (.slice wa ws.length wc2)) 9 [(0, true), (1, true), (2, true), (3, true), (4, true), (5, false), (6, false), (7, false), (8, true), (9, false)] (by as_aux_lemma => kernel_rfl) (by as_aux_lemma => kernel_rfl) (by as_aux_lemma => kernel_rfl) (by decide) (by as_aux_lemma => kernel_rfl) (by decide) c4 ?_ ?_
       ·rintro ch a' w' hdf ⟨rfl, hS⟩
        refine ⟨hdf, ?_⟩
        rw [← HRs4.out]
        exact ⟨rfl, hS⟩
       intro OPS HO
       refine seqT_take (o := ⟨_, _, _, _, _, _⟩) (v := ?_) (by rw [HO.out]; rfl) (by rfl) ?_ ?_
       rotate_left 1
       ·first | ((intro W _; go_simp) <;> with_reducible rfl) | (intro W hW; have s1 := hW; (go_simp <;> with_reducible rfl))
       try simp only [Act.put, List.setIfInBounds_toArray, List.set_cons_zero, List.set_cons_succ]
       refine seqT_take (o := ⟨_, _, _, _, _, _⟩) (v := ?_) (by rw [HO.out]; rfl) (by rfl) ?_ ?_
       rotate_left 1
       ·first | ((intro W _; go_simp) <;> with_reducible rfl) | (intro W hW; have s1 := hW; (go_simp <;> with_reducible rfl))
       try simp only [Act.put, List.setIfInBounds_toArray, List.set_cons_zero, List.set_cons_succ]
       refine seqT_take (o := ⟨_, _, _, _, _, _⟩) (v := ?_) (by rw [HO.out]; rfl) (by rfl) ?_ ?_
       rotate_left 1
       ·first | ((intro W _; go_simp) <;> with_reducible rfl) | (intro W hW; have s1 := hW; (go_simp <;> with_reducible rfl))
       try simp only [Act.put, List.setIfInBounds_toArray, List.set_cons_zero, List.set_cons_succ]
       refine seqT_take (o := ⟨_, _, _, _, _, _⟩) (v := ?_) (by rw [HO.out]; rfl) (by rfl) ?_ ?_
       rotate_left 1
       ·first | ((intro W _; go_simp) <;> with_reducible rfl) | (intro W hW; have s1 := hW; (go_simp <;> with_reducible rfl))
       try simp only [Act.put, List.setIfInBounds_toArray, List.set_cons_zero, List.set_cons_succ]
       refine seqT_take (o := ⟨_, _, _, _, _, _⟩) (v := ?_) (by rw [HO.out]; rfl) (by rfl) ?_ ?_
       rotate_left 1
       ·first | ((intro W _; go_simp) <;> with_reducible rfl) | (intro W hW; have s1 := hW; (go_simp <;> with_reducible rfl))
       try simp only [Act.put, List.setIfInBounds_toArray, List.set_cons_zero, List.set_cons_succ]
       refine seqT_do (o := ⟨_, _, _, _, _, _⟩) (by rw [HO.out]; rfl) (by rfl) (fun K hK => ?_)
       go_wp2_with (go_at_call 111; refine HLi3.out.mono ?_; rintro E w5 ⟨rfl, hS5⟩)
       exact ⟨rfl, rfl, (HL4.out.side.trans HSi.out).trans ⟨hS5.os, hS5.tape, hS5.output, hS5.size, hS5.block⟩⟩
      | ok gps r =>
       have HLenW := Lib.hid (PL_len HGq.out)
       go_upto_region 27 with fail
       refine wp_region_seqP (fun _ _ => False) (fun W => W.cell? ⟨pb, 4, none⟩ = some (.slice wa ws.length wc2)) 9 [(0, true), (1, true), (2, true), (3, true), (4, true), (5, false), (6, false), (7, false), (8, true), (9, false)] (by as_aux_lemma => kernel_rfl) (by as_aux_lemma => kernel_rfl) (by as_aux_lemma => kernel_rfl) (by decide) (by as_aux_lemma => kernel_rfl) (by decide) c4 ?_ ?_
       ·intro _ _ _ _ h
        exact h.elim
       intro OPS HO
       refine seqT_take (o := ⟨_, _, _, _, _, _⟩) (v := ?_) (by rw [HO.out]; rfl) (by rfl) ?_ ?_
       rotate_left 1
       ·first | ((intro W _; go_simp) <;> with_reducible rfl) | (intro W hW; have s1 := hW; (go_simp <;> with_reducible rfl))
       try simp only [Act.put, List.setIfInBounds_toArray, List.set_cons_zero, List.set_cons_succ]
       refine seqT_take (o := ⟨_, _, _, _, _, _⟩) (v := ?_) (by rw [HO.out]; rfl) (by rfl) ?_ ?_
       rotate_left 1
       ·first | ((intro W _; go_simp) <;> with_reducible rfl) | (intro W hW; have s1 := hW; (go_simp <;> with_reducible rfl))
       try simp only [Act.put, List.setIfInBounds_toArray, List.set_cons_zero, List.set_cons_succ]
       refine seqT_take (o := ⟨_, _, _, _, _, _⟩) (v := ?_) (by rw [HO.out]; rfl) (by rfl) ?_ ?_
       rotate_left 1
       ·first | ((intro W _; go_simp) <;> with_reducible rfl) | (intro W hW; have s1 := hW; (go_simp <;> with_reducible rfl))
       try simp only [Act.put, List.setIfInBounds_toArray, List.set_cons_zero, List.set_cons_succ]
       refine seqT_take (o := ⟨_, _, _, _, _, _⟩) (v := ?_) (by rw [HO.out]; rfl) (by rfl) ?_ ?_
       rotate_left 1
       ·first | ((intro W _; go_simp) <;> with_reducible rfl) | (intro W hW; have s1 := hW; (go_simp <;> with_reducible rfl))
       try simp only [Act.put, List.setIfInBounds_toArray, List.set_cons_zero, List.set_cons_succ]
       refine seqT_take (o := ⟨_, _, _, _, _, _⟩) (v := ?_) (by rw [HO.out]; rfl) (by rfl) ?_ ?_
       rotate_left 1
       ·first | ((intro W _; go_simp) <;> with_reducible rfl) | (intro W hW; have s1 := hW; (go_simp <;> with_reducible rfl))
       try simp only [Act.put, List.setIfInBounds_toArray, List.set_cons_zero, List.set_cons_succ]
       refine seqT_do (o := ⟨_, _, _, _, _, _⟩) (by rw [HO.out]; rfl) (by rfl) (fun K hK => ?_)
       go_wp2_with (go_at_call 111; refine HLi3.out.mono ?_; rintro E w5 ⟨v5, k5, rfl, ⟨s5, rfl, hm5, hg5⟩, hR5, hk5, hl5, hS5⟩; have HR5 := Lib.hid hR5; have HL5 := Lib.hid hl5; have HM5 := Lib.hid hm5; have HG5 := Lib.hid hg5; have HS5 : Hid (Side b wr w5) := Lib.hid ⟨hS5.os, hS5.tape, hS5.output, hS5.size, hS5.block⟩; clear hR5 hl5 hm5 hg5 hS5)
       have HP5 := Lib.hid (BoxIs.side HPi.out HS5.out (by omega))
       have HW5 := Lib.hid (HWi.out.side HS5.out (by omega : b < pb + 1))
       have hN5 : pb + 1 ≤ w5.heap.size := Nat.le_trans hpx HS5.out.size
       have c5 := HP5.out.cell (j := 4) rfl
       have c5a := fun ob' => (BoxIs.under HP5.out (bAlloc (Below.refl _ _) ob')).cell (j := 4) rfl
       clear c4
       refine hK.out _ _ (fun _ => c5) ?_
       clear hK K
       try simp only [Act.put, List.setIfInBounds_toArray, List.set_cons_zero, List.set_cons_succ]
       refine seqT_do (o := ⟨_, _, _, _, _, _⟩) (by rw [HO.out]; rfl) (by rfl) (fun K hK => ?_)
       clear c5
       go_wp2_with fail
       refine hK.out _ _ (fun _ => (c5a _)) ?_
       clear hK K
       try simp only [Act.put, List.setIfInBounds_toArray, List.set_cons_zero, List.set_cons_succ]
       refine seqT_do (o := ⟨_, _, _, _, _, _⟩) (by rw [HO.out]; rfl) (by rfl) (fun K hK => ?_)
       have HBa := Lib.hid (bAlloc (Below.refl w5.heap.size w5) (.cells #[.slice s5.a s5.xs.length s5.c] lty))
       have hN5a : pb + 1 ≤ (w5.alloc (.cells #[.slice s5.a s5.xs.length s5.c] lty)).heap.size := Nat.le_trans hN5 HBa.out.size
       refine wpo_app elemLs (by decide) rfl (fun _ => rfl) (fun x v hv => by simp [lsCells] at hv; rw [hv]; rfl) (by decide) hN5a (HW5.out.own.under HBa.out) (by omega) s5 (BoxIs.new w5 _ _) (.tmp 129) (.tmp 134) rfl rfl rfl ?_
       intro g cap' w' hown' hgr hat hlt'
       have HW7 := Lib.hid ((HW5.out.under HBa.out).snoc (((HM5.out.mono (show pb + 1 ≤ wr.drew.heap.size from hpx)).same HBa.out.size (fun q hq => HBa.out.block q (HM5.out.fp q hq).2))) (fun q hq e => by
        have h1 := (HM5.out.fp q hq).1
        have h2 := (HWi.out.own.base q e).2.1
        have h3 : wr.drew.heap.size = wr.heap.size := rfl
        omega) hown' hgr hat)
       have HOff : Hid (∀ q, (Value.slice wa ws.length wc2).ownBlock = some q → pb + 1 ≤ q) := Lib.hid (fun q e => (HW5.out.own.base q e).1)
       have HBw : Hid (Below (pb + 1) w5 w') := Lib.hid ((HBa.out.mono hN5).grown hgr hN5a HOff.out)
       have HP7 : Hid (BoxIs w' pb (pWays wa ws.length wc2) party) := Lib.hid (BoxIs.low HP5.out HBw.out (Nat.lt_succ_self pb))
       have d1 := HP7.out.cell (j := 4) rfl
       have df := Lib.frozen_of_heap HP7.out 4
       clear hown' hgr hat hlt' c5a HBa hN5a
       refine hK.out _ _ (fun _ => d1) ?_
       clear hK K
       try simp only [Act.put, List.setIfInBounds_toArray, List.set_cons_zero, List.set_cons_succ]
       refine seqT_take (o := ⟨_, _, _, _, _, _⟩) (v := ?_) (by rw [HO.out]; rfl) (by rfl) ?_ ?_
       rotate_left 1
       ·first | ((intro W _; go_simp) <;> with_reducible rfl) | (intro W hW; have s1 := hW; (go_simp <;> with_reducible rfl))
       try simp only [Act.put, List.setIfInBounds_toArray, List.set_cons_zero, List.set_cons_succ]
       refine seqT_do (o := ⟨_, _, _, _, _, _⟩) (by rw [HO.out]; rfl) (by rfl) (fun K hK => ?_)
       go_wp2_with fail
       refine hK.out _ _ (fun h => absurd rfl h) ?_
       clear hK K
       try simp only [Act.put, List.setIfInBounds_toArray, List.set_cons_zero, List.set_cons_succ]
       refine seqP_done ?_
       have HPs : Hid (Side pb w' (w'.setCell ⟨pb, 4, none⟩ (.slice (some ⟨g, 0, none⟩) (ws.length + 1) cap'))) := Lib.hid ((Side.refl pb w').set 4 _)
       have HR8 : Hid (ReAt (w'.setCell ⟨pb, 4, none⟩ (.slice (some ⟨g, 0, none⟩) (ws.length + 1) cap')) b T k5) := Lib.hid (BoxIs.side (BoxIs.low HR5.out HBw.out (by omega)) HPs.out (by omega))
       have HS8 := Lib.hid ((((HSi.out.trans HS5.out).low HBw.out (by omega))).new HPs.out hwp)
       have HP8 : Hid (BoxIs (w'.setCell ⟨pb, 4, none⟩ (.slice (some ⟨g, 0, none⟩) (ws.length + 1) cap')) pb (pWays (some ⟨g, 0, none⟩) (ws.length + 1) cap') party) := Lib.hid (BoxIs.put HP7.out 4 _)
       have HW8 := Lib.hid (HW7.out.side HPs.out (Nat.lt_succ_self pb))
       clear d1 df HPs HW7 HP7 HOff HBw HP5 HR5 HW5 HM5 HWi HPi HRi HSi
       generalize w'.setCell _ _ = w8 at *
       have hki : i ≤ k5 := by
        have h1 := HLenW.out
        rw [← HL5.out, left_len (Nat.le_refl _), left_len (Nat.le_refl _)] at h1
        omega
       by_cases hlt5 : k5 < T.size
       rotate_left 1
       ·have HNil := Lib.hid (left_nil (T := T) (k := k5) (e := T.size) (by omega))
        have HRs4 : Hid (Rd.bad [] = Res) := Lib.hid (by
         have h1 := HRsW.out
         rw [WL_unf, HGq.out, ← HL5.out, HNil.out] at h1
         have h2 := HRs3.out
         rw [← h1] at h2
         exact h2)
        have HM8 := Lib.hid (HR8.out.peekE (by omega) (by omega))
        go_upto_region 29 with (go_at_call 162; refine HM8.out.mono ?_; rintro E w9 ⟨rfl, n9, rfl⟩)
        have HR9 := Lib.hid (HR8.out.drew n9)
        have HS9 := Lib.hid (HL4.out.side.trans (HS8.out.drew n9))
        clear HR8 HS8 HM8
        have x1 := HR9.out.cell (j := 1) rfl
        have HPo := Lib.hid (posF_left (T := T) (k := k5) hk5)
        generalize w8.drewN n9 = w9 at *
        go_wp2_with (go_at_call 163; refine (HF.out _ _).mono ?_; rintro E wz ⟨rfl, hwz⟩; subst wz)
        refine ⟨rfl, ?_⟩
        have hpo := HPo.out
        rw [HNil.out] at hpo
        rw [← HRs4.out]
        exact ⟨by rw [hpo], HS9.out⟩
       ·obtain ⟨c5, hc5⟩ : ∃ c5 : UInt8, T[k5]'(by omega) = c5 := ⟨_, rfl⟩
        have HLc5 := Lib.hid (left_cons hlt5 (Nat.le_refl _) c5 hc5)
        have HG6 : Hid (PL true [] (left T i T.size) = .ok gps (c5 :: left T (k5 + 1) T.size)) := Lib.hid (by rw [HGq.out, ← HL5.out, HLc5.out])
        have HWs : Hid ((ws ++ [s5]).map (fun s => gpL n s.xs) = ws.map (fun s => gpL n s.xs) ++ [gps]) := Lib.hid (by
         rw [List.map_append, List.map_cons, List.map_nil, HG5.out])
        have HM8 := Lib.hid (HR8.out.peek hlt5 (by omega) hc5)
        have hn0 : ¬ ((c5.toNat : Int) < 0) := by omega
        go_upto_region 30 with (go_at_call 162; refine HM8.out.mono ?_; rintro E w9 ⟨rfl, n9, rfl⟩)
        have HR9 := Lib.hid (HR8.out.drew n9)
        have HS9 := Lib.hid (HS8.out.drew n9)
        have HP9 : Hid (BoxIs (w8.drewN n9) pb (pWays (some ⟨g, 0, none⟩) (ws.length + 1) cap') party) := Lib.hid HP8.out
        have HW9 : Hid (WsAt n (pb + 1) (w8.drewN n9) (some ⟨g, 0, none⟩) cap' (ws ++ [s5])) := Lib.hid (HW8.out.under ⟨rfl, rfl, rfl, Nat.le_refl _, fun _ _ => rfl⟩)
        clear HR8 HS8 HP8 HW8 HM8 hn0
        generalize w8.drewN n9 = w9 at *
        have x1 := HR9.out.cell (j := 1) rfl
        have f1 := Lib.frozen_of_heap HR9.out 1
        have hsd : Side b w9 (w9.setCell ⟨b, 1, none⟩ (.int .i64 ((k5 : Int) + 1))) := (Side.refl b w9).set 1 _
        have HR10 : Hid (ReAt (w9.setCell ⟨b, 1, none⟩ (.int .i64 ((k5 : Int) + 1))) b T (k5 + 1)) := Lib.hid (HR9.out.step (k5 + 1))
        have HS10 := Lib.hid (HS9.out.trans hsd)
        have HP10 := Lib.hid (BoxIs.side HP9.out hsd (by omega))
        have HW10 := Lib.hid (HW9.out.side hsd (by omega))
        clear hsd
        go_upto_region 31 with fail
        clear x1 f1 HR9 HS9 HP9 HW9
        generalize w9.setCell _ _ = w10 at *
        have c0 := HR10.out.cell (j := 0) rfl
        have c1 := HR10.out.cell (j := 1) rfl
        have hsub : ((k5 : Int) + 1) - 1 = (k5 : Int) := by omega
        have hk50 : (0 : Int) ≤ (k5 : Int) := by omega
        have hk51 : (k5 : Int) < (T.size : Int) := by omega
        have e125 := u8_eq c5 125
        change ((c5.toNat : Int) == 125) = _ at e125
        cases h125 : (c5 == 125)
        ·rw [h125] at e125
         have HRsW2 : Hid (WL ((ws ++ [s5]).map (fun s => gpL n s.xs)) (left T (k5 + 1) T.size) = ResW) := Lib.hid (by
          have h1 := HRsW.out
          rcases WL_go (ws := ws.map (fun s => gpL n s.xs)) HG6.out with ⟨h, _⟩ | ⟨_, h⟩
          ·rw [h] at h125
           cases h125
          ·rw [h] at h1
           rw [HWs.out]
           exact h1)
         clear h125
         go_quiet (fail)
         have HR11 := Lib.hid (HR10.out.drew nq)
         have HS11 := Lib.hid (HS10.out.drew nq)
         have HP11 : Hid (BoxIs (w10.drewN nq) pb (pWays (some ⟨g, 0, none⟩) (ws ++ [s5]).length cap') party) := Lib.hid (by rw [List.length_append]; exact HP10.out)
         have HW11 : Hid (WsAt n (pb + 1) (w10.drewN nq) (some ⟨g, 0, none⟩) cap' (ws ++ [s5])) := Lib.hid (HW10.out.under ⟨rfl, rfl, rfl, Nat.le_refl _, fun _ _ => rfl⟩)
         clear c0 c1 HR10 HS10 HP10 HW10
         go_wp2_with fail
         go_roundg (T.size - (k5 + 1))
         case measure => omega
         case rel => exact ⟨k5 + 1, some ⟨g, 0, none⟩, cap', ws ++ [s5], by omega, by omega, by omega, by rw [List.length_append]; simp; omega, HR11, HS11, HP11, HW11, HRsW2⟩
        ·rw [h125] at e125
         have HRs4 : Hid (PL dd (gpL (n + 1) xs ++ [.ways ((ws ++ [s5]).map (fun s => gpL n s.xs))]) (left T (k5 + 1) T.size) = Res) := Lib.hid (by
          have h1 := HRsW.out
          rcases WL_go (ws := ws.map (fun s => gpL n s.xs)) HG6.out with ⟨_, h⟩ | ⟨h, _⟩
          ·rw [h, ← HWs.out] at h1
           have h2 := HRs3.out
           rw [← h1] at h2
           exact h2
          ·exact absurd (by simpa using h125) h)
         clear h125 HRs3 HRsW HGq HG6
         go_quiet (fail)
         have HR11 := Lib.hid (HR10.out.drew nq)
         have HS11 := Lib.hid (HS10.out.drew nq)
         have HP11 : Hid (BoxIs (w10.drewN nq) pb (pWays (some ⟨g, 0, none⟩) (ws.length + 1) cap') party) := Lib.hid HP10.out
         have HW11 : Hid (WsAt n (pb + 1) (w10.drewN nq) (some ⟨g, 0, none⟩) cap' (ws ++ [s5])) := Lib.hid (HW10.out.under ⟨rfl, rfl, rfl, Nat.le_refl _, fun _ _ => rfl⟩)
         clear c0 c1 HR10 HS10 HP10 HW10
         generalize w10.drewN nq = w11 at *
         have HL11 := Lib.hid (HL4.out.call hbo HS11.out (by omega : j + 1 ≤ k5 + 1) HR11.out)
         have HMw := Lib.hid (ways_made HW11.out)
         have HBx := Lib.hid (bAlloc (Below.refl w11.heap.size w11) (.cells (pWays (some ⟨g, 0, none⟩) (ws.length + 1) cap') party))
         have HXx := Lib.hid (BoxIs.new w11 (pWays (some ⟨g, 0, none⟩) (ws.length + 1) cap') party)
         have HLx := Lib.hid (HL11.out.under HBx.out)
         have HMx := Lib.hid ((HMw.out.mono (by omega : ob + 1 ≤ pb + 1)).same HBx.out.size (fun q hq => HBx.out.block q (HMw.out.fp q hq).2))
         have c0 := HL11.out.out.cell (j := 0) rfl
         have p0 := HP11.out.cell (j := 0) rfl
         have p1 := HP11.out.cell (j := 1) rfl
         have p2 := HP11.out.cell (j := 2) rfl
         have p3 := HP11.out.cell (j := 3) rfl
         have p4 := HP11.out.cell (j := 4) rfl
         have HWl : Hid ((ws ++ [s5]).length = ws.length + 1) := Lib.hid (by simp)
         have HXx2 : Hid (BoxIs (w11.alloc (.cells (pWays (some ⟨g, 0, none⟩) (ws.length + 1) cap') party)) w11.heap.size (partCells (n + 1) (mkP n 6 ⟨#[]⟩ false ⟨none, 0, []⟩ ⟨some ⟨g, 0, none⟩, cap', ws ++ [s5]⟩)).toArray party) := Lib.hid (by
          have e : (partCells (n + 1) (mkP n 6 ⟨#[]⟩ false ⟨none, 0, []⟩ ⟨some ⟨g, 0, none⟩, cap', ws ++ [s5]⟩)).toArray = pWays (some ⟨g, 0, none⟩) (ws.length + 1) cap' := by
           show #[Value.int .i64 6, .string ⟨#[]⟩, .bool false, .slice none 0 0, .slice (some ⟨g, 0, none⟩) (ws ++ [s5]).length cap'] = _
           rw [HWl.out]
          rw [e]
          exact HXx.out)
         go_upto_region 32 with fail
         go_wp2_with (at_builtin; refine wpl_app elemPt (by decide) rfl (partCells_len (n + 1)) (oneCells (n + 1)) (by decide) HLx.out.out.lt HLx.out.ls.own (by have := HLx.out.len; omega) (mkP n 6 ⟨#[]⟩ false ⟨none, 0, []⟩ ⟨some ⟨g, 0, none⟩, cap', ws ++ [s5]⟩) HXx2.out rfl (.tmp 164) (.tmp 166) rfl rfl rfl ?_)
         intro gx capx w' hown hgr hat hlt'
         have hsn := HLx.out.snoc hbo hwo (p := mkP n 6 ⟨#[]⟩ false ⟨none, 0, []⟩ ⟨some ⟨g, 0, none⟩, cap', ws ++ [s5]⟩) HMx.out (fun q hq e => by
          have h1 := (HMw.out.fp q hq).1
          have h2 := (HL4.out.ls.own.base q e).2.1
          omega) rfl (by omega) (j0 := j) (by omega) HLen.out hkj hown hgr (hat.imp id (fun e => by rw [e] <;> simp))
         have HX9 := Lib.hid hsn.1
         have HL9 := Lib.hid hsn.2
         clear hown hgr hat hlt' hsn c0 p0 p1 p2 p3 p4
         have c9 := HX9.out.cell (j := 0) rfl
         have f9 := Lib.frozen_of_heap HX9.out 0
         go_wp2_with fail
         go_roundg (T.size - (k5 + 1))
         case measure => omega
         case rel => exact ⟨k5 + 1, _, capx, xs ++ [mkP n 6 ⟨#[]⟩ false ⟨none, 0, []⟩ ⟨some ⟨g, 0, none⟩, cap', ws ++ [s5]⟩], by omega, by omega, by omega, HL9, Lib.hid (by
          unfold gpL
          rw [List.map_append, List.map_cons, List.map_nil]
          exact HRs4.out)⟩
    ·have HRs3 : Hid (PL dd (addT (gpL (n + 1) xs) c) (left T (j + 1) T.size) = Res) := Lib.hid ((go_text HSt2.out k0 k63 k42 k91 k123 k92).symm.trans HRs2.out)
     clear HRs2 HSt2
     subst hvc
     have f0 : ((c.toNat : Int) == 0) = false := by rw [byte_zero]; simpa using fun e => k0 (.inl e)
     have mk : ∀ m : UInt8, c ≠ m → ((c.toNat : Int) == (m.toNat : Int)) = false := fun m hm => by rw [u8_eq]; simpa using hm
     have f93 : ((c.toNat : Int) == 93) = false := mk 93 (fun e => k0 (.inr (.inl e)))
     have f125 : ((c.toNat : Int) == 125) = false := mk 125 (fun e => k0 (.inr (.inr e)))
     have f92 : ((c.toNat : Int) == 92) = false := mk 92 k92
     have f63 : ((c.toNat : Int) == 63) = false := mk 63 k63
     have f42 : ((c.toNat : Int) == 42) = false := mk 42 k42
     have f91 : ((c.toNat : Int) == 91) = false := mk 91 k91
     have f123 : ((c.toNat : Int) == 123) = false := mk 123 k123
     clear mk k0 k92 k63 k42 k91 k123
     have HTx := Lib.hid (rtext_any n (ob + 1) ob (j - k) c wc a cap xs HL3.out.out HL3.out.ls (Nat.lt_succ_self ob) HL3.out.out.lt (by have := HL3.out.len; omega) (by omega) HL3.out.txt)
     have hent := enters_text
     have hwx := wrap_byte c
     go_upto_region 5 with (go_at_call 161; refine HTx.out.mono ?_; intro E w5 ht; obtain ⟨rfl, a', cap', ys, hgp, hR5, hRL5⟩ := HL3.out.text hbo hwo ht (by omega); have HG5 := Lib.hid hgp; have HR5 := Lib.hid hR5; have HRL5 := Lib.hid hRL5; clear ht hgp hR5 hRL5)
     have x1 := HR5.out.cell (j := 1) rfl
     have f1 := Lib.frozen_of_heap HR5.out 1
     clear HTx hent hwx
     go_wp2_with fail
     go_roundg (T.size - (j + 1))
     case measure => omega
     case rel => exact ⟨j + 1, a', cap', ys, by omega, by omega, by omega, HRL5, Lib.hid (by rw [HG5.out]; exact HRs3.out)⟩
end Go.Proofs.YtfenmeacimfiaaaGreatDoor
namespace Go.Proofs.YtfenmeacimfiaaaGreatDoor
open Go.RowKit Wh.G

theorem rparts_all : ∀ n, RListOk n
 | 0 => by
  intro b T k d w h hk hs hd hn
  exact absurd hn (Nat.not_lt_zero _)
 | n + 1 => rparts_step rset_any n (rparts_all n)

theorem assert_fault (n : Int) (t : TypeId) (W : World) : (Instr.typeAssert (.iface rBadTy (.agg #[.int .i64 n])) t rBadTy true).run Tryz.prog W = .ok (.tuple #[.agg #[.int .i64 n], .bool true]) W := by
 kernel_rfl
theorem belowPut {z : Nat} {w w' : World} (h : Below z w w') {b : Nat} (hb : z ≤ b) (i : Nat) (v : Value) : Below z w (w'.setCell ⟨b, i, none⟩ v) :=
 ⟨h.os, h.tape, h.output, by simp [World.setCell]; exact h.size, fun k hk => (Below.heap_setCell _ _ _ _ (show k ≠ b by omega)).trans (h.block k hk)⟩
set_option maxHeartbeats 1000000 in
set_option maxRecDepth 100000 in
theorem rp1_idle (p q r : Addr) (w : World) :
  CallsD Tryz.prog 110 #[.pointer (some p), .pointer (some q), .pointer (some r)] .returning w fun e u' w' => e = .returned (.tuple #[]) ∧ u' = .returning ∧ w' = w := by
 refine callsD_of_wpS Tryz.func110 rfl fun c₀ cs hu => ?_
 simp only [Tryz.ntmps110, List.size_toArray, List.length_cons, List.length_nil, Nat.reduceAdd, Nat.reduceSub, Array.replicate_succ, Array.replicate_zero, List.push_toArray, List.append_toArray, List.nil_append, List.cons_append]
 apply wpS_seq
 apply wpS_region
 simp [wpOpsS, go_sem, recoverD, hu, Exit.thenS]
 refine wpS_of_wp ?_
 go_wp2_with fail
 cases c₀
 simp_all [bodyPostS, results, Tryz.results110]
set_option maxHeartbeats 1000000 in
set_option maxRecDepth 100000 in
theorem rp1_pan (la na oa z : Nat) (sv : Value) (m n : Int) (o : Bool) (older : List PanicEntry) (w : World) (hL : BoxIs w la #[sv] lty) (hN : BoxIs w na #[.int .i64 m] 3) (hO : BoxIs w oa #[.bool o] 4) (h1 : la ≠ na) (h2 : la ≠ oa) (h3 : na ≠ oa) (z1 : z ≤ la) (z2 : z ≤ na) (z3 : z ≤ oa) :
  CallsD Tryz.prog 110 #[.pointer (some ⟨la, 0, none⟩), .pointer (some ⟨na, 0, none⟩), .pointer (some ⟨oa, 0, none⟩)] (.panicking ({ v := .iface rBadTy (.agg #[.int .i64 n]), recovered := false } :: older)) w fun e u' w' =>
   e = .returned (.tuple #[]) ∧ u' = .panicking ({ v := .iface rBadTy (.agg #[.int .i64 n]), recovered := true } :: older) ∧ BoxIs w' la #[.slice none 0 0] lty ∧ BoxIs w' na #[.int .i64 n] 3 ∧ BoxIs w' oa #[.bool false] 4 ∧ Below z w w' := by
 refine callsD_of_wpS Tryz.func110 rfl fun c₀ cs hu => ?_
 simp only [Tryz.ntmps110, List.size_toArray, List.length_cons, List.length_nil, Nat.reduceAdd, Nat.reduceSub, Array.replicate_succ, Array.replicate_zero, List.push_toArray, List.append_toArray, List.nil_append, List.cons_append]
 apply wpS_seq
 apply wpS_region
 simp [wpOpsS, go_sem, recoverD, hu, Exit.thenS]
 refine wpS_of_wp ?_
 have hta := assert_fault n
 have HX := Lib.hid (BoxIs.new w #[.int .i64 n] rBadTy)
 have HB := Lib.hid (bAlloc (Below.refl w.heap.size w) (.cells #[.int .i64 n] rBadTy))
 have HL := Lib.hid (hL.under HB.out)
 have HN := Lib.hid (hN.under HB.out)
 have HO := Lib.hid (hO.under HB.out)
 have hll := hL.lt
 have hnl := hN.lt
 have hol := hO.lt
 clear hL hN hO
 obtain ⟨xb, hxb⟩ : ∃ xb, xb = w.heap.size := ⟨_, rfl⟩
 have HB2 : Hid (Below z w (w.alloc (.cells #[.int .i64 n] rBadTy))) := Lib.hid (HB.out.mono (by omega))
 rw [← hxb] at HX
 have hlx : la ≠ xb := by omega
 have hnx : na ≠ xb := by omega
 have hox : oa ≠ xb := by omega
 go_upto_region 5 with fail
 rw [← hxb]
 clear hxb HB
 generalize w.alloc _ = w1 at *
 have x0 := HX.out.cell (j := 0) rfl
 have l0 := HL.out.cell (j := 0) rfl
 have n0 := HN.out.cell (j := 0) rfl
 have o0 := HO.out.cell (j := 0) rfl
 have fl0 := Lib.frozen_of_heap HL.out 0
 have fn0 := Lib.frozen_of_heap HN.out 0
 have fo0 := Lib.frozen_of_heap HO.out 0
 go_region
 have HL2 := HL.out.put 0 (.slice none 0 0)
 have hs1 := (Side.refl la w1).set 0 (.slice none 0 0)
 have HN2 := (BoxIs.side HN.out hs1 (fun e => h1 e.symm)).put 0 (.int .i64 n)
 have HO2 := BoxIs.side HO.out hs1 (fun e => h2 e.symm)
 have HB3 := belowPut (belowPut (belowPut HB2.out z1 0 (.slice none 0 0)) z2 0 (.int .i64 n)) z3 0 (.bool false)
 generalize w1.setCell _ _ = w2 at *
 have hs2 := (Side.refl na w2).set 0 (.int .i64 n)
 have HL3 := BoxIs.side HL2 hs2 h1
 have HO3 := (BoxIs.side HO2 hs2 (fun e => h3 e.symm)).put 0 (.bool false)
 generalize w2.setCell _ _ = w3 at *
 have hs3 := (Side.refl oa w3).set 0 (.bool false)
 refine ⟨rfl, ⟨_, rfl, ⟨.tuple #[], ?_, rfl, rfl, ?_, ?_, ?_, ?_⟩⟩⟩
 ·simp [results, Tryz.results110]
 ·exact BoxIs.side HL3 (hs3.drew 1) h2
 ·exact BoxIs.side HN2 (hs3.drew 1) h3
 ·exact HO3
 ·exact ⟨HB3.os, HB3.tape, HB3.output, HB3.size, HB3.block⟩

/-- What readParts returns. -/
def RpPost (n z : Nat) (r : Sum (List GP) Nat) (v : Value) (w' : World) : Prop := match r with
 | .inl l => ∃ (s : Sl (P n)) (m : Int), v = .tuple #[.slice s.a s.xs.length s.c, .int .i64 m, .bool true] ∧ MadeL n z w' s ∧ gpL n s.xs = l
 | .inr m => ∃ (a : Option Addr) (N c : Nat), v = .tuple #[.slice a N c, .int .i64 m, .bool false]

set_option maxHeartbeats 4000000 in
set_option maxRecDepth 100000 in
theorem readParts_any (D : Nat) (T : ByteArray) (k : Nat) (w : World) (hk : k ≤ T.size) (hs : T.size ≤ 100000) (hD : T.size < D) :
  Calls Tryz.prog 50 #[.string T, .int .i64 k] w fun e w' => ∃ v, e = .returned v ∧ Below w.heap.size w w' ∧ RpPost D w.heap.size (readP (left T k T.size) T.size) v w' := by
 have hmf : ∀ (fn : Fn) (first cap : Array Value) (w : World), (Instr.makeFunc fn first cap).run Tryz.prog w = .ok (.func fn first cap) w := fun _ _ _ _ => rfl
 obtain ⟨R, hR⟩ : ∃ R, readP (left T k T.size) T.size = R := ⟨_, rfl⟩
 rw [hR]
 have HRv := Lib.hid hR
 clear hR
 go_enter_defers Tryz.func50, Tryz.ntmps50
 have HB := Lib.hid (box3 w #[.slice none 0 0] #[.int .i64 0] #[.bool false] lty 3 4)
 obtain ⟨la, hla⟩ : ∃ la, la = w.heap.size := ⟨_, rfl⟩
 obtain ⟨na, hna⟩ : ∃ na, na = w.heap.size + 1 := ⟨_, rfl⟩
 obtain ⟨oa, hoa⟩ : ∃ oa, oa = w.heap.size + 1 + 1 := ⟨_, rfl⟩
 obtain ⟨rb, hrb⟩ : ∃ rb, rb = w.heap.size + 1 + 1 + 1 := ⟨_, rfl⟩
 go_upto_region 2 with fail
 rw [← hoa, ← hna] at HB ⊢
 rw [← hla]
 generalize hw3 : ((w.alloc _).alloc _).alloc _ = w3 at *
 have hz3 : w3.heap.size = rb := by rw [← hw3, hrb]; simp
 clear hw3
 have hL0 := HB.out.1
 rw [← hla] at hL0
 have HB4 := Lib.hid (bAlloc (Below.refl w3.heap.size w3) (.cells #[.string T, .int .i64 k] rfTy))
 have HX4 := Lib.hid (BoxIs.new w3 #[.string T, .int .i64 k] rfTy)
 have HL := Lib.hid (hL0.under HB4.out)
 have HN := Lib.hid (HB.out.2.1.under HB4.out)
 have HO := Lib.hid (HB.out.2.2.1.under HB4.out)
 have HBw := Lib.hid (HB.out.2.2.2.trans (HB4.out.mono HB.out.2.2.2.size))
 go_upto_region 3 with fail
 rw [hz3] at HX4
 rw [← hrb]
 have hlr : la ≠ rb := by omega
 have hnr : na ≠ rb := by omega
 have hor : oa ≠ rb := by omega
 have hln : la ≠ na := by omega
 have hlo : la ≠ oa := by omega
 have hno : na ≠ oa := by omega
 have hwl : w.heap.size ≤ la := by omega
 have hwn : w.heap.size ≤ na := by omega
 have hwo : w.heap.size ≤ oa := by omega
 have hwr : w.heap.size ≤ rb := by omega
 clear hla hna hoa hrb hz3 HB HB4 hL0
 generalize w3.alloc _ = w4 at *
 have HLi : Hid (Calls Tryz.prog 111 #[.pointer (some ⟨rb, 0, none⟩), .int .i64 0] w4 (RePost rb T w4 (PL false [] (left T k T.size)) (ListVal D w4.heap.size))) := Lib.hid (rparts_all D rb T k 0 w4 HX4.out hk hs (by omega) (by rw [left_len (Nat.le_refl _)]; omega))
 have hwz := HBw.out.size
 obtain ⟨G, hG⟩ : ∃ G, PL false [] (left T k T.size) = G := ⟨_, rfl⟩
 rw [hG] at HLi
 have HG := Lib.hid hG
 clear hG
 cases G with
 | bad r =>
  have HRb : Hid (R = .inr (T.size - r.length)) := Lib.hid (by
   rw [← HRv.out]
   unfold readP
   rw [HG.out])
  go_wp2_with (go_at_call 111; refine HLi.out.mono ?_; rintro E w5 ⟨rfl, hS5⟩; have HB5 := Lib.hid (HBw.out.trans (hS5.below hwr hwz)); have HL5 := Lib.hid (BoxIs.side HL.out hS5 hlr); have HN5 := Lib.hid (BoxIs.side HN.out hS5 hnr); have HO5 := Lib.hid (BoxIs.side HO.out hS5 hor); clear hS5)
  refine leaves_cons (f := 110) (args := #[.pointer (some ⟨la, 0, none⟩), .pointer (some ⟨na, 0, none⟩), .pointer (some ⟨oa, 0, none⟩)]) (by simp) (by simp [go_sem]) ?_
  refine (rp1_pan la na oa w.heap.size _ 0 (posF T r) false [] _ HL5.out HN5.out HO5.out hln hlo hno hwl hwn hwo).mono ?_
  rintro e2 u' w'' ⟨rfl, rfl, hl, hn, ho, hbb⟩
  have q0 := hl.cell (j := 0) rfl
  have q1 := hn.cell (j := 0) rfl
  have q2 := ho.cell (j := 0) rfl
  have hfin := HB5.out.trans (hbb.mono (Nat.le_refl _))
  clear hl hn ho hbb
  simp [Leaves, settle, results, Tryz.results50, go_sem, q0, q1, q2]
  exact ⟨hfin, by rw [HRb.out]; exact ⟨none, 0, 0, rfl⟩⟩
 | ok gps r =>
  go_upto_region 4 with (go_at_call 111; refine HLi.out.mono ?_; rintro E w5 ⟨v5, k5, rfl, ⟨s5, rfl, hm5, hg5⟩, -, -, -, hS5⟩; have HM5 := Lib.hid hm5; have HG5 := Lib.hid hg5; have HB5 := Lib.hid (HBw.out.trans (hS5.below hwr hwz)); have HL5 := Lib.hid (BoxIs.side HL.out hS5 hlr); have HN5 := Lib.hid (BoxIs.side HN.out hS5 hnr); have HO5 := Lib.hid (BoxIs.side HO.out hS5 hor); clear hS5 hm5 hg5; have l0 := HL5.out.cell (j := 0) rfl; have fl := Lib.frozen_of_heap HL5.out 0)
  have hll := HL.out.lt
  have hnl := HN.out.lt
  have hol := HO.out.lt
  have hs6 := (Side.refl la w5).set 0 (.slice s5.a s5.xs.length s5.c)
  have HL6 := Lib.hid (HL5.out.put 0 (.slice s5.a s5.xs.length s5.c))
  have HN6 := Lib.hid (BoxIs.side HN5.out hs6 (fun e => hln e.symm))
  have HO6 := Lib.hid (BoxIs.side HO5.out hs6 (fun e => hlo e.symm))
  have HB6 := Lib.hid (belowPut HB5.out hwl 0 (.slice s5.a s5.xs.length s5.c))
  have HM6 := Lib.hid (HM5.out.same hs6.size (fun q hq => hs6.block q (HM5.out.fp q hq).2 (by have := (HM5.out.fp q hq).1; omega)))
  clear hs6 l0 fl HL5 HN5 HO5 HB5 HM5
  generalize w5.setCell _ _ = w6 at *
  obtain ⟨sa, sc, sxs⟩ := s5
  dsimp only at HL6 HM6 HG5 ⊢
  obtain ⟨N, hN⟩ : ∃ N, sxs.length = N := ⟨_, rfl⟩
  have HNl : Hid (gps.length = N) := Lib.hid (by rw [← HG5.out, List.length_map]; exact hN)
  rw [hN] at HL6
  have l0 := HL6.out.cell (j := 0) rfl
  have n0 := HN6.out.cell (j := 0) rfl
  have o0 := HO6.out.cell (j := 0) rfl
  have fl := Lib.frozen_of_heap HL6.out 0
  have fn := Lib.frozen_of_heap HN6.out 0
  have fo := Lib.frozen_of_heap HO6.out 0
  have hs7 := (Side.refl la w6).set 0 (.slice sa N sc)
  have HL7 := Lib.hid (HL6.out.put 0 (.slice sa N sc))
  have HN7 := Lib.hid ((BoxIs.side HN6.out hs7 (fun e => hln e.symm)).put 0 (.int .i64 T.size))
  have HO7 := Lib.hid (BoxIs.side HO6.out hs7 (fun e => hlo e.symm))
  have HB7 := Lib.hid (belowPut (belowPut (belowPut HB6.out hwl 0 (.slice sa N sc)) hwn 0 (.int .i64 T.size)) hwo 0 (.bool (decide ((0 : Int) < (N : Int)))))
  have HM7 := Lib.hid (HM6.out.same hs7.size (fun q hq => hs7.block q (HM6.out.fp q hq).2 (by have := (HM6.out.fp q hq).1; omega)))
  clear hs7
  rw [hN]
  have HT : Hid (N = 0 → R = .inr T.size) := Lib.hid (fun h0 => by
   rw [← HRv.out]
   unfold readP
   rw [HG.out, List.eq_nil_of_length_eq_zero (HNl.out.trans h0)])
  have HT2 : Hid (N ≠ 0 → R = .inl gps) := Lib.hid (fun h0 => by
   rw [← HRv.out]
   unfold readP
   rw [HG.out]
   cases hgp : gps with
   | nil => exact absurd (by rw [← HNl.out, hgp]; rfl) h0
   | cons p l => rfl)
  obtain ⟨okb, hokb⟩ : ∃ okb, decide (0 < N) = okb := ⟨_, rfl⟩
  have hok1 : decide ((0 : Int) < (N : Int)) = okb := by rw [← hokb]; exact decide_eq_decide.2 (by omega)
  rw [hok1] at HB7
  clear hok1
  go_wp2_with fail
  clear l0 n0 o0 fl fn fo
  have HO8 := Lib.hid (BoxIs.put (BoxIs.side HO7.out ((Side.refl na _).set 0 (.int .i64 T.size)) (fun e => hno e.symm)) 0 (.bool okb))
  have HL8 := Lib.hid (BoxIs.side (BoxIs.side HL7.out ((Side.refl na _).set 0 (.int .i64 T.size)) hln) ((Side.refl oa _).set 0 (.bool okb)) hlo)
  have HN8 := Lib.hid (BoxIs.side HN7.out ((Side.refl oa _).set 0 (.bool okb)) hno)
  have HM8 : Hid (MadeL D w.heap.size (((w6.setCell ⟨la, 0, none⟩ (.slice sa N sc)).setCell ⟨na, 0, none⟩ (.int .i64 T.size)).setCell ⟨oa, 0, none⟩ (.bool okb)) ⟨sa, sc, sxs⟩) := Lib.hid (by
   have hs8 := (Side.refl na (w6.setCell ⟨la, 0, none⟩ (.slice sa N sc))).set 0 (.int .i64 T.size)
   have hm8 := HM7.out.same hs8.size (fun q hq => hs8.block q (HM7.out.fp q hq).2 (by have := (HM7.out.fp q hq).1; omega))
   have hs9 := (Side.refl oa ((w6.setCell ⟨la, 0, none⟩ (.slice sa N sc)).setCell ⟨na, 0, none⟩ (.int .i64 T.size))).set 0 (.bool okb)
   exact (hm8.same hs9.size (fun q hq => hs9.block q (hm8.fp q hq).2 (by have := (hm8.fp q hq).1; omega))).mono hwz)
  clear HM7 HL7 HN7 HO7 HM6 HL6 HN6 HO6 HB6
  generalize ((World.setCell _ _ _).setCell _ _).setCell _ _ = w9 at *
  refine leaves_cons (f := 110) (args := #[.pointer (some ⟨la, 0, none⟩), .pointer (some ⟨na, 0, none⟩), .pointer (some ⟨oa, 0, none⟩)]) (by simp) (by simp [go_sem]) ?_
  refine (rp1_idle ⟨la, 0, none⟩ ⟨na, 0, none⟩ ⟨oa, 0, none⟩ _).mono ?_
  rintro e2 u' w'' ⟨rfl, rfl, rfl⟩
  have q0 : w''.cell? ⟨la, 0, none⟩ = some (.slice sa N sc) := HL8.out.cell (j := 0) rfl
  have q1 : w''.cell? ⟨na, 0, none⟩ = some (.int .i64 T.size) := HN8.out.cell (j := 0) rfl
  have q2 : w''.cell? ⟨oa, 0, none⟩ = some (.bool okb) := HO8.out.cell (j := 0) rfl
  simp [Leaves, settle, results, Tryz.results50, go_sem, q0, q1, q2]
  refine ⟨HB7.out, ?_⟩
  by_cases h0 : N = 0
  ·rw [HT.out h0]
   exact ⟨sa, N, sc, by rw [← hokb, h0]; rfl⟩
  ·rw [HT2.out h0]
   refine ⟨⟨sa, sc, sxs⟩, T.size, ?_, HM8.out, HG5.out⟩
   rw [← hokb, decide_eq_true (by omega), ← hN]

/-- Whether the last byte is a quoted one. -/
theorem quotedR_any (T : ByteArray) (w : World) (h0 : 0 < T.size) (hs : T.size ≤ 100000) :
  Calls Tryz.prog 49 #[.string T] w fun e w' => e = .returned (.bool (Wh.G.quoted T.data.toList)) ∧ w = w' := by
 rw [quoted_odd]
 exact quotedLast_any T w h0 (by omega)
end Go.Proofs.YtfenmeacimfiaaaGreatDoor
namespace Go.Proofs.YtfenmeacimfiaaaGreatDoor
open Go.RowKit Wh.G

/-- A glob as read up to now: the result's box. -/
structure PgAt (n ga : Nat) (w W : World) (rooted dirs : Bool) (s : Sl (P n)) : Prop where
 gl : BoxIs W ga (glV rooted dirs s.a s.xs.length s.c) glTy
 made : MadeL n (w.heap.size + 1) W s
 below : Below w.heap.size w W
theorem PgAt.under {n ga : Nat} {w W W' : World} {rooted dirs : Bool} {s : Sl (P n)} (h : PgAt n ga w W rooted dirs s) (hb : Below W.heap.size W W') : PgAt n ga w W' rooted dirs s :=
 ⟨h.gl.under hb, h.made.same hb.size (fun q hq => hb.block q (h.made.fp q hq).2), h.below.trans (hb.mono h.below.size)⟩
theorem MadeL.none (n z : Nat) (W : World) : MadeL n z W ⟨Option.none, 0, []⟩ :=
 ⟨⟨⟨.inl rfl, Nat.le_refl _, Nat.zero_le _⟩, fun q hq => by cases hq⟩, fun q hq => (by cases hq), fun k hk => by
  rcases hk with ⟨o, t, h⟩ | ⟨q, hq, _⟩
  ·cases h
  ·cases hq⟩
theorem MadeL.at {n z b i : Nat} {W : World} {s : Sl (P n)} {v : Value} (h : MadeL n z W s) (hb : b < z) : MadeL n z (W.setCell ⟨b, i, Option.none⟩ v) s :=
 h.side ((Side.refl b W).set i v) hb
theorem body_last1 {T : ByteArray} (h0 : 0 < T.size) : T.data.toList.getLast? = some (T[T.size - 1]'(by omega)) := by
 have h := Lib.data_getElem? T (T.size - 1) (by omega)
 rw [List.getLast?_eq_getElem?, ← Lib.size_eq]
 exact h
theorem body_ne {T : ByteArray} (h0 : 0 < T.size) : bodyOf T.data.toList ≠ [] ↔ (if rootOf T.data.toList then 1 else 0) < T.size := by
 rw [body_left h0]
 constructor
 ·intro h
  refine Nat.lt_of_not_le fun h2 => h (left_nil h2)
 ·intro h e
  have := left_len (T := T) (k := if rootOf T.data.toList then 1 else 0) (Nat.le_refl T.size)
  rw [e] at this
  simp only [List.length_nil] at this
  omega
/-- The same without the last byte. -/
theorem body_cut {T : ByteArray} {k0 n : Nat} (h0 : 0 < T.size) (hk0 : k0 = if rootOf T.data.toList then 1 else 0) (hn : T.size = n + 1) (hkn : k0 ≤ n) : (bodyOf T.data.toList).dropLast = left (T.extract 0 n) k0 (T.extract 0 n).size ∧ (T.extract 0 n).size = n := by
 have hz : (T.extract 0 n).size = n := by rw [ByteArray.size_extract]; omega
 refine ⟨?_, hz⟩
 rw [body_left h0, ← hk0, hn, left_last hkn (by omega), List.dropLast_concat, hz]
 unfold left
 rw [ext_left]
 unfold left
 rw [List.drop_zero, List.take_take, Nat.min_self]

set_option maxHeartbeats 4000000 in
set_option maxRecDepth 100000 in
theorem refParseGlob_any (dep : Nat) (T : ByteArray) (w : World) (hs : T.size ≤ maxLen) (hD : T.size < dep) :
  Calls Tryz.prog 13 #[.string T] w fun e w' => ∃ v, e = .returned v ∧ Below w.heap.size w w' ∧ PgPost dep w.heap.size T v w' := by
 unfold maxLen at hs
 obtain ⟨PP, hPP⟩ : ∃ PP, PgPost dep w.heap.size T = PP := ⟨_, rfl⟩
 rw [hPP]
 have HPP := Lib.hid hPP
 clear hPP
 by_cases h0 : T.size = 0
 ·have he : T.toList.isEmpty = true := by
   rw [Lib.toList_data, List.eq_nil_of_length_eq_zero ((Lib.size_eq T).symm.trans h0)]
   rfl
  have HFin : Hid (∀ w', PP (.tuple #[gl0, .int .i64 0, .int .i64 21]) w') := Lib.hid (fun w' => by
   rw [← HPP.out]
   unfold PgPost
   rw [if_pos h0])
  clear HPP hs h0
  have HB0 := Lib.hid (bAlloc (Below.refl w.heap.size w) (.cells (glV false false none 0 0) glTy))
  have HZ := Lib.hid (BoxIs.new w (glV false false none 0 0) glTy)
  go_enter Tryz.func13, Tryz.ntmps13
  go_upto_region 1 with fail
  obtain ⟨ga, hga⟩ : ∃ ga, ga = w.heap.size := ⟨_, rfl⟩
  rw [← hga]
  rw [← hga] at HZ
  have hwg : w.heap.size ≤ ga := by omega
  clear hga
  generalize w.alloc _ = w1 at *
  have g0 := HZ.out.cell (j := 0) rfl
  have g1 := HZ.out.cell (j := 1) rfl
  have g2 := HZ.out.cell (j := 2) rfl
  have f0 := Lib.frozen_of_heap HZ.out 0
  have f1 := Lib.frozen_of_heap HZ.out 1
  have f2 := Lib.frozen_of_heap HZ.out 2
  have HFn := Lib.hid (gl_put HZ.out (.bool false) (.bool false) (.slice none 0 0))
  go_wp2_with fail
  clear g0 g1 g2 f0 f1 f2
  generalize ((World.setCell _ _ _).setCell _ _).setCell _ _ = wf at *
  have d0 := HFn.out.1.cell (j := 0) rfl
  have d1 := HFn.out.1.cell (j := 1) rfl
  have d2 := HFn.out.1.cell (j := 2) rfl
  refine bodyPost_ret (v := .tuple #[gl0, .int .i64 0, .int .i64 21]) ?_ rfl ?_
  ·simp [results, Tryz.f13]
   go_simp
  ·exact ⟨_, rfl, HB0.out.trans (HFn.out.2.below hwg HB0.out.size), HFin.out _⟩
 have he : T.toList.isEmpty = false := by
  rw [Lib.toList_data]
  cases h : T.data.toList with
  | nil => exact absurd (by rw [Lib.size_eq, h]; rfl) h0
  | cons c r => rfl
 by_cases h200 : 200 < T.size
 ·have HFin : Hid (∀ w', PP (.tuple #[gl0, .int .i64 0, .int .i64 8]) w') := Lib.hid (fun w' => by
   rw [← HPP.out]
   unfold PgPost
   rw [if_neg h0, if_pos h200])
  have h200I : (200 : Int) < (T.size : Int) := by omega
  clear HPP h0 h200
  have HB0 := Lib.hid (bAlloc (Below.refl w.heap.size w) (.cells (glV false false none 0 0) glTy))
  have HZ := Lib.hid (BoxIs.new w (glV false false none 0 0) glTy)
  go_enter Tryz.func13, Tryz.ntmps13
  go_upto_region 1 with fail
  obtain ⟨ga, hga⟩ : ∃ ga, ga = w.heap.size := ⟨_, rfl⟩
  rw [← hga]
  rw [← hga] at HZ
  have hwg : w.heap.size ≤ ga := by omega
  clear hga
  generalize w.alloc _ = w1 at *
  have g0 := HZ.out.cell (j := 0) rfl
  have g1 := HZ.out.cell (j := 1) rfl
  have g2 := HZ.out.cell (j := 2) rfl
  have f0 := Lib.frozen_of_heap HZ.out 0
  have f1 := Lib.frozen_of_heap HZ.out 1
  have f2 := Lib.frozen_of_heap HZ.out 2
  have HFn := Lib.hid (gl_put HZ.out (.bool false) (.bool false) (.slice none 0 0))
  go_wp2_with fail
  clear g0 g1 g2 f0 f1 f2
  generalize ((World.setCell _ _ _).setCell _ _).setCell _ _ = wf at *
  have d0 := HFn.out.1.cell (j := 0) rfl
  have d1 := HFn.out.1.cell (j := 1) rfl
  have d2 := HFn.out.1.cell (j := 2) rfl
  refine bodyPost_ret (v := .tuple #[gl0, .int .i64 0, .int .i64 8]) ?_ rfl ?_
  ·simp [results, Tryz.f13]
   go_simp
  ·exact ⟨_, rfl, HB0.out.trans (HFn.out.2.below hwg HB0.out.size), HFin.out _⟩
 have h200I : ¬ (200 : Int) < (T.size : Int) := by omega
 have hT0 : 0 < T.size := by omega
 have hTm : T.size ≤ 200 := by omega
 -- what is read
 have HErr : Hid (∀ k w', readG T.data.toList = .err k → PP (.tuple #[gl0, .int .i64 k, .int .i64 9]) w') := Lib.hid (fun k w' h => by
  rw [← HPP.out]
  unfold PgPost
  rw [if_neg h0, if_neg h200, h])
 have HOk : Hid (∀ rooted dirs (s : Sl (P dep)) w', readG T.data.toList = .ok rooted dirs (gpL dep s.xs) → MadeL dep w.heap.size w' s → (ckG rooted dirs dep s.xs = 0 → PP (.tuple #[.agg (glV rooted dirs s.a s.xs.length s.c), .int .i64 0, .int .i64 0]) w') ∧ (ckG rooted dirs dep s.xs ≠ 0 → PP (.tuple #[gl0, .int .i64 0, .int .i64 (ckG rooted dirs dep s.xs)]) w')) := Lib.hid (fun rooted dirs s w' hr hm => by
  rw [← HPP.out]
  constructor
  ·intro h
   unfold PgPost
   rw [if_neg h0, if_neg h200, hr]
   exact ⟨s, hm, rfl, by rw [if_pos h]⟩
  ·intro h
   unfold PgPost
   rw [if_neg h0, if_neg h200, hr]
   exact ⟨s, hm, rfl, by rw [if_neg h]⟩)
 have HSz : Hid (∀ rooted dirs l, readG T.data.toList = .ok rooted dirs l → gL l ≤ 60000) := Lib.hid (fun rooted dirs l h => by
  have := readG_sz h
  rw [← Lib.size_eq] at this
  omega)
 clear HPP h0 h200 hs
 have HB0 := Lib.hid (bAlloc (Below.refl w.heap.size w) (.cells (glV false false none 0 0) glTy))
 have HZ := Lib.hid (BoxIs.new w (glV false false none 0 0) glTy)
 have HRR := Lib.hid (refR_eq T.data.toList)
 by_cases hss : T.data.toList = [47, 47]
 ·-- the text of two slashes
  have HE := Lib.hid (HErr.out 2 · (by rw [← HRR.out]; unfold refR; rw [if_pos hss]))
  have hT : T = ⟨#[47, 47]⟩ := by
   cases T with
   | mk d =>
    congr 1
    exact Array.toList_inj.1 hss
  clear hss HErr HOk HSz HRR
  subst hT
  go_enter Tryz.func13, Tryz.ntmps13
  go_upto_region 1 with fail
  obtain ⟨ga, hga⟩ : ∃ ga, ga = w.heap.size := ⟨_, rfl⟩
  rw [← hga]
  rw [← hga] at HZ
  have hwg : w.heap.size ≤ ga := by omega
  clear hga
  generalize w.alloc _ = w1 at *
  have g0 := HZ.out.cell (j := 0) rfl
  have f0 := Lib.frozen_of_heap HZ.out 0
  go_upto_region 8 with fail
  clear g0 f0
  have HZ2 : Hid (BoxIs (w1.setCell ⟨ga, 0, none⟩ (.bool true)) ga (glV true false none 0 0) glTy) := Lib.hid (HZ.out.put 0 (.bool true))
  have HB2 := Lib.hid (belowPut HB0.out hwg 0 (.bool true))
  generalize w1.setCell _ _ = w2 at *
  have g0 := HZ2.out.cell (j := 0) rfl
  have g1 := HZ2.out.cell (j := 1) rfl
  have g2 := HZ2.out.cell (j := 2) rfl
  have f0 := Lib.frozen_of_heap HZ2.out 0
  have f1 := Lib.frozen_of_heap HZ2.out 1
  have f2 := Lib.frozen_of_heap HZ2.out 2
  have HFn := Lib.hid (gl_put HZ2.out (.bool false) (.bool false) (.slice none 0 0))
  go_wp2_with fail
  clear g0 g1 g2 f0 f1 f2
  generalize ((World.setCell _ _ _).setCell _ _).setCell _ _ = wf at *
  have d0 := HFn.out.1.cell (j := 0) rfl
  have d1 := HFn.out.1.cell (j := 1) rfl
  have d2 := HFn.out.1.cell (j := 2) rfl
  refine bodyPost_ret (v := .tuple #[gl0, .int .i64 2, .int .i64 9]) ?_ rfl ?_
  ·simp [results, Tryz.f13]
   go_simp
  ·exact ⟨_, rfl, HB2.out.trans (HFn.out.2.below hwg HB2.out.size), HE.out _⟩
 obtain ⟨n, hn⟩ : ∃ n, T.size = n + 1 := ⟨T.size - 1, by omega⟩
 obtain ⟨rt, hrt⟩ : ∃ rt, rootOf T.data.toList = rt := ⟨_, rfl⟩
 obtain ⟨k0, hk0⟩ : ∃ k0, k0 = if rt then 1 else 0 := ⟨_, rfl⟩
 have hk01 : k0 ≤ 1 := by rw [hk0]; split <;> decide
 obtain ⟨sl, hsl⟩ : ∃ sl, slashR T.data.toList = sl := ⟨_, rfl⟩
 have HRg : Hid (readG T.data.toList = if sl = true then (match readP (bodyOf T.data.toList).dropLast (T.data.toList.length - 1) with | .inl l => GR.ok rt true l | .inr _ => refFull T.data.toList) else refFull T.data.toList) := Lib.hid (by
  rw [← HRR.out]
  unfold refR
  rw [if_neg hss, hsl, hrt]
  by_cases h : sl = true
  ·rw [if_pos h, if_pos h]
   cases readP (bodyOf T.data.toList).dropLast (T.data.toList.length - 1) <;> rfl
  ·rw [if_neg h, if_neg h])
 have HFull : Hid (refFull T.data.toList = match readP (left T k0 T.size) T.size with | .inl l => GR.ok rt false l | .inr k => .err k) := Lib.hid (by
  unfold refFull
  rw [body_left hT0, hrt, ← hk0, ← Lib.size_eq]
  cases readP (left T k0 T.size) T.size <;> rfl)
 have hsI : (T.toList == [47, 47]) = false := by rw [Lib.toList_data]; simpa using hss
 have hroot : rt = (T[0]'hT0 == 47) := by
  rw [← hrt]
  unfold rootOf
  have := Lib.data_getElem? T 0 hT0
  rw [List.head?_eq_getElem?, this]
  rfl
 obtain ⟨c0, hc0⟩ : ∃ c0 : UInt8, T[0]'hT0 = c0 := ⟨_, rfl⟩
 have hc0' : T[0] = c0 := hc0
 rw [hc0] at hroot
 have e47 := u8_eq c0 47
 change ((c0.toNat : Int) == 47) = _ at e47
 rw [← hroot] at e47
 have HSl := Lib.hid hsl
 have HK0 := Lib.hid hk0
 have HRt := Lib.hid hrt
 have HNn := Lib.hid hn
 have hT0I : (0 : Int) < (T.size : Int) := by omega
 clear hsl hk0 hrt hss hroot hn HRR
 go_enter Tryz.func13, Tryz.ntmps13
 go_upto_region 1 with fail
 obtain ⟨ga, hga⟩ : ∃ ga, ga = w.heap.size := ⟨_, rfl⟩
 rw [← hga]
 rw [← hga] at HZ
 have hwg : w.heap.size ≤ ga := by omega
 have hgw : ga < w.heap.size + 1 := by omega
 clear hga
 generalize w.alloc _ = w1 at *
 go_upto_if 23 with fail
 go_cut [5] (fun s5 wx => s5 = .int .i64 k0 ∧ Hid (BoxIs wx ga (glV rt false none 0 0) glTy) ∧ Hid (Below w.heap.size w wx))
 case first =>
  cases rt
  ·have hk : k0 = 0 := HK0.out
   subst hk
   go_wp2_with fail
   go_meet
   exact ⟨rfl, HZ, HB0⟩
  ·have hk : k0 = 1 := HK0.out
   subst hk
   have g0 := HZ.out.cell (j := 0) rfl
   have f0 := Lib.frozen_of_heap HZ.out 0
   have HZ2 : Hid (BoxIs (w1.setCell ⟨ga, 0, none⟩ (.bool true)) ga (glV true false none 0 0) glTy) := Lib.hid (HZ.out.put 0 (.bool true))
   have HB2 := Lib.hid (belowPut HB0.out hwg 0 (.bool true))
   go_wp2_with fail
   go_meet
   exact ⟨rfl, HZ2, HB2⟩
 case rest =>
  obtain ⟨rfl, HZ3, HB3⟩ := hcut
  clear HZ HB0 e47
  go_upto_region 12 with fail
  go_cut [44] (fun s44 wx => s44 = .bool sl ∧ Hid (BoxIs wx ga (glV rt false none 0 0) glTy) ∧ Hid (Below w.heap.size w wx))
  case first =>
   by_cases hkn : k0 < T.size
   ·have hknI : (k0 : Int) < (T.size : Int) := by omega
    obtain ⟨c, hc⟩ : ∃ c : UInt8, T[n]'(by have := HNn.out; omega) = c := ⟨_, rfl⟩
    have hlast : T.data.toList.getLast? = some c := by
     rw [body_last1 hT0]
     congr 1
     rw [← hc]
     congr 1
     have := HNn.out
     omega
    have hn1 : (T.size : Int) - 1 = (n : Int) := by have := HNn.out; omega
    have hn0 : (0 : Int) ≤ (n : Int) := by omega
    have hnT : (n : Int) < (T.size : Int) := by have := HNn.out; omega
    have e47 := u8_eq c 47
    change ((c.toNat : Int) == 47) = _ at e47
    have hslv : sl = ((c == 47) && !(Wh.G.quoted T.data.toList)) := by
     rw [← HSl.out]
     unfold slashR
     rw [hlast, decide_eq_true ((body_ne hT0).2 (by rw [HRt.out, ← HK0.out]; exact hkn)), Bool.true_and]
     rfl
    clear hlast
    have HQu := Lib.hid (fun W => quotedR_any T W hT0 (by omega))
    cases h47 : (c == 47)
    ·rw [h47] at e47 hslv
     have HN : Hid (sl = false) := Lib.hid hslv
     clear hslv h47
     go_wp2_with fail
     go_meet
     exact ⟨by rw [HN.out], HZ3, HB3⟩
    ·rw [h47] at e47 hslv
     obtain ⟨qb, hqb⟩ : ∃ qb, Wh.G.quoted T.data.toList = qb := ⟨_, rfl⟩
     rw [hqb] at hslv HQu
     have HN : Hid (sl = !qb) := Lib.hid (by rw [hslv]; rfl)
     clear hslv h47 hqb
     go_wp2_with (go_at_call 49; refine (HQu.out _).mono ?_; rintro E w9 ⟨rfl, hw9⟩; subst w9)
     go_meet
     exact ⟨by rw [HN.out], HZ3, HB3⟩
   ·have hknI : ¬ (k0 : Int) < (T.size : Int) := by omega
    have HN : Hid (sl = false) := Lib.hid (by
     rw [← HSl.out]
     unfold slashR
     rw [decide_eq_false (fun h => hkn (by have := (body_ne hT0).1 h; rw [HRt.out, ← HK0.out] at this; exact this))]
     rfl)
    go_wp2_with fail
    go_meet
    exact ⟨by rw [HN.out], HZ3, HB3⟩
  case rest =>
   obtain ⟨rfl, HZ4, HB4⟩ := hcut
   clear HZ3 HB3
   have HA4 : Hid (PgAt dep ga w wc rt false ⟨none, 0, []⟩) := Lib.hid ⟨HZ4.out, MadeL.none _ _ _, HB4.out⟩
   clear HZ4 HB4
   go_upto_if 44 with fail
   go_cut [] (fun wx => ∃ (D : Bool) (s : Sl (P dep)), Hid (PgAt dep ga w wx rt D s) ∧ Hid (D = true → readG T.data.toList = .ok rt true (gpL dep s.xs)) ∧ Hid (D = false → readG T.data.toList = refFull T.data.toList))
   case first =>
    cases sl
    ·have HR2 : Hid (readG T.data.toList = refFull T.data.toList) := Lib.hid (by
      have := HRg.out
      rw [if_neg (by decide)] at this
      exact this)
     go_wp2_with fail
     go_meet
     exact ⟨false, _, HA4, Lib.hid (fun h => by cases h), Lib.hid (fun _ => HR2.out)⟩
    ·have hkn : k0 ≤ n := by
      have h1 := HSl.out
      unfold slashR at h1
      rw [Bool.and_eq_true, Bool.and_eq_true] at h1
      have h2 := (body_ne hT0).1 (of_decide_eq_true h1.1.1)
      rw [HRt.out, ← HK0.out] at h2
      have := HNn.out
      omega
     have HCut := Lib.hid (body_cut hT0 (by rw [HRt.out]; exact HK0.out) HNn.out hkn)
     have HR2 : Hid (readG T.data.toList = (match readP (left (T.extract 0 n) k0 (T.extract 0 n).size) (T.extract 0 n).size with | .inl l => GR.ok rt true l | .inr _ => refFull T.data.toList)) := Lib.hid (by
      have h1 := HRg.out
      rw [if_pos rfl, HCut.out.1, ← Lib.size_eq, HNn.out, Nat.add_sub_cancel] at h1
      rw [h1, HCut.out.2])
     have HRp := Lib.hid (fun W => readParts_any dep (T.extract 0 n) k0 W (by rw [HCut.out.2]; exact hkn) (by rw [HCut.out.2]; have := HNn.out; omega) (by rw [HCut.out.2]; have := HNn.out; omega))
     obtain ⟨RP, hRP⟩ : ∃ RP, readP (left (T.extract 0 n) k0 (T.extract 0 n).size) (T.extract 0 n).size = RP := ⟨_, rfl⟩
     rw [hRP] at HR2 HRp
     have hn1 : (T.size : Int) - 1 = (n : Int) := by have := HNn.out; omega
     have hn0 : (0 : Int) ≤ (n : Int) := by omega
     have hnT : (n : Int) ≤ (T.size : Int) := by have := HNn.out; omega
     have HRp2 := Lib.hid (HRp.out wc)
     clear hRP
     cases RP with
     | inr m =>
      go_wp2_with (go_at_call 50; refine HRp2.out.mono ?_; rintro E w5 ⟨v5, rfl, hb5, a5, N5, c5, rfl⟩; have HA5 := Lib.hid (HA4.out.under hb5); clear hb5)
      go_meet
      exact ⟨false, _, HA5, Lib.hid (fun h => by cases h), Lib.hid (fun _ => HR2.out)⟩
     | inl l =>
      go_upto_region 15 with (go_at_call 50; refine HRp2.out.mono ?_; rintro E w5 ⟨v5, rfl, hb5, s5, m5, rfl, hm5, hg5⟩; have HA5 := Lib.hid (HA4.out.under hb5); have HM5 := Lib.hid (hm5.mono HA4.out.gl.lt); have HG5 := Lib.hid hg5; clear hb5 hm5 hg5)
      have g1 := HA5.out.gl.cell (j := 1) rfl
      have g2 := HA5.out.gl.cell (j := 2) rfl
      have f1 := Lib.frozen_of_heap HA5.out.gl 1
      have f2 := Lib.frozen_of_heap HA5.out.gl 2
      have HA6 : Hid (PgAt dep ga w ((w5.setCell ⟨ga, 1, none⟩ (.bool true)).setCell ⟨ga, 2, none⟩ (.slice s5.a s5.xs.length s5.c)) rt true s5) := Lib.hid ⟨(HA5.out.gl.put 1 (.bool true)).put 2 _, ((HM5.out.mono (by have := HA4.out.gl.lt; omega)).at (by omega)).at (by omega), belowPut (belowPut HA5.out.below hwg 1 _) hwg 2 _⟩
      go_wp2_with fail
      go_meet
      exact ⟨true, s5, HA6, Lib.hid (fun _ => by rw [HG5.out]; exact HR2.out), Lib.hid (fun h => by cases h)⟩
   case rest =>
    obtain ⟨D, s4, HA5, HT5, HF5⟩ := hcut
    clear HA4 HRg HSl
    have g1 := HA5.out.gl.cell (j := 1) rfl
    go_upto_if 61 with fail
    clear g1
    go_cut [] (fun wx => ∃ (D : Bool) (s : Sl (P dep)), Hid (PgAt dep ga w wx rt D s) ∧ Hid (readG T.data.toList = .ok rt D (gpL dep s.xs)))
    case first =>
     cases D
     ·have HR2 : Hid (readG T.data.toList = match readP (left T k0 T.size) T.size with | .inl l => GR.ok rt false l | .inr k => .err k) := Lib.hid ((HF5.out rfl).trans HFull.out)
      have HRp := Lib.hid (readParts_any dep T k0 wc (by omega) (by omega) hD)
      obtain ⟨RP, hRP⟩ : ∃ RP, readP (left T k0 T.size) T.size = RP := ⟨_, rfl⟩
      rw [hRP] at HR2 HRp
      clear hRP HF5 HT5
      cases RP with
      | inr m =>
       go_upto_region 19 with (go_at_call 50; refine HRp.out.mono ?_; rintro E w5 ⟨v5, rfl, hb5, a5, N5, c5, rfl⟩; have HA6 := Lib.hid (HA5.out.under hb5); clear hb5)
       have g0 := HA6.out.gl.cell (j := 0) rfl
       have g1 := HA6.out.gl.cell (j := 1) rfl
       have g2 := HA6.out.gl.cell (j := 2) rfl
       have f0 := Lib.frozen_of_heap HA6.out.gl 0
       have f1 := Lib.frozen_of_heap HA6.out.gl 1
       have f2 := Lib.frozen_of_heap HA6.out.gl 2
       have HFn := Lib.hid (gl_put HA6.out.gl (.bool false) (.bool false) (.slice none 0 0))
       go_wp2_with fail
       clear g0 g1 g2 f0 f1 f2
       generalize ((World.setCell _ _ _).setCell _ _).setCell _ _ = wf at *
       have d0 := HFn.out.1.cell (j := 0) rfl
       have d1 := HFn.out.1.cell (j := 1) rfl
       have d2 := HFn.out.1.cell (j := 2) rfl
       refine bodyPost_ret (v := .tuple #[gl0, .int .i64 m, .int .i64 9]) ?_ rfl ?_
       ·simp [results, Tryz.f13]
        go_simp
       ·exact ⟨_, rfl, HA6.out.below.trans (HFn.out.2.below hwg HA6.out.below.size), HErr.out m _ HR2.out⟩
      | inl l =>
       go_upto_region 20 with (go_at_call 50; refine HRp.out.mono ?_; rintro E w5 ⟨v5, rfl, hb5, s5, m5, rfl, hm5, hg5⟩; have HA6 := Lib.hid (HA5.out.under hb5); have HM5 := Lib.hid (hm5.mono HA5.out.gl.lt); have HG5 := Lib.hid hg5; clear hb5 hm5 hg5)
       have g2 := HA6.out.gl.cell (j := 2) rfl
       have f2 := Lib.frozen_of_heap HA6.out.gl 2
       have HA7 : Hid (PgAt dep ga w (w5.setCell ⟨ga, 2, none⟩ (.slice s5.a s5.xs.length s5.c)) rt false s5) := Lib.hid ⟨HA6.out.gl.put 2 _, (HM5.out.mono (by have := HA5.out.gl.lt; omega)).at (by omega), belowPut HA6.out.below hwg 2 _⟩
       go_wp2_with fail
       go_meet
       exact ⟨false, s5, HA7, Lib.hid (by rw [HG5.out]; exact HR2.out)⟩
     ·have HR2 := Lib.hid (HT5.out rfl)
      go_wp2_with fail
      go_meet
      exact ⟨true, s4, HA5, HR2⟩
    case rest =>
     clear HA5 HT5 HF5
     obtain ⟨D, s6, HA6, HRd⟩ := hcut
     have HCk := Lib.hid (refCheckGlob_any dep s6 rt D wc HA6.out.made.ok (by rw [szL_gp _ _ HA6.out.made.cl]; have := HSz.out _ _ _ HRd.out; omega))
     have HFin := Lib.hid (fun W (hm : MadeL dep w.heap.size W s6) => HOk.out rt D s6 W HRd.out hm)
     obtain ⟨ce, hce⟩ : ∃ ce, ckG rt D dep s6.xs = ce := ⟨_, rfl⟩
     rw [hce] at HCk HFin
     clear HErr HOk HSz HRd HFull
     have k0 := HA6.out.gl.cell (j := 0) rfl
     have k1 := HA6.out.gl.cell (j := 1) rfl
     have k2 := HA6.out.gl.cell (j := 2) rfl
     go_upto_region 22 with (go_at_call 14; refine HCk.out.mono ?_; rintro E w7 ⟨rfl, hB7⟩; have HA7 := Lib.hid (HA6.out.under hB7); clear hB7)
     clear k0 k1 k2 HA6
     by_cases hc0 : ce = 0
     ·subst hc0
      have g0 := HA7.out.gl.cell (j := 0) rfl
      have g1 := HA7.out.gl.cell (j := 1) rfl
      have g2 := HA7.out.gl.cell (j := 2) rfl
      have f0 := Lib.frozen_of_heap HA7.out.gl 0
      have f1 := Lib.frozen_of_heap HA7.out.gl 1
      have f2 := Lib.frozen_of_heap HA7.out.gl 2
      have HFn := Lib.hid (gl_put HA7.out.gl (.bool rt) (.bool D) (.slice s6.a s6.xs.length s6.c))
      go_wp2_with fail
      clear g0 g1 g2 f0 f1 f2
      generalize ((World.setCell _ _ _).setCell _ _).setCell _ _ = wf at *
      have d0 := HFn.out.1.cell (j := 0) rfl
      have d1 := HFn.out.1.cell (j := 1) rfl
      have d2 := HFn.out.1.cell (j := 2) rfl
      refine bodyPost_ret (v := .tuple #[.agg (glV rt D s6.a s6.xs.length s6.c), .int .i64 0, .int .i64 0]) ?_ rfl ?_
      ·simp [results, Tryz.f13]
       go_simp
      ·exact ⟨_, rfl, HA7.out.below.trans (HFn.out.2.below hwg HA7.out.below.size), (HFin.out wf ((HA7.out.made.side HFn.out.2 (by omega)).mono (by omega))).1 (by first | trivial | rfl)⟩
     ·have hz : (ce == 0) = false := by simpa using hc0
      have hz2 : (ce != 0) = true := by simpa using hc0
      have HC0 := Lib.hid hc0
      clear hc0
      have g0 := HA7.out.gl.cell (j := 0) rfl
      have g1 := HA7.out.gl.cell (j := 1) rfl
      have g2 := HA7.out.gl.cell (j := 2) rfl
      have f0 := Lib.frozen_of_heap HA7.out.gl 0
      have f1 := Lib.frozen_of_heap HA7.out.gl 1
      have f2 := Lib.frozen_of_heap HA7.out.gl 2
      have HFn := Lib.hid (gl_put HA7.out.gl (.bool false) (.bool false) (.slice none 0 0))
      go_wp2_with fail
      clear g0 g1 g2 f0 f1 f2
      generalize ((World.setCell _ _ _).setCell _ _).setCell _ _ = wf at *
      have d0 := HFn.out.1.cell (j := 0) rfl
      have d1 := HFn.out.1.cell (j := 1) rfl
      have d2 := HFn.out.1.cell (j := 2) rfl
      refine bodyPost_ret (v := .tuple #[gl0, .int .i64 0, .int .i64 ce]) ?_ rfl ?_
      ·simp [results, Tryz.f13]
       go_simp
      ·exact ⟨_, rfl, HA7.out.below.trans (HFn.out.2.below hwg HA7.out.below.size), (HFin.out wf ((HA7.out.made.side HFn.out.2 (by omega)).mono (by omega))).2 HC0.out⟩
end Go.Proofs.YtfenmeacimfiaaaGreatDoor
namespace Go.Proofs.YtfenmeacimfiaaaGreatDoor
open Go.RowKit Wh.G

theorem pg_both {n z1 z2 : Nat} {T : ByteArray} {v1 v2 : Value} {w1 w2 : World} (h1 : PgPost n z1 T v1 w1) (h2 : PgPost n z2 T v2 w2) (hT : T.size ≤ 200 → ∀ rooted dirs l, readG T.data.toList = .ok rooted dirs l → gL l ≤ 60000) :
  ∃ (rt D : Bool) (pl e : Int) (s t : Sl (P n)), v1 = .tuple #[.agg (glV rt D s.a s.xs.length s.c), .int .i64 pl, .int .i64 e] ∧ v2 = .tuple #[.agg (glV rt D t.a t.xs.length t.c), .int .i64 pl, .int .i64 e] ∧ SOk w1 n s ∧ SOk w2 n t ∧ SameL n n s.xs t.xs ∧ szL n s.xs ≤ 1048576 := by
 have none : ∀ (pl e : Int), v1 = .tuple #[gl0, .int .i64 pl, .int .i64 e] → v2 = .tuple #[gl0, .int .i64 pl, .int .i64 e] → ∃ (rt D : Bool) (pl e : Int) (s t : Sl (P n)), v1 = .tuple #[.agg (glV rt D s.a s.xs.length s.c), .int .i64 pl, .int .i64 e] ∧ v2 = .tuple #[.agg (glV rt D t.a t.xs.length t.c), .int .i64 pl, .int .i64 e] ∧ SOk w1 n s ∧ SOk w2 n t ∧ SameL n n s.xs t.xs ∧ szL n s.xs ≤ 1048576 := fun pl e k1 k2 =>
  ⟨false, false, pl, e, ⟨Option.none, 0, []⟩, ⟨Option.none, 0, []⟩, k1, k2, (MadeL.none n 0 w1).ok, (MadeL.none n 0 w2).ok, .nil, by rw [szL_gp n [] (fun q hq => by cases hq)]; exact Nat.zero_le _⟩
 unfold PgPost at h1 h2
 by_cases h0 : T.size = 0
 ·rw [if_pos h0] at h1 h2
  exact none _ _ h1 h2
 rw [if_neg h0] at h1 h2
 by_cases h200 : 200 < T.size
 ·rw [if_pos h200] at h1 h2
  exact none _ _ h1 h2
 rw [if_neg h200] at h1 h2
 cases hr : readG T.data.toList with
 | err k =>
  rw [hr] at h1 h2
  exact none _ _ h1 h2
 | ok rt D l =>
  rw [hr] at h1 h2
  obtain ⟨s, m1, g1, k1⟩ := h1
  obtain ⟨t, m2, g2, k2⟩ := h2
  have hsame : SameL n n s.xs t.xs := gpL_same m1.cl m2.cl (g1.trans g2.symm)
  have hck := ckG_same hsame rt D
  by_cases hc : ckG rt D n s.xs = 0
  ·rw [if_pos hc] at k1
   rw [if_pos (hck ▸ hc)] at k2
   refine ⟨rt, D, 0, 0, s, t, k1, k2, m1.ok, m2.ok, hsame, ?_⟩
   rw [szL_gp _ _ m1.cl, g1]
   have := hT (by omega) _ _ _ hr
   omega
  ·rw [if_neg hc] at k1
   rw [if_neg (fun h => hc (hck.trans h)), ← hck] at k2
   exact none _ _ k1 k2

theorem pg_one {n z : Nat} {T : ByteArray} {v : Value} {w : World} (h : PgPost n z T v w) : ∃ (rt D : Bool) (pl e : Int) (a : Option Addr) (N c : Nat), v = .tuple #[.agg #[.bool rt, .bool D, .slice a N c], .int .i64 pl, .int .i64 e] := by
 unfold PgPost at h
 split at h
 ·exact ⟨_, _, _, _, _, _, _, h⟩
 split at h
 ·exact ⟨_, _, _, _, _, _, _, h⟩
 split at h
 ·exact ⟨_, _, _, _, _, _, _, h⟩
 ·obtain ⟨s, _, _, k⟩ := h
  split at k
  ·exact ⟨_, _, _, _, _, _, _, k⟩
  ·exact ⟨_, _, _, _, _, _, _, k⟩
/-- Both have read the same. -/
theorem pg_two {n z1 z2 : Nat} {T : ByteArray} {w1 w2 : World} {rt D rt' D' : Bool} {pl e pl' e' : Int} {a a' : Option Addr} {N c N' c' : Nat}
  (h1 : PgPost n z1 T (.tuple #[.agg #[.bool rt, .bool D, .slice a N c], .int .i64 pl, .int .i64 e]) w1) (h2 : PgPost n z2 T (.tuple #[.agg #[.bool rt', .bool D', .slice a' N' c'], .int .i64 pl', .int .i64 e']) w2) (hT : T.size ≤ 200 → ∀ rooted dirs l, readG T.data.toList = .ok rooted dirs l → gL l ≤ 60000) :
  rt = rt' ∧ D = D' ∧ pl = pl' ∧ e = e' ∧ ∃ xs ys : List (P n), N = xs.length ∧ N' = ys.length ∧ SOk w1 n ⟨a, c, xs⟩ ∧ SOk w2 n ⟨a', c', ys⟩ ∧ SameL n n xs ys ∧ szL n xs ≤ 1048576 := by
 obtain ⟨r0, d0, p0, e0, s, t, k1, k2, h3, h4, h5, h6⟩ := pg_both h1 h2 hT
 obtain ⟨sa, sc, xs⟩ := s
 obtain ⟨ta, tc, ys⟩ := t
 simp only [Value.tuple.injEq, Array.mk.injEq, List.cons.injEq, Value.agg.injEq, Value.bool.injEq, Value.slice.injEq, Value.int.injEq, true_and, and_true] at k1 k2
 obtain ⟨⟨q1, q2, q3, q4, q5⟩, q6, q7⟩ := k1
 obtain ⟨⟨q1', q2', q3', q4', q5'⟩, q6', q7'⟩ := k2
 subst q1 q2 q3 q5 q6 q7 q1' q2' q3' q5' q6' q7'
 exact ⟨rfl, rfl, rfl, rfl, xs, ys, q4, q4', h3, h4, h5, h6⟩

set_option maxHeartbeats 2000000 in
set_option maxRecDepth 100000 in
theorem globParses_walk (T : ByteArray) (w : World) (hs : T.size ≤ maxLen) (hE : Env w) :
  Calls Tryz.prog 4 #[.string T] w (TrueP w) := by
 have HE := Lib.hid hE
 have HL := Lib.hid (landed_any w hE)
 have HSz : Hid (T.size ≤ 200 → ∀ rooted dirs l, readG T.data.toList = .ok rooted dirs l → gL l ≤ 60000) := Lib.hid (fun hT rooted dirs l h => by
  have := readG_sz h
  rw [← Lib.size_eq] at this
  omega)
 have HP := Lib.hid (fun W (hb : Below w.heap.size w W) => parseGlob_any (T.size + 1) T W hs (Nat.lt_succ_self _) (hE.under hb))
 have HR := Lib.hid (fun W => refParseGlob_any (T.size + 1) T W hs (Nat.lt_succ_self _))
 clear hE hs
 go_enter Tryz.func4, Tryz.ntmps4
 go_upto_region 3 with (go_at_call 8; refine HL.out.mono ?_; rintro e w2 ⟨rfl, hb2⟩; have HB2 := Lib.hid hb2; clear hb2)
 have HP2 := Lib.hid (HP.out w2 HB2.out)
 go_upto_region 4 with (go_at_call 12; refine HP2.out.mono ?_; rintro e w3 ⟨v3, rfl, hb3, hp3⟩; obtain ⟨rt, D, pl, er, a, N, c, rfl⟩ := pg_one hp3; have HB3 := Lib.hid (HB2.out.trans (hb3.mono HB2.out.size)); have HG3 := Lib.hid hp3; clear hb3 hp3)
 have HBa := Lib.hid (bAlloc (Below.refl w3.heap.size w3) (.cells #[.bool rt, .bool D, .slice a N c] glTy))
 have HX4 := Lib.hid (BoxIs.new w3 #[.bool rt, .bool D, .slice a N c] glTy)
 have HB4 := Lib.hid (HB3.out.trans (HBa.out.mono HB3.out.size))
 generalize w3.alloc _ = w4 at *
 have HR4 := Lib.hid (HR.out w4)
 go_upto_region 5 with (go_at_call 13; refine HR4.out.mono ?_; rintro e w5 ⟨v5, rfl, hb5, hp5⟩; obtain ⟨rt', D', pl', er', a', N', c', rfl⟩ := pg_one hp5; have HB5 := Lib.hid (HB4.out.trans (hb5.mono HB4.out.size)); have HX5 := Lib.hid (HX4.out.under hb5); have HBb := Lib.hid (bTrans HBa.out hb5); obtain ⟨e1, e2, e3, e4, xs, ys, e5, e6, h7, h8, h9, h10⟩ := pg_two HG3.out hp5 HSz.out; subst e1 e2 e3 e4; have HS7 := Lib.hid (h7.under (bTrans HBa.out hb5)); have HS8 := Lib.hid h8; have HSm := Lib.hid h9; have HLz := Lib.hid h10; have HN1 := Lib.hid e5; have HN2 := Lib.hid e6; clear hb5 hp5 h7 h8 h9 h10 e5 e6)
 have HAl : Hid (∀ W, Below w5.heap.size w5 W → Calls Tryz.prog 11 #[.iface 34 (.agg #[.bool rt, .bool D, .slice a N c]), .iface 34 (.agg #[.bool rt, .bool D, .slice a' N' c'])] W (TrueP W)) := Lib.hid (fun W hb => by
  rw [HN1.out, HN2.out]
  exact alikeGlob_any _ _ ⟨a, c, xs⟩ ⟨a', c', ys⟩ rt D W (HS7.out.under hb) (HS8.out.under hb) HSm.out)
 have HGp : Hid (∀ W, Below w5.heap.size w5 W → Calls Tryz.prog 5 #[.agg #[.bool rt, .bool D, .slice a N c]] W (TrueP W)) := Lib.hid (fun W hb => by
  rw [HN1.out]
  exact globPrints_walk _ ⟨a, c, xs⟩ rt D W (HE.out.under (HB5.out.trans (hb.mono HB5.out.size))) (HS7.out.under hb) HLz.out)
 have HBc := Lib.hid (bAlloc (Below.refl w5.heap.size w5) (.cells #[.bool rt, .bool D, .slice a' N' c'] glTy))
 have HY6 := Lib.hid (BoxIs.new w5 #[.bool rt, .bool D, .slice a' N' c'] glTy)
 have HX6 := Lib.hid (HX5.out.under HBc.out)
 clear HN1 HN2 HS7 HS8 HSm HLz HL HP HR HSz HG3 HP2 HR4
 generalize w5.alloc _ = w6 at *
 have c0 := HX6.out.cell (j := 0) rfl
 have c1 := HX6.out.cell (j := 1) rfl
 have c2 := HX6.out.cell (j := 2) rfl
 have k0 := HY6.out.cell (j := 0) rfl
 have k1 := HY6.out.cell (j := 1) rfl
 have k2 := HY6.out.cell (j := 2) rfl
 go_upto_region 7 with (go_at_call 11; refine (HAl.out _ HBc.out).mono ?_; rintro e w7 ⟨rfl, hb7⟩; have HB7 := Lib.hid (bTrans HBc.out hb7); have HX7 := Lib.hid (HX6.out.under hb7); clear hb7)
 clear c0 c1 c2 k0 k1 k2
 have c0 := HX7.out.cell (j := 0) rfl
 have c1 := HX7.out.cell (j := 1) rfl
 have c2 := HX7.out.cell (j := 2) rfl
 by_cases h0 : er = 0
 ·subst h0
  go_wp2_with (go_at_call 5; refine (HGp.out _ HB7.out).mono ?_; rintro e w8 ⟨rfl, hb8⟩)
  go_ret
  exact ⟨rfl, HB5.out.trans ((bTrans HB7.out hb8).mono HB5.out.size)⟩
 ·have hz : (er != 0) = true := by simpa using h0
  have hz2 : (er == 0) = false := by simpa using h0
  clear h0
  go_wp2_with fail
  go_ret
  exact ⟨rfl, HB5.out.trans (HB7.out.mono HB5.out.size)⟩
end Go.Proofs.YtfenmeacimfiaaaGreatDoor
