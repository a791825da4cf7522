/-
  newPair.
-/
import Derived.Test.YtiliijiohmeagaaGreatDoorMnt3
namespace Go.Proofs.YtiliijiohmeagaaGreatDoor
open Go.RowKit

theorem drB {B : Nat} {a b : World} (h : Below B a b) : Below B a b.drew := ⟨h.os, h.tape, h.output, h.size, h.block⟩

/-- A pair whose store holds its features. -/
def PairPost (f : Wh.Feat) (w : World) (e : Ending) (w' : World) : Prop :=
  ∃ p m, e = .returned (.pointer (some ⟨p, 0, none⟩)) ∧ p < w'.heap.size ∧ w'.cell? ⟨p, 0, none⟩ = some (.pointer (some ⟨m, 0, none⟩)) ∧ FeatBox w' m f ∧ Below w.heap.size w w'

set_option maxHeartbeats 4000000 in
set_option maxRecDepth 100000 in
theorem newPair_any (f : Wh.Feat) (hf : FeatOk f) (h0 : Wh.featErr f = 0) (cb : Nat) (w : World) (hcb : cb < w.heap.size) (hc : w.cell? ⟨cb, 0, none⟩ = some (.int .i64 5)) :
    Calls Tryz.prog 11 #[featVal f, .pointer (some ⟨cb, 0, none⟩), .slice none 0 0] w (PairPost f w) := by
  have hb1 : Below w.heap.size w (w.alloc (featObj f)) := bAlloc (Below.refl _ _) _
  have HB := Lib.hid (featBox_new w f)
  have HN := Lib.hid (fun W => new_nil f hf ⟨cb, 0, none⟩ W h0)
  have HC := Lib.hid (fun W (hb : Below w.heap.size w W) => now5_any cb W ((hb.cell (p := ⟨cb, 0, none⟩) hcb).trans hc))
  have HD := Lib.hid (fun W => newDisk_any f W)
  clear hf h0 hc hcb
  unfold featVal featObj at *
  go_enter Tryz.func11, Tryz.ntmps11
  go_upto_region 1 with fail
  generalize w.alloc _ = w1 at *
  have HX := Lib.hid (fun W (hb : Below w1.heap.size w1 W) => HB.out.under hb)
  obtain ⟨k0, k1, k2, k3, k4, k5, k6, k7, k8, k9⟩ := HB.out
  go_upto_region 4 with (go_at_call 25; refine (HN.out _).mono ?_; rintro e w2 ⟨m, rfl, hm1, hm2, hFB, hb2⟩)
  have HF := Lib.hid (fun W (hb : Below w2.heap.size w2 W) => hFB.under hb)
  have hS : Below w2.heap.size w2 w2 := Below.refl _ _
  have hb12 := bTrans hb1 hb2
  have HX2 := Lib.hid (fun W (hb : Below w2.heap.size w2 W) => HX.out W (bTrans hb2 hb))
  clear k0 k1 k2 k3 k4 k5 k6 k7 k8 k9 HB HX hFB
  refine wp_region_seq (Below w2.heap.size w2) [(0, true), (1, true), (2, true), (4, true), (6, true), (3, false), (5, false), (7, true), (8, false), (9, true)] (by as_aux_lemma => kernel_rfl) (by as_aux_lemma => kernel_rfl) (by decide) (by as_aux_lemma => kernel_rfl) (drB hS) ?_
  intro OPS HO
  refine seq_take (o := ⟨_, _, _, _, _, _⟩) (v := ?_) (by rw [HO.out]; rfl) (by rfl) ?_ ?_
  rotate_left 1
  · first | ((intro W _; go_simp) <;> with_reducible rfl) | (intro W hW; obtain ⟨k0, k1, k2, k3, k4, k5, k6, k7, k8, k9⟩ := HX2.out _ hW; (go_simp <;> with_reducible rfl))
  try simp only [Act.put, List.setIfInBounds_toArray, List.set_cons_zero, List.set_cons_succ]
  refine seq_take (o := ⟨_, _, _, _, _, _⟩) (v := ?_) (by rw [HO.out]; rfl) (by rfl) ?_ ?_
  rotate_left 1
  · first | ((intro W _; go_simp) <;> with_reducible rfl) | (intro W hW; obtain ⟨k0, k1, k2, k3, k4, k5, k6, k7, k8, k9⟩ := HX2.out _ hW; (go_simp <;> with_reducible rfl))
  try simp only [Act.put, List.setIfInBounds_toArray, List.set_cons_zero, List.set_cons_succ]
  refine seq_take (o := ⟨_, _, _, _, _, _⟩) (v := ?_) (by rw [HO.out]; rfl) (by rfl) ?_ ?_
  rotate_left 1
  · first | ((intro W _; go_simp) <;> with_reducible rfl) | (intro W hW; obtain ⟨k0, k1, k2, k3, k4, k5, k6, k7, k8, k9⟩ := HX2.out _ hW; (go_simp <;> with_reducible rfl))
  try simp only [Act.put, List.setIfInBounds_toArray, List.set_cons_zero, List.set_cons_succ]
  refine seq_take (o := ⟨_, _, _, _, _, _⟩) (v := ?_) (by rw [HO.out]; rfl) (by rfl) ?_ ?_
  rotate_left 1
  · first | ((intro W _; go_simp) <;> with_reducible rfl) | (intro W hW; obtain ⟨k0, k1, k2, k3, k4, k5, k6, k7, k8, k9⟩ := HX2.out _ hW; (go_simp <;> with_reducible rfl))
  try simp only [Act.put, List.setIfInBounds_toArray, List.set_cons_zero, List.set_cons_succ]
  refine seq_take (o := ⟨_, _, _, _, _, _⟩) (v := ?_) (by rw [HO.out]; rfl) (by rfl) ?_ ?_
  rotate_left 1
  · first | ((intro W _; go_simp) <;> with_reducible rfl) | (intro W hW; obtain ⟨k0, k1, k2, k3, k4, k5, k6, k7, k8, k9⟩ := HX2.out _ hW; (go_simp <;> with_reducible rfl))
  try simp only [Act.put, List.setIfInBounds_toArray, List.set_cons_zero, List.set_cons_succ]
  refine seq_do (o := ⟨_, _, _, _, _, _⟩) (by rw [HO.out]; rfl) (by rfl) (fun K hK => ?_)
  replace hS := drB hS
  go_wp2_with (go_at_call 27; refine (HC.out _ (bTrans hb12 hS)).mono ?_; rintro e w3 ⟨rfl, hw3⟩; subst w3)
  refine hK.out _ _ hS (fun _ => ?_)
  clear hK K
  try simp only [Act.put, List.setIfInBounds_toArray, List.set_cons_zero, List.set_cons_succ]
  refine seq_do (o := ⟨_, _, _, _, _, _⟩) (by rw [HO.out]; rfl) (by rfl) (fun K hK => ?_)
  go_wp2_with (go_at_call 26; refine (HD.out _).mono ?_; rintro e w4 ⟨db, rfl, hb4⟩; replace hS := bTrans hS hb4; clear hb4)
  refine hK.out _ _ hS (fun _ => ?_)
  clear hK K
  try simp only [Act.put, List.setIfInBounds_toArray, List.set_cons_zero, List.set_cons_succ]
  refine seq_take (o := ⟨_, _, _, _, _, _⟩) (v := ?_) (by rw [HO.out]; rfl) (by rfl) ?_ ?_
  rotate_left 1
  · first | ((intro W _; go_simp) <;> with_reducible rfl) | (intro W hW; obtain ⟨k0, k1, k2, k3, k4, k5, k6, k7, k8, k9⟩ := HX2.out _ hW; (go_simp <;> with_reducible rfl))
  try simp only [Act.put, List.setIfInBounds_toArray, List.set_cons_zero, List.set_cons_succ]
  refine seq_do (o := ⟨_, _, _, _, _, _⟩) (by rw [HO.out]; rfl) (by rfl) (fun K hK => ?_)
  go_wp2_with fail
  have hS0 := hS
  replace hS := bAlloc hS (.cells #[Value.pointer (some ⟨m, 0, none⟩), Value.pointer (some ⟨db, 0, none⟩), Value.pointer (some ⟨cb, 0, none⟩)] 39)
  refine hK.out _ _ hS (fun _ => ?_)
  clear hK K
  try simp only [Act.put, List.setIfInBounds_toArray, List.set_cons_zero, List.set_cons_succ]
  refine seq_take (o := ⟨_, _, _, _, _, _⟩) (v := ?_) (by rw [HO.out]; rfl) (by rfl) ?_ ?_
  rotate_left 1
  · first | ((intro W _; go_simp) <;> with_reducible rfl) | (intro W hW; obtain ⟨k0, k1, k2, k3, k4, k5, k6, k7, k8, k9⟩ := HX2.out _ hW; (go_simp <;> with_reducible rfl))
  try simp only [Act.put, List.setIfInBounds_toArray, List.set_cons_zero, List.set_cons_succ]
  refine seq_done ?_
  go_wp2_with fail
  go_ret
  exact ⟨_, m, rfl, by simp, by rw [World.cell?_alloc_at _ _ _ _ rfl]; rfl, HF.out _ hS, bTrans hb12 hS⟩
end Go.Proofs.YtiliijiohmeagaaGreatDoor
