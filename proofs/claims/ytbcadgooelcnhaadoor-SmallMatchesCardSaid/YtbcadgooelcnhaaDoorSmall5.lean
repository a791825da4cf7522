/-
  The law SmallMatches, walked.
-/
import Derived.Test.YtbcadgooelcnhaaDoorSmall4
namespace Go.Proofs.YtbcadgooelcnhaaDoor
open Go.RowKit

set_option maxHeartbeats 1000000 in
theorem sumKinds_any (w : World) :
    Calls Tryd.prog 70 #[] w fun e w' => e = .returned (.slice (some ⟨w.heap.size, 0, none⟩) 5 5) ∧ w' = w.alloc (.cells #[.int .i64 1, .int .i64 2, .int .i64 3, .int .i64 4, .int .i64 5] 3) := by
  go_enter Tryd.func70, Tryd.ntmps70
  go_wp2_with fail
  go_ret
  exact ⟨rfl, rfl⟩

/-- A slice of the kinds comes back. -/
def KindsPost (w : World) (e : Ending) (w' : World) : Prop :=
  ∃ a, e = .returned (.slice (some ⟨a, 0, none⟩) 5 5) ∧ a < w'.heap.size ∧ (∀ (j : Nat) (n : Int), [1, 2, 3, 4, 5][j]? = some n → w'.cell? ⟨a, 0 + j, none⟩ = some (.int .i64 n)) ∧ Below w.heap.size w w'

theorem sumKinds_post (w : World) : Calls Tryd.prog 70 #[] w (KindsPost w) := by
  refine (sumKinds_any w).mono ?_
  rintro e w' ⟨rfl, rfl⟩
  refine ⟨_, rfl, by simp, fun j n hn => ?_, bAlloc (Below.refl _ _) _⟩
  rw [World.cell?_alloc_at _ _ _ _ rfl, Nat.zero_add]
  rcases j with _ | _ | _ | _ | _ | j <;> simp at hn <;> simp [hn]

set_option maxHeartbeats 2000000 in
set_option maxRecDepth 100000 in
theorem rightFeat_any (f : Wh.Feat) (hf : FeatOk f) (w : World) :
    Calls Tryd.prog 25 #[featVal f] w fun e w' => e = .returned (.bool (Wh.featErr f == 0)) ∧ Below w.heap.size w w' := by
  have HC := Lib.hid (fun a W ha hH => refCheckFeat_any f hf a 0 5 W ha hH)
  have HB := Lib.hid (featBox_new w f)
  have hb1 : Below w.heap.size w (w.alloc (featObj f)) := bAlloc (Below.refl _ _) _
  clear hf
  generalize Wh.featErr f = E at *
  unfold featVal featObj at *
  go_enter Tryd.func25, Tryd.ntmps25
  go_upto_region 1 with fail
  generalize w.alloc _ = w1 at *
  obtain ⟨k0, k1, k2, k3, k4, k5, k6, k7, k8, k9⟩ := HB.out
  have HX := Lib.hid (fun W (hb : Below w1.heap.size w1 W) => HB.out.under hb)
  go_region_held3 (fun w' => w'.cell? ⟨w.heap.size, 0, none⟩ = some (.int .i64 f.has) ∧ w'.cell? ⟨w.heap.size, 1, none⟩ = some (.int .i64 f.sums) ∧ w'.cell? ⟨w.heap.size, 2, none⟩ = some (.int .i64 f.prec) ∧ w'.cell? ⟨w.heap.size, 3, none⟩ = some (.int .i64 f.maxName) ∧ w'.cell? ⟨w.heap.size, 4, none⟩ = some (.int .i64 f.maxPath) ∧ w'.cell? ⟨w.heap.size, 5, none⟩ = some (.int .i64 f.maxSize) ∧ w'.cell? ⟨w.heap.size, 6, none⟩ = some (.int .i64 f.page) ∧ w'.cell? ⟨w.heap.size, 7, none⟩ = some (.int .i64 f.partSize) ∧ w'.cell? ⟨w.heap.size, 8, none⟩ = some (.string f.forbid))
    (first | go_keep | exact (HX.out _ hbA).2 | exact (HX.out _ (bTrans hbA hb3)).2)
    (first | (go_at_call 70; refine (sumKinds_post _).mono ?_; rintro e w2 ⟨ka, rfl, hka, hkc, hb2⟩; have HKC := Lib.hid hkc; clear hkc; have hbA : Below w1.heap.size w1 w2 := ⟨hb2.os, hb2.tape, hb2.output, hb2.size, hb2.block⟩) | (go_at_call 69; refine (HC.out _ _ hka HKC.out).mono ?_; rintro e w3 ⟨rfl, hb3⟩))
  all_goals go_wp2_with fail
  all_goals go_ret
  all_goals exact ⟨rfl, bTrans (bTrans hb1 hbA) hb3⟩
end Go.Proofs.YtbcadgooelcnhaaDoor
