/-
  rightFeatures; the clock; the reference's NewDisk; newPair; the store's Features; mount.New.
-/
import Derived.Test.YtiliijiohmeagaaGreatDoorMnt1
import Derived.Test.YtiliijiohmeagaaGreatDoorMnt2
import Derived.Test.YtiliijiohmeagaaGreatDoorSeq
namespace Go.Proofs.YtiliijiohmeagaaGreatDoor
open Go.RowKit

set_option maxHeartbeats 2000000 in
set_option maxRecDepth 100000 in
theorem rightFeat_any (f : Wh.Feat) (hf : FeatOk f) (w : World) :
    Calls Tryz.prog 9 #[featVal f] w fun e w' => e = .returned (.bool (Wh.featErr f == 0)) ∧ Below w.heap.size w w' := by
  have HC := Lib.hid (fun a W ha hH => refCheckFeat_any f hf a 0 5 W ha hH)
  have HB := Lib.hid (featBox_new w f)
  have hb1 : Below w.heap.size w (w.alloc (featObj f)) := bAlloc (Below.refl _ _) _
  clear hf
  generalize Wh.featErr f = E at *
  unfold featVal featObj at *
  go_enter Tryz.func9, Tryz.ntmps9
  go_upto_region 1 with fail
  generalize w.alloc _ = w1 at *
  obtain ⟨k0, k1, k2, k3, k4, k5, k6, k7, k8, k9⟩ := HB.out
  have HX := Lib.hid (fun W (hb : Below w1.heap.size w1 W) => HB.out.under hb)
  go_region_held3 (fun w' => w'.cell? ⟨w.heap.size, 0, none⟩ = some (.int .i64 f.has) ∧ w'.cell? ⟨w.heap.size, 1, none⟩ = some (.int .i64 f.sums) ∧ w'.cell? ⟨w.heap.size, 2, none⟩ = some (.int .i64 f.prec) ∧ w'.cell? ⟨w.heap.size, 3, none⟩ = some (.int .i64 f.maxName) ∧ w'.cell? ⟨w.heap.size, 4, none⟩ = some (.int .i64 f.maxPath) ∧ w'.cell? ⟨w.heap.size, 5, none⟩ = some (.int .i64 f.maxSize) ∧ w'.cell? ⟨w.heap.size, 6, none⟩ = some (.int .i64 f.page) ∧ w'.cell? ⟨w.heap.size, 7, none⟩ = some (.int .i64 f.partSize) ∧ w'.cell? ⟨w.heap.size, 8, none⟩ = some (.string f.forbid))
    (first | go_keep | exact (HX.out _ hbA).2 | exact (HX.out _ (bTrans hbA hb3)).2)
    (first | (go_at_call 24; refine (sumKinds_back _).mono ?_; rintro e w2 ⟨ka, rfl, hka, hkc, hb2⟩; have HKC := Lib.hid hkc; clear hkc; have hbA : Below w1.heap.size w1 w2 := ⟨hb2.os, hb2.tape, hb2.output, hb2.size, hb2.block⟩) | (go_at_call 23; refine (HC.out _ _ hka HKC.out).mono ?_; rintro e w3 ⟨rfl, hb3⟩))
  all_goals go_wp2_with fail
  all_goals go_ret
  all_goals exact ⟨rfl, bTrans (bTrans hb1 hbA) hb3⟩

abbrev clockObj : Obj := .cells #[.int .i64 5] 64

set_option maxHeartbeats 1000000 in
theorem newClock5_is (w : World) :
    Calls Tryz.prog 10 #[.int .i64 5] w fun e w' => e = .returned (.pointer (some ⟨w.heap.size, 0, none⟩)) ∧ w' = w.alloc clockObj := by
  go_enter Tryz.func10, Tryz.ntmps10
  go_wp2
  go_ret
  exact ⟨rfl, rfl⟩

set_option maxHeartbeats 1000000 in
theorem now5_any (b : Nat) (w : World) (hc : w.cell? ⟨b, 0, none⟩ = some (.int .i64 5)) :
    Calls Tryz.prog 27 #[.pointer (some ⟨b, 0, none⟩)] w fun e w' => e = .returned (.int .i64 5) ∧ w' = w := by
  go_enter Tryz.func27, Tryz.ntmps27
  go_wp2
  go_ret
  exact ⟨rfl, rfl⟩

/-- A pointer to something new comes back. -/
def SomePtr (w : World) (e : Ending) (w' : World) : Prop := ∃ b, e = .returned (.pointer (some ⟨b, 0, none⟩)) ∧ Below w.heap.size w w'

set_option maxHeartbeats 2000000 in
set_option maxRecDepth 100000 in
theorem newDisk_any (f : Wh.Feat) (w : World) :
    Calls Tryz.prog 26 #[featVal f, .int .i64 5, .slice none 0 0, .func (.func 28) #[] #[]] w (SomePtr w) := by
  have hb1 : Below w.heap.size w (w.alloc (featObj f)) := bAlloc (Below.refl _ _) _
  have HB := Lib.hid (featBox_new w f)
  have hmm := @run_makeMap Tryz.prog
  unfold featVal
  go_enter Tryz.func26, Tryz.ntmps26
  go_upto_region 1 with fail
  unfold featObj at *
  generalize w.alloc _ = w1 at *
  obtain ⟨k0, k1, k2, k3, k4, k5, k6, k7, k8, k9⟩ := HB.out
  go_wp2_with fail
  go_ret
  exact ⟨_, rfl, bAlloc (bAlloc (bAlloc hb1 _) _) _⟩

set_option maxHeartbeats 2000000 in
set_option maxRecDepth 100000 in
theorem memFeatures_any (f : Wh.Feat) (b : Nat) (w : World) (hB : FeatBox w b f) :
    Calls Tryz.prog 274 #[.pointer (some ⟨b, 0, none⟩)] w fun e w' => e = .returned (featVal f) ∧ Below w.heap.size w w' := by
  obtain ⟨k0, k1, k2, k3, k4, k5, k6, k7, k8, k9⟩ := hB
  unfold featVal
  go_enter Tryz.func274, Tryz.ntmps274
  go_wp2_with fail
  try simp only [Exit.inBlock, Exit.then]
  refine bodyPost_ret (v := .agg #[.int .i64 f.has, .int .i64 f.sums, .int .i64 f.prec, .int .i64 f.maxName, .int .i64 f.maxPath, .int .i64 f.maxSize, .int .i64 f.page, .int .i64 f.partSize, .string f.forbid]) ?_ rfl ⟨rfl, bAlloc (Below.refl _ _) _⟩
  clear k0 k1 k2 k3 k4 k5 k6 k7 k8 k9
  simp [results, Tryz.f274]
  go_simp
end Go.Proofs.YtiliijiohmeagaaGreatDoor
