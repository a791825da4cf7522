/-
  The law PartsAreWhole: words on features and clocks.
-/
import Derived.Test.YtmafnjapailliaaGreatDoorMeD
import Derived.Test.YtmafnjapailliaaGreatDoorStoreFeat
import Derived.Test.YtmafnjapailliaaGreatDoorSmlG
import Derived.Test.YtmafnjapailliaaGreatDoorPaths
namespace Go.Proofs.YtmafnjapailliaaGreatDoor
open Go.RowKit Wh.Sha

/-- The features are right. -/
def BackB (r : Bool) (w : World) (e : Ending) (w' : World) : Prop := e = .returned (.bool r) ∧ Below w.heap.size w w'
set_option maxHeartbeats 2000000 in
set_option maxRecDepth 100000 in
theorem rightV_any (f : Wh.Feat) (hf : FeatOk f) (w : World) :
    Calls Tryz.prog 6 #[featVal f] w (BackB (Wh.featErr f == 0) w) := by
  unfold BackB
  have HC := Lib.hid (fun a W ha hH => refCheckFeat_any f hf a 0 5 W ha hH)
  have HB := Lib.hid (featBox_new w f)
  have hb1 : Below w.heap.size w (w.alloc (featObj f)) := bAlloc (Below.refl _ _) _
  clear hf
  generalize Wh.featErr f = E at *
  unfold featVal featObj at *
  go_enter Tryz.func6, Tryz.ntmps6
  go_upto_region 1 with fail
  generalize w.alloc _ = w1 at *
  obtain ⟨k0, k1, k2, k3, k4, k5, k6, k7, k8, k9⟩ := HB.out
  have HX := Lib.hid (fun W (hb : Below w1.heap.size w1 W) => HB.out.under hb)
  go_region_held3 (fun w' => w'.cell? ⟨w.heap.size, 0, none⟩ = some (.int .i64 f.has) ∧ w'.cell? ⟨w.heap.size, 1, none⟩ = some (.int .i64 f.sums) ∧ w'.cell? ⟨w.heap.size, 2, none⟩ = some (.int .i64 f.prec) ∧ w'.cell? ⟨w.heap.size, 3, none⟩ = some (.int .i64 f.maxName) ∧ w'.cell? ⟨w.heap.size, 4, none⟩ = some (.int .i64 f.maxPath) ∧ w'.cell? ⟨w.heap.size, 5, none⟩ = some (.int .i64 f.maxSize) ∧ w'.cell? ⟨w.heap.size, 6, none⟩ = some (.int .i64 f.page) ∧ w'.cell? ⟨w.heap.size, 7, none⟩ = some (.int .i64 f.partSize) ∧ w'.cell? ⟨w.heap.size, 8, none⟩ = some (.string f.forbid))
    (first | go_keep | exact (HX.out _ hbA).2 | exact (HX.out _ (bTrans hbA hb3)).2)
    (first | (go_at_call 22; refine (sumKinds_back _).mono ?_; rintro e w2 ⟨ka, rfl, hka, hkc, hb2⟩; have HKC := Lib.hid hkc; clear hkc; have hbA : Below w1.heap.size w1 w2 := ⟨hb2.os, hb2.tape, hb2.output, hb2.size, hb2.block⟩) | (go_at_call 21; refine (HC.out _ _ hka HKC.out).mono ?_; rintro e w3 ⟨rfl, hb3⟩))
  all_goals go_wp2_with fail
  all_goals go_ret
  all_goals exact ⟨rfl, bTrans (bTrans hb1 hbA) hb3⟩


def ClockPost (w : World) (e : Ending) (w' : World) : Prop := ∃ cb, e = .returned (.pointer (some ⟨cb, 0, none⟩)) ∧ BoxIs w' cb #[.int .i64 1000] 72 ∧ w.heap.size ≤ cb ∧ Below w.heap.size w w'
theorem newClockP_any (w : World) : Calls Tryz.prog 10 #[.int .i64 1000] w (ClockPost w) := by
  refine (newClockT_any w).mono ?_
  rintro e w' ⟨rfl, h1, h2⟩
  exact ⟨_, rfl, h1, Nat.le_refl _, h2⟩
abbrev pathA : ByteArray := ⟨#[97]⟩
theorem pathA_is : PathA pathA := ⟨rfl⟩
end Go.Proofs.YtmafnjapailliaaGreatDoor
