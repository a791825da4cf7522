/-
  Lists of faults: CheckFaults.
-/
import Derived.Test.YtiliijiohmeagaaGreatDoorFault
namespace Go.Proofs.YtiliijiohmeagaaGreatDoor
open Go.RowKit

theorem bne_false {a b : Int} (h : a = b) : (a != b) = false := by simp [h]
theorem bne_true {a b : Int} (h : ¬ a = b) : (a != b) = true := by simp [h]

theorem faultBox_new (w : World) (x : Wh.Fault) : FaultBox (w.alloc (.cells #[.int .i64 x.call, .int .i64 x.number, .int .i64 x.err, .int .i64 x.bytes] 257)) w.heap.size x := by
  refine ⟨by simp, ?_, ?_⟩ <;> (rw [World.cell?_alloc_at _ _ _ _ rfl]; rfl)

end Go.Proofs.YtiliijiohmeagaaGreatDoor
