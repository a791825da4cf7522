/-
  The closed facts of the row of MountChecks, one by one.
-/
import Derived.Test.YtiliijiohmeagaaGreatDoorRow
namespace Go.Proofs.YtiliijiohmeagaaGreatDoor.mountChecks
open Go.ChangeShapes Go.WideShapes Go.ChangeAt Go.RowKit
set_option maxHeartbeats 400000000 in
set_option maxRecDepth 100000 in
theorem joined : joinedFacts Tryz.pinned.checked.prog 3 Tryz.f3 (OpenSpec.ofChange Rows.mountChecksSpec).bare Rows.mountChecksRow = true := by
  unfold joinedFacts
  repeat' (with_reducible refine Bool.and_eq_true_iff.2 ⟨?_, ?_⟩)
  all_goals (as_aux_lemma => kernel_rfl)

end Go.Proofs.YtiliijiohmeagaaGreatDoor.mountChecks
