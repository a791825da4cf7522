/-
  A world for the witnesses that lays math's tables of sines too.
-/
import Derived.Test.YtiliijiohmeagaaGreatDoorRow
namespace Go.Proofs.YtiliijiohmeagaaGreatDoor
open Go.ChangeShapes Go.WideShapes Go.ChangeAt Go.RowKit

/-- A block's cells laid anew. -/
def layVals (cs : List Value) (o : Obj) : Obj := match o with
  | .cells _ t frozen => .cells cs.toArray t frozen
  | o => o

def litsOf : DataW Unit → List Value
  | .agg l => lits l
  | _ => []
where lits : List (DataW Unit) → List Value
  | .lit v :: r => v.value :: lits r
  | _ => []

/-- A world for the witnesses, with all that the row on mounts lists. -/
noncomputable def laidWorldM (os : Os) : World :=
  { laidWorld os with heap := ((((laidWorld os).heap.modify 9 (layVals (litsOf Rows.laid_math_sin))).modify 8 (layVals (litsOf Rows.laid_math_cos))).modify 10 (layVals (litsOf Rows.laid_math_mPi4))) }
end Go.Proofs.YtiliijiohmeagaaGreatDoor
