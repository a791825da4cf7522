/-
  strings.Join; names.split, Parts, Join, Above.
-/
import Derived.Test.YtiliijiohmeagaaGreatDoorRefPaths
namespace Go.Proofs.YtiliijiohmeagaaGreatDoor
open Go.RowKit

theorem map_string_at {xs : List ByteArray} {k : Nat} {x : ByteArray} (h : xs[k]? = some x) : (xs.map Value.string)[k]? = some (.string x) := by simp [h]

/-- A slice of texts comes back. -/
def StrsPost (xs : List ByteArray) (w : World) (e : Ending) (w' : World) : Prop :=
  ∃ a c, e = .returned (.slice a xs.length c) ∧ xs.length ≤ c ∧ Holds w' a (xs.map Value.string) ∧ Below w.heap.size w w'

/-- A slice of texts comes back, and no error. -/
def PartsPost (xs : List ByteArray) (w : World) (e : Ending) (w' : World) : Prop :=
  ∃ a c, e = .returned (.tuple #[.slice a xs.length c, .int .i64 0]) ∧ xs.length ≤ c ∧ Holds w' a (xs.map Value.string) ∧ Below w.heap.size w w'

end Go.Proofs.YtiliijiohmeagaaGreatDoor
