/-
  strings.Join; names.split, Parts, Join, Above.
-/
import Derived.Test.YtfenmeacimfiaaaGreatDoorRefPaths
namespace Go.Proofs.YtfenmeacimfiaaaGreatDoor
open Go.RowKit

theorem map_string_at {xs : List ByteArray} {k : Nat} {x : ByteArray} (h : xs[k]? = some x) : (xs.map Value.string)[k]? = some (.string x) := by simp [h]

/-- strings.Join of a slice that holds texts. -/
theorem join_any (a : Option Addr) (c : Nat) (xs : List ByteArray) (sep : ByteArray) (w : World) (hH : Holds w a (xs.map Value.string)) (hc : xs.length ≤ c) (hN : xs.length ≤ 140737488355328)
    (hlen : (Lib.join (xs.map (·.data.toList)) sep.data.toList).length ≤ 140737488355328) :
    Calls Tryz.prog 169 #[.slice a xs.length c, .string sep] w fun e w' => e = .returned (.string ⟨(Lib.join (xs.map (·.data.toList)) sep.data.toList).toArray⟩) ∧ Below w.heap.size w w' := by
  rcases hH with h | ⟨b, off, rfl, hb, hcell⟩
  · obtain rfl : xs = [] := by simpa using h
    refine (Tryz.strings_Join_none a c sep w).mono ?_
    rintro e w' ⟨rfl, rfl⟩
    exact ⟨rfl, Below.refl _ _⟩
  · exact Tryz.strings_Join b off c xs sep w (fun j x hj => hcell j _ (map_string_at hj)) hb hN hc hlen

/-- A slice of texts comes back. -/
def StrsPost (xs : List ByteArray) (w : World) (e : Ending) (w' : World) : Prop :=
  ∃ a c, e = .returned (.slice a xs.length c) ∧ xs.length ≤ c ∧ Holds w' a (xs.map Value.string) ∧ Below w.heap.size w w'

/-- A slice of texts comes back, and no error. -/
def PartsPost (xs : List ByteArray) (w : World) (e : Ending) (w' : World) : Prop :=
  ∃ a c, e = .returned (.tuple #[.slice a xs.length c, .int .i64 0]) ∧ xs.length ≤ c ∧ Holds w' a (xs.map Value.string) ∧ Below w.heap.size w w'

end Go.Proofs.YtfenmeacimfiaaaGreatDoor
