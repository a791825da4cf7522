/-
  The reference's names and paths; slices.ContainsFunc over strings; names.check; the laws' pathError.
-/
import Derived.Test.YtikegddlbelfaaaGreatDoorPaths
namespace Go.Proofs.YtikegddlbelfaaaGreatDoor
open Go.RowKit

/-- A function value that answers a predicate of strings, in every later world. -/
def PredS (F : FuncId) (p : ByteArray → Bool) (xs : List ByteArray) (w : World) : Prop :=
  ∀ x ∈ xs, ∀ W, Below w.heap.size w W → Calls Tryz.prog F #[.string x] W fun e w' => e = .returned (.bool (p x)) ∧ Below W.heap.size W w'

/-- The place of the first element that a predicate takes. -/
def idxBy (p : ByteArray → Bool) (xs : List ByteArray) : Int := match xs.findIdx? p with
  | some i => i
  | none => -1

theorem idxBy_pos (p : ByteArray → Bool) (xs : List ByteArray) : decide (0 ≤ idxBy p xs) = xs.any p := by
  unfold idxBy
  cases h : xs.findIdx? p with
  | none =>
    rw [List.findIdx?_eq_none_iff] at h
    have : xs.any p = false := by rw [List.any_eq_false]; intro x hx; simp [h x hx]
    simp [this]
  | some i =>
    obtain ⟨hi, hp, _⟩ := List.findIdx?_eq_some_iff_getElem.1 h
    have : xs.any p = true := List.any_eq_true.2 ⟨xs[i], List.getElem_mem hi, hp⟩
    simp [this]

theorem holds_new (w : World) (t : TypeId) (xs : List ByteArray) : Holds (w.alloc (.cells (xs.map Value.string).toArray t)) (some ⟨w.heap.size, 0, none⟩) (xs.map Value.string) := by
  refine .inr ⟨w.heap.size, 0, rfl, by simp, fun j u hu => ?_⟩
  rw [List.getElem?_map] at hu
  cases hj : xs[j]? with
  | none => rw [hj] at hu; simp at hu
  | some x =>
    rw [hj] at hu
    simp at hu
    subst hu
    rw [Nat.zero_add]
    exact cell_of_new w t xs j x hj

end Go.Proofs.YtikegddlbelfaaaGreatDoor
