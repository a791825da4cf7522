/-
  A block that is known whole.
-/
import Derived.Test.YtfenmeacimfiaaaGreatDoorBase
namespace Go.Proofs.YtfenmeacimfiaaaGreatDoor
open Go.RowKit

/-- A block that is known whole. -/
def BoxIs (w : World) (b : Nat) (vs : Array Value) (t : TypeId) : Prop := w.heap[b]? = some (.cells vs t (0, 0))
theorem BoxIs.new (w : World) (vs : Array Value) (t : TypeId) : BoxIs (w.alloc (.cells vs t)) w.heap.size vs t := heap_alloc_new w _
theorem BoxIs.lt {w : World} {b : Nat} {vs : Array Value} {t : TypeId} (h : BoxIs w b vs t) : b < w.heap.size := (Array.getElem?_eq_some_iff.1 h).1
theorem BoxIs.under {w w' : World} {b : Nat} {vs : Array Value} {t : TypeId} (h : BoxIs w b vs t) (hb : Below w.heap.size w w') : BoxIs w' b vs t := (hb.block b h.lt).trans h
theorem BoxIs.kept {w w' : World} {b : Nat} {vs : Array Value} {t e : TypeId} {k : Nat} (h : BoxIs w b vs t) (hk : Lib.OthersKept e (some k) w w') (hne : b ≠ k) (ht : t ≠ e) : BoxIs w' b vs t :=
  hk b _ h (by simpa using hne) (fun _ _ he => ht (by injection he))
theorem BoxIs.cell {w : World} {b : Nat} {vs : Array Value} {t : TypeId} (h : BoxIs w b vs t) {j : Nat} {u : Value} (hj : vs[j]? = some u) : w.cell? ⟨b, j, none⟩ = some u := by
  rw [Lib.cell_of_heap h]
  exact hj
end Go.Proofs.YtfenmeacimfiaaaGreatDoor
