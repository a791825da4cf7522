/-
  A block that holds a part.
-/
import Derived.Test.YtnpcbcnclncniaaGreatDoorBoxIs
import Derived.Test.YtnpcbcnclncniaaGreatDoorGlob5
namespace Go.Proofs.YtnpcbcnclncniaaGreatDoor
open Go.RowKit

abbrev partArr {α : Type} (p : PartOf α) : Array Value := #[.int .i64 p.kind, .string p.text, .bool p.neg, .slice p.rg.a p.rg.xs.length p.rg.c, .slice p.ways.a p.ways.xs.length p.ways.c]
theorem BoxIs.part {α : Type} {w : World} {b : Nat} {p : PartOf α} {t : TypeId} (h : BoxIs w b (partArr p) t) : PartBox w b p := ⟨h.lt, h.cell rfl, h.cell rfl, h.cell rfl, h.cell rfl, h.cell rfl⟩
theorem BoxIs.pair {w : World} {b : Nat} {x y : Int} {t : TypeId} (h : BoxIs w b #[.int .i64 x, .int .i64 y] t) : PairBox w b x y := ⟨h.lt, h.cell rfl, h.cell rfl⟩

end Go.Proofs.YtnpcbcnclncniaaGreatDoor
