/-
  DERIVED. GIVEN WITH THE SEED: THE CARDS: each row of YtchfhojighopkaaGreatDoorRows.lean that lists a variable, with what it lists TIED to the program's text (the seventh form; the later family's looks); each row that meets fmt, with fmt's text TOLD by the authors' own Lean function (tested against real Go, not proved from fmt's source: count such statements apart). THE CARD IS WHAT COUNTS. Prove the row's statement (the work); the ties are given (YtchfhojighopkaaGreatDoorTie.lean); close each card by the builder's one call (the guide's Derived/Test/ToyasCard.lean, 'card_holds'). Laid BY PROGRAM, IN A SANDBOX (cutbox-door.mjs). By AI agents, Wed Nov 11 2026. No macro, syntax, notation, axiom, sorry.
-/
import Derived.Test.YtchfhojighopkaaGreatDoorRows
import GoSem.ClaimSeven
namespace Go.Proofs.YtchfhojighopkaaGreatDoor
namespace Rows

/-- THE TIED CARD OF 'wherrytop.TopUnion'. -/
def topUnionCard : Claim7 := { stood := { row := topUnionRow, standIns := [], harness := (true, "a2e8eea354cc70f18a2095f776aaa6864832695987fdfadffff669926dc26307"), looks := false }, kinds := [], alts := [], laidByText := true, laidKinds := [.data, .data, .data, .data, .pinned], laidTests := true, laidLooks := .later }
def TopUnionCardSaid : Prop := Claim7.holds Tryz.pinned (.plain (OpenSpec.ofChange topUnionSpec)) topUnionCard

/-- THE SECOND FORM's CARD OF 'wherrytop.TopUnion'. -/
def topUnionUptoCard : Claim7 := { stood := { row := topUnionUptoRow, standIns := [], harness := (true, "a2e8eea354cc70f18a2095f776aaa6864832695987fdfadffff669926dc26307"), looks := false }, kinds := [], alts := [], laidByText := true, laidKinds := [.data, .data, .data, .data, .pinned], laidTests := true, laidLooks := .later }
def TopUnionUptoCardSaid : Prop := Claim7.holds Tryz.pinned (.plain (OpenSpec.upto topUnionSpec)) topUnionUptoCard
end Rows
end Go.Proofs.YtchfhojighopkaaGreatDoor
