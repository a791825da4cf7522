/-
  DERIVED. GIVEN WITH THE SEED: THE CARDS: each row of YtmafnjapailliaaGreatDoorRows.lean that lists a variable, with what it lists TIED to the program's text (the seventh form; the later family's looks); each row that meets fmt, with fmt's text TOLD by the authors' own Lean function (tested against real Go, not proved from fmt's source: count such statements apart). THE CARD IS WHAT COUNTS. Prove the row's statement (the work); the ties are given (YtmafnjapailliaaGreatDoorTie.lean); close each card by the builder's one call (the guide's Derived/Test/ToyasCard.lean, 'card_holds'). Laid BY PROGRAM, IN A SANDBOX (cutbox-door.mjs). By AI agents, Wed Nov 11 2026. No macro, syntax, notation, axiom, sorry.
-/
import Derived.Test.YtmafnjapailliaaGreatDoorRows
import GoSem.ClaimSeven
namespace Go.Proofs.YtmafnjapailliaaGreatDoor
namespace Rows

/-- THE TIED CARD OF 'wherrylaw1.VersionsAreKept'. -/
def versionsAreKeptCard : Claim7 := { stood := { row := versionsAreKeptRow, standIns := [], harness := (true, "2d369754646c42d17733e7c2ada3b1391327f8f6f3f2283c5a97c11b1515b7e0"), looks := true }, kinds := [], alts := [], laidByText := true, laidKinds := [.data, .data, .data, .data, .data, .data, .data, .pinned], laidTests := true, laidLooks := .later }
def VersionsAreKeptCardSaid : Prop := Claim7.holds Tryz.pinned (.plain (OpenSpec.ofChange versionsAreKeptSpec)) versionsAreKeptCard

/-- THE TIED CARD OF 'wherrylaw1.PartsAreWhole'. -/
def partsAreWholeCard : Claim7 := { stood := { row := partsAreWholeRow, standIns := [], harness := (true, "2d369754646c42d17733e7c2ada3b1391327f8f6f3f2283c5a97c11b1515b7e0"), looks := true }, kinds := [], alts := [], laidByText := true, laidKinds := [.data, .data, .data, .data, .data, .data, .data, .pinned], laidTests := true, laidLooks := .later }
def PartsAreWholeCardSaid : Prop := Claim7.holds Tryz.pinned (.plain (OpenSpec.ofChange partsAreWholeSpec)) partsAreWholeCard

/-- THE SECOND FORM's CARD OF 'wherrylaw1.VersionsAreKept'. -/
def versionsAreKeptUptoCard : Claim7 := { stood := { row := versionsAreKeptUptoRow, standIns := [], harness := (true, "2d369754646c42d17733e7c2ada3b1391327f8f6f3f2283c5a97c11b1515b7e0"), looks := true }, kinds := [], alts := [], laidByText := true, laidKinds := [.data, .data, .data, .data, .data, .data, .data, .pinned], laidTests := true, laidLooks := .later }
def VersionsAreKeptUptoCardSaid : Prop := Claim7.holds Tryz.pinned (.plain (OpenSpec.upto versionsAreKeptSpec)) versionsAreKeptUptoCard

/-- THE SECOND FORM's CARD OF 'wherrylaw1.PartsAreWhole'. -/
def partsAreWholeUptoCard : Claim7 := { stood := { row := partsAreWholeUptoRow, standIns := [], harness := (true, "2d369754646c42d17733e7c2ada3b1391327f8f6f3f2283c5a97c11b1515b7e0"), looks := true }, kinds := [], alts := [], laidByText := true, laidKinds := [.data, .data, .data, .data, .data, .data, .data, .pinned], laidTests := true, laidLooks := .later }
def PartsAreWholeUptoCardSaid : Prop := Claim7.holds Tryz.pinned (.plain (OpenSpec.upto partsAreWholeSpec)) partsAreWholeUptoCard
end Rows
end Go.Proofs.YtmafnjapailliaaGreatDoor
