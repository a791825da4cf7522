/-
  DERIVED. GIVEN WITH THE SEED: THE CARDS: each row of YtnpcbcnclncniaaGreatDoorRows.lean that lists a variable, with what it lists TIED to the program's text (the seventh form; the later family's looks); each row that meets fmt, with fmt's text TOLD by the authors' own Lean function (tested against real Go, not proved from fmt's source: count such statements apart). THE CARD IS WHAT COUNTS. Prove the row's statement (the work); the ties are given (YtnpcbcnclncniaaGreatDoorTie.lean); close each card by the builder's one call (the guide's Derived/Test/ToyasCard.lean, 'card_holds'). Laid BY PROGRAM, IN A SANDBOX (cutbox-door.mjs). By AI agents, Wed Nov 11 2026. No macro, syntax, notation, axiom, sorry.
-/
import Derived.Test.YtnpcbcnclncniaaGreatDoorRows
import GoSem.ClaimSeven
namespace Go.Proofs.YtnpcbcnclncniaaGreatDoor
namespace Rows

/-- THE TIED CARD OF 'wherrylaw1.GlobBelow'. -/
def globBelowCard : Claim7 := { stood := { row := globBelowRow, standIns := [], harness := (true, "d3e92ce3075a4ffe21ebcc5b49c91ddeb47da567fccdaa5b1c51feb998e10c47"), looks := false }, kinds := [], alts := [], laidByText := true, laidKinds := [.data, .pinned], laidTests := true, laidLooks := .later }
def GlobBelowCardSaid : Prop := Claim7.holds Tryz.pinned (.plain (OpenSpec.ofChange globBelowSpec)) globBelowCard

/-- THE TIED CARD OF 'wherrylaw1.FilterMatches'. -/
def filterMatchesCard : Claim7 := { stood := { row := filterMatchesRow, standIns := [], harness := (true, "d3e92ce3075a4ffe21ebcc5b49c91ddeb47da567fccdaa5b1c51feb998e10c47"), looks := false }, kinds := [], alts := [], laidByText := true, laidKinds := [.data, .pinned], laidTests := true, laidLooks := .later }
def FilterMatchesCardSaid : Prop := Claim7.holds Tryz.pinned (.plain (OpenSpec.ofChange filterMatchesSpec)) filterMatchesCard

/-- THE SECOND FORM's CARD OF 'wherrylaw1.GlobBelow'. -/
def globBelowUptoCard : Claim7 := { stood := { row := globBelowUptoRow, standIns := [], harness := (true, "d3e92ce3075a4ffe21ebcc5b49c91ddeb47da567fccdaa5b1c51feb998e10c47"), looks := false }, kinds := [], alts := [], laidByText := true, laidKinds := [.data, .pinned], laidTests := true, laidLooks := .later }
def GlobBelowUptoCardSaid : Prop := Claim7.holds Tryz.pinned (.plain (OpenSpec.upto globBelowSpec)) globBelowUptoCard

/-- THE SECOND FORM's CARD OF 'wherrylaw1.FilterMatches'. -/
def filterMatchesUptoCard : Claim7 := { stood := { row := filterMatchesUptoRow, standIns := [], harness := (true, "d3e92ce3075a4ffe21ebcc5b49c91ddeb47da567fccdaa5b1c51feb998e10c47"), looks := false }, kinds := [], alts := [], laidByText := true, laidKinds := [.data, .pinned], laidTests := true, laidLooks := .later }
def FilterMatchesUptoCardSaid : Prop := Claim7.holds Tryz.pinned (.plain (OpenSpec.upto filterMatchesSpec)) filterMatchesUptoCard
end Rows
end Go.Proofs.YtnpcbcnclncniaaGreatDoor
