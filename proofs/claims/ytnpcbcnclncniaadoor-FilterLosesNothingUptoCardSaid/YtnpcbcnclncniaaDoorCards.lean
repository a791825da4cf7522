/-
  DERIVED. GIVEN WITH THE SEED: THE CARDS: each row of YtnpcbcnclncniaaDoorRows.lean that lists a variable, with what it lists TIED to the program's text (the seventh form; the later family's looks); each row that meets fmt, with fmt's text TOLD by the authors' own Lean function (tested against real Go, not proved from fmt's source: count such statements apart). THE CARD IS WHAT COUNTS. Prove the row's statement (the work); the ties are given (YtnpcbcnclncniaaDoorTie.lean); close each card by the builder's one call (the guide's Derived/Test/ToyasCard.lean, 'card_holds'). Laid BY PROGRAM, IN A SANDBOX (cutbox-door.mjs). By AI agents, Wed Nov 11 2026. No macro, syntax, notation, axiom, sorry.
-/
import Derived.Test.YtnpcbcnclncniaaDoorRows
import GoSem.ClaimSeven
namespace Go.Proofs.YtnpcbcnclncniaaDoor
namespace Rows

/-- THE TIED CARD OF 'wherrylaw1.GlobMatch'. -/
def globMatchCard : Claim7 := { stood := { row := globMatchRow, standIns := [], harness := (true, "6cb8a4fcc63f02e30ade876bf532326038c71f09d509a0a9739908b3dbe52de0"), looks := false }, kinds := [], alts := [], laidByText := true, laidKinds := [.data, .pinned], laidTests := true, laidLooks := .later }
def GlobMatchCardSaid : Prop := Claim7.holds Tryd.pinned (.plain (OpenSpec.ofChange globMatchSpec)) globMatchCard

/-- THE TIED CARD OF 'wherrylaw1.GlobNeedsDirs'. -/
def globNeedsDirsCard : Claim7 := { stood := { row := globNeedsDirsRow, standIns := [], harness := (true, "6cb8a4fcc63f02e30ade876bf532326038c71f09d509a0a9739908b3dbe52de0"), looks := false }, kinds := [], alts := [], laidByText := true, laidKinds := [.data, .pinned], laidTests := true, laidLooks := .later }
def GlobNeedsDirsCardSaid : Prop := Claim7.holds Tryd.pinned (.plain (OpenSpec.ofChange globNeedsDirsSpec)) globNeedsDirsCard

/-- THE TIED CARD OF 'wherrylaw1.FilterLosesNothing'. -/
def filterLosesNothingCard : Claim7 := { stood := { row := filterLosesNothingRow, standIns := [], harness := (true, "6cb8a4fcc63f02e30ade876bf532326038c71f09d509a0a9739908b3dbe52de0"), looks := false }, kinds := [], alts := [], laidByText := true, laidKinds := [.data, .pinned], laidTests := true, laidLooks := .later }
def FilterLosesNothingCardSaid : Prop := Claim7.holds Tryd.pinned (.plain (OpenSpec.ofChange filterLosesNothingSpec)) filterLosesNothingCard

/-- THE TIED CARD OF 'wherrylaw1.FilterChecks'. -/
def filterChecksCard : Claim7 := { stood := { row := filterChecksRow, standIns := [], harness := (true, "6cb8a4fcc63f02e30ade876bf532326038c71f09d509a0a9739908b3dbe52de0"), looks := false }, kinds := [], alts := [], laidByText := true, laidKinds := [.data, .pinned], laidTests := true, laidLooks := .later }
def FilterChecksCardSaid : Prop := Claim7.holds Tryd.pinned (.plain (OpenSpec.ofChange filterChecksSpec)) filterChecksCard

/-- THE SECOND FORM's CARD OF 'wherrylaw1.GlobMatch'. -/
def globMatchUptoCard : Claim7 := { stood := { row := globMatchUptoRow, standIns := [], harness := (true, "6cb8a4fcc63f02e30ade876bf532326038c71f09d509a0a9739908b3dbe52de0"), looks := false }, kinds := [], alts := [], laidByText := true, laidKinds := [.data, .pinned], laidTests := true, laidLooks := .later }
def GlobMatchUptoCardSaid : Prop := Claim7.holds Tryd.pinned (.plain (OpenSpec.upto globMatchSpec)) globMatchUptoCard

/-- THE SECOND FORM's CARD OF 'wherrylaw1.GlobNeedsDirs'. -/
def globNeedsDirsUptoCard : Claim7 := { stood := { row := globNeedsDirsUptoRow, standIns := [], harness := (true, "6cb8a4fcc63f02e30ade876bf532326038c71f09d509a0a9739908b3dbe52de0"), looks := false }, kinds := [], alts := [], laidByText := true, laidKinds := [.data, .pinned], laidTests := true, laidLooks := .later }
def GlobNeedsDirsUptoCardSaid : Prop := Claim7.holds Tryd.pinned (.plain (OpenSpec.upto globNeedsDirsSpec)) globNeedsDirsUptoCard

/-- THE SECOND FORM's CARD OF 'wherrylaw1.FilterLosesNothing'. -/
def filterLosesNothingUptoCard : Claim7 := { stood := { row := filterLosesNothingUptoRow, standIns := [], harness := (true, "6cb8a4fcc63f02e30ade876bf532326038c71f09d509a0a9739908b3dbe52de0"), looks := false }, kinds := [], alts := [], laidByText := true, laidKinds := [.data, .pinned], laidTests := true, laidLooks := .later }
def FilterLosesNothingUptoCardSaid : Prop := Claim7.holds Tryd.pinned (.plain (OpenSpec.upto filterLosesNothingSpec)) filterLosesNothingUptoCard

/-- THE SECOND FORM's CARD OF 'wherrylaw1.FilterChecks'. -/
def filterChecksUptoCard : Claim7 := { stood := { row := filterChecksUptoRow, standIns := [], harness := (true, "6cb8a4fcc63f02e30ade876bf532326038c71f09d509a0a9739908b3dbe52de0"), looks := false }, kinds := [], alts := [], laidByText := true, laidKinds := [.data, .pinned], laidTests := true, laidLooks := .later }
def FilterChecksUptoCardSaid : Prop := Claim7.holds Tryd.pinned (.plain (OpenSpec.upto filterChecksSpec)) filterChecksUptoCard
end Rows
end Go.Proofs.YtnpcbcnclncniaaDoor
