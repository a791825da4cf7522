/-
  DERIVED. GIVEN WITH THE SEED: THE CARDS: each row of YtfenmeacimfiaaaGreatDoorRows.lean that lists a variable, with what it lists TIED to the program's text (the seventh form; the later family's looks); each row that meets fmt, with fmt's text TOLD by the authors' own Lean function (tested against real Go, not proved from fmt's source: count such statements apart). THE CARD IS WHAT COUNTS. Prove the row's statement (the work); the ties are given (YtfenmeacimfiaaaGreatDoorTie.lean); close each card by the builder's one call (the guide's Derived/Test/ToyasCard.lean, 'card_holds'). Laid BY PROGRAM, IN A SANDBOX (cutbox-door.mjs). By AI agents, Wed Nov 11 2026. No macro, syntax, notation, axiom, sorry.
-/
import Derived.Test.YtfenmeacimfiaaaGreatDoorRows
import GoSem.ClaimSeven
namespace Go.Proofs.YtfenmeacimfiaaaGreatDoor
namespace Rows

/-- THE TIED CARD OF 'wherrylaw1.PlanParses'. -/
def planParsesCard : Claim7 := { stood := { row := planParsesRow, standIns := [], harness := (true, "33a8ad3057be2fb6d96d9526de67a3e9d83cc2968fcc006415c94e5c09d2f633"), looks := true }, kinds := [], alts := [], laidByText := true, laidKinds := [.data, .data, .data, .data, .sentinel, .sentinel, .data, .pinned], laidTests := true, laidLooks := .later }
def PlanParsesCardSaid : Prop := Claim7.holds Tryz.pinned (.plain (OpenSpec.ofChange planParsesSpec)) planParsesCard

/-- THE TIED CARD OF 'wherrylaw1.GlobParses'. -/
def globParsesCard : Claim7 := { stood := { row := globParsesRow, standIns := [], harness := (true, "33a8ad3057be2fb6d96d9526de67a3e9d83cc2968fcc006415c94e5c09d2f633"), looks := true }, kinds := [], alts := [], laidByText := true, laidKinds := [.data, .pinned], laidTests := true, laidLooks := .later }
def GlobParsesCardSaid : Prop := Claim7.holds Tryz.pinned (.plain (OpenSpec.ofChange globParsesSpec)) globParsesCard

/-- THE TIED CARD OF 'wherrylaw1.GlobPrints'. -/
def globPrintsCard : Claim7 := { stood := { row := globPrintsRow, standIns := [], harness := (true, "33a8ad3057be2fb6d96d9526de67a3e9d83cc2968fcc006415c94e5c09d2f633"), looks := true }, kinds := [], alts := [], laidByText := true, laidKinds := [.data, .pinned], laidTests := true, laidLooks := .later }
def GlobPrintsCardSaid : Prop := Claim7.holds Tryz.pinned (.plain (OpenSpec.ofChange globPrintsSpec)) globPrintsCard

/-- THE TIED CARD OF 'wherrylaw1.RulesParse'. -/
def rulesParseCard : Claim7 := { stood := { row := rulesParseRow, standIns := [], harness := (true, "33a8ad3057be2fb6d96d9526de67a3e9d83cc2968fcc006415c94e5c09d2f633"), looks := true }, kinds := [], alts := [], laidByText := true, laidKinds := [.data, .pinned], laidTests := true, laidLooks := .later }
def RulesParseCardSaid : Prop := Claim7.holds Tryz.pinned (.plain (OpenSpec.ofChange rulesParseSpec)) rulesParseCard

/-- THE TIED CARD OF 'wherrylaw1.RulesPrint'. -/
def rulesPrintCard : Claim7 := { stood := { row := rulesPrintRow, standIns := [], harness := (true, "33a8ad3057be2fb6d96d9526de67a3e9d83cc2968fcc006415c94e5c09d2f633"), looks := true }, kinds := [], alts := [], laidByText := true, laidKinds := [.data, .pinned], laidTests := true, laidLooks := .later }
def RulesPrintCardSaid : Prop := Claim7.holds Tryz.pinned (.plain (OpenSpec.ofChange rulesPrintSpec)) rulesPrintCard

/-- THE SECOND FORM's CARD OF 'wherrylaw1.PlanParses'. -/
def planParsesUptoCard : Claim7 := { stood := { row := planParsesUptoRow, standIns := [], harness := (true, "33a8ad3057be2fb6d96d9526de67a3e9d83cc2968fcc006415c94e5c09d2f633"), looks := true }, kinds := [], alts := [], laidByText := true, laidKinds := [.data, .data, .data, .data, .sentinel, .sentinel, .data, .pinned], laidTests := true, laidLooks := .later }
def PlanParsesUptoCardSaid : Prop := Claim7.holds Tryz.pinned (.plain (OpenSpec.upto planParsesSpec)) planParsesUptoCard

/-- THE SECOND FORM's CARD OF 'wherrylaw1.GlobParses'. -/
def globParsesUptoCard : Claim7 := { stood := { row := globParsesUptoRow, standIns := [], harness := (true, "33a8ad3057be2fb6d96d9526de67a3e9d83cc2968fcc006415c94e5c09d2f633"), looks := true }, kinds := [], alts := [], laidByText := true, laidKinds := [.data, .pinned], laidTests := true, laidLooks := .later }
def GlobParsesUptoCardSaid : Prop := Claim7.holds Tryz.pinned (.plain (OpenSpec.upto globParsesSpec)) globParsesUptoCard

/-- THE SECOND FORM's CARD OF 'wherrylaw1.GlobPrints'. -/
def globPrintsUptoCard : Claim7 := { stood := { row := globPrintsUptoRow, standIns := [], harness := (true, "33a8ad3057be2fb6d96d9526de67a3e9d83cc2968fcc006415c94e5c09d2f633"), looks := true }, kinds := [], alts := [], laidByText := true, laidKinds := [.data, .pinned], laidTests := true, laidLooks := .later }
def GlobPrintsUptoCardSaid : Prop := Claim7.holds Tryz.pinned (.plain (OpenSpec.upto globPrintsSpec)) globPrintsUptoCard

/-- THE SECOND FORM's CARD OF 'wherrylaw1.RulesParse'. -/
def rulesParseUptoCard : Claim7 := { stood := { row := rulesParseUptoRow, standIns := [], harness := (true, "33a8ad3057be2fb6d96d9526de67a3e9d83cc2968fcc006415c94e5c09d2f633"), looks := true }, kinds := [], alts := [], laidByText := true, laidKinds := [.data, .pinned], laidTests := true, laidLooks := .later }
def RulesParseUptoCardSaid : Prop := Claim7.holds Tryz.pinned (.plain (OpenSpec.upto rulesParseSpec)) rulesParseUptoCard

/-- THE SECOND FORM's CARD OF 'wherrylaw1.RulesPrint'. -/
def rulesPrintUptoCard : Claim7 := { stood := { row := rulesPrintUptoRow, standIns := [], harness := (true, "33a8ad3057be2fb6d96d9526de67a3e9d83cc2968fcc006415c94e5c09d2f633"), looks := true }, kinds := [], alts := [], laidByText := true, laidKinds := [.data, .pinned], laidTests := true, laidLooks := .later }
def RulesPrintUptoCardSaid : Prop := Claim7.holds Tryz.pinned (.plain (OpenSpec.upto rulesPrintSpec)) rulesPrintUptoCard
end Rows
end Go.Proofs.YtfenmeacimfiaaaGreatDoor
