/-
  DERIVED. GIVEN WITH THE SEED: THE CARDS: each row of YtiliijiohmeagaaGreatDoorRows.lean that lists a variable, with what it lists TIED to the program's text (the seventh form; the later family's looks); each row that meets fmt, with fmt's text TOLD by the authors' own Lean function (tested against real Go, not proved from fmt's source: count such statements apart). THE CARD IS WHAT COUNTS. Prove the row's statement (the work); the ties are given (YtiliijiohmeagaaGreatDoorTie.lean); close each card by the builder's one call (the guide's Derived/Test/ToyasCard.lean, 'card_holds'). Laid BY PROGRAM, IN A SANDBOX (cutbox-door.mjs). By AI agents, Wed Nov 11 2026. No macro, syntax, notation, axiom, sorry.
-/
import Derived.Test.YtiliijiohmeagaaGreatDoorRows
import GoSem.ClaimSeven
namespace Go.Proofs.YtiliijiohmeagaaGreatDoor
namespace Rows

/-- THE TIED CARD OF 'wherrylaw1.MountChecks'. -/
def mountChecksCard : Claim7 := { stood := { row := mountChecksRow, standIns := [], harness := (true, "0514a163d83f310984fde9fa5479bb528238dedda84fe7dc1fcc655f9b732b8f"), looks := true }, kinds := [], alts := [], laidByText := true, laidKinds := [.data, .data, .data, .data, .pinned], laidTests := true, laidLooks := .later }
def MountChecksCardSaid : Prop := Claim7.holds Tryz.pinned (.plain (OpenSpec.ofChange mountChecksSpec)) mountChecksCard

/-- THE TIED CARD OF 'wherrylaw1.ChangesMatch'. -/
def changesMatchCard : Claim7 := { stood := { row := changesMatchRow, standIns := [], harness := (true, "0514a163d83f310984fde9fa5479bb528238dedda84fe7dc1fcc655f9b732b8f"), looks := true }, kinds := [], alts := [], laidByText := true, laidKinds := [.data, .pinned], laidTests := true, laidLooks := .later }
def ChangesMatchCardSaid : Prop := Claim7.holds Tryz.pinned (.plain (OpenSpec.ofChange changesMatchSpec)) changesMatchCard

/-- THE TIED CARD OF 'wherrylaw1.PlanParses'. -/
def planParsesCard : Claim7 := { stood := { row := planParsesRow, standIns := [], harness := (true, "0514a163d83f310984fde9fa5479bb528238dedda84fe7dc1fcc655f9b732b8f"), looks := true }, kinds := [], alts := [], laidByText := true, laidKinds := [.data, .data, .data, .data, .sentinel, .sentinel, .data, .pinned], laidTests := true, laidLooks := .later }
def PlanParsesCardSaid : Prop := Claim7.holds Tryz.pinned (.plain (OpenSpec.ofChange planParsesSpec)) planParsesCard

/-- THE SECOND FORM's CARD OF 'wherrylaw1.MountChecks'. -/
def mountChecksUptoCard : Claim7 := { stood := { row := mountChecksUptoRow, standIns := [], harness := (true, "0514a163d83f310984fde9fa5479bb528238dedda84fe7dc1fcc655f9b732b8f"), looks := true }, kinds := [], alts := [], laidByText := true, laidKinds := [.data, .data, .data, .data, .pinned], laidTests := true, laidLooks := .later }
def MountChecksUptoCardSaid : Prop := Claim7.holds Tryz.pinned (.plain (OpenSpec.upto mountChecksSpec)) mountChecksUptoCard

/-- THE SECOND FORM's CARD OF 'wherrylaw1.ChangesMatch'. -/
def changesMatchUptoCard : Claim7 := { stood := { row := changesMatchUptoRow, standIns := [], harness := (true, "0514a163d83f310984fde9fa5479bb528238dedda84fe7dc1fcc655f9b732b8f"), looks := true }, kinds := [], alts := [], laidByText := true, laidKinds := [.data, .pinned], laidTests := true, laidLooks := .later }
def ChangesMatchUptoCardSaid : Prop := Claim7.holds Tryz.pinned (.plain (OpenSpec.upto changesMatchSpec)) changesMatchUptoCard

/-- THE SECOND FORM's CARD OF 'wherrylaw1.PlanParses'. -/
def planParsesUptoCard : Claim7 := { stood := { row := planParsesUptoRow, standIns := [], harness := (true, "0514a163d83f310984fde9fa5479bb528238dedda84fe7dc1fcc655f9b732b8f"), looks := true }, kinds := [], alts := [], laidByText := true, laidKinds := [.data, .data, .data, .data, .sentinel, .sentinel, .data, .pinned], laidTests := true, laidLooks := .later }
def PlanParsesUptoCardSaid : Prop := Claim7.holds Tryz.pinned (.plain (OpenSpec.upto planParsesSpec)) planParsesUptoCard
end Rows
end Go.Proofs.YtiliijiohmeagaaGreatDoor
