/-
  DERIVED. GIVEN WITH THE SEED: THE CARDS: each row of YtkabgmohgjljkaaDoorRows.lean that lists a variable, with what it lists TIED to the program's text (the seventh form; the later family's looks); each row that meets fmt, with fmt's text TOLD by the authors' own Lean function (tested against real Go, not proved from fmt's source: count such statements apart). THE CARD IS WHAT COUNTS. Prove the row's statement (the work); the ties are given (YtkabgmohgjljkaaDoorTie.lean); close each card by the builder's one call (the guide's Derived/Test/ToyasCard.lean, 'card_holds'). Laid BY PROGRAM, IN A SANDBOX (cutbox-door.mjs). By AI agents, Wed Nov 11 2026. No macro, syntax, notation, axiom, sorry.
-/
import Derived.Test.YtkabgmohgjljkaaDoorRows
import GoSem.ClaimSeven
namespace Go.Proofs.YtkabgmohgjljkaaDoor
namespace Rows

/-- THE TIED CARD OF 'fingerpostlaw3.LinkActs'. -/
def linkActsCard : Claim7 := { stood := { row := linkActsRow, standIns := [], harness := (true, "ec5103689b48f3cc63638b666721d8b38f7d6c4d23accdaf43984cd439f906a0"), looks := true }, kinds := [], alts := [], laidByText := true, laidKinds := [.handle, .sentinel, .sentinel, .sentinel, .sentinel, .sentinel, .sentinel, .sentinel, .sentinel, .sentinel, .sentinel, .sentinel], laidTests := true, laidLooks := .later }
def LinkActsCardSaid : Prop := Claim7.holds Tryd.pinned (.plain (OpenSpec.ofChange linkActsSpec)) linkActsCard

/-- THE TIED CARD OF 'fingerpostlaw1.RunParts'. -/
def runPartsCard : Claim7 := { stood := { row := runPartsRow, standIns := [], harness := (true, "ec5103689b48f3cc63638b666721d8b38f7d6c4d23accdaf43984cd439f906a0"), looks := true }, kinds := [], alts := [], laidByText := true, laidKinds := [.data, .sentinel, .sentinel, .sentinel, .sentinel, .sentinel, .sentinel, .sentinel, .pinned], laidTests := true, laidLooks := .later }
def RunPartsCardSaid : Prop := Claim7.holds Tryd.pinned (.plain (OpenSpec.ofChange runPartsSpec)) runPartsCard

/-- THE SECOND FORM's CARD OF 'fingerpostlaw3.LinkActs'. -/
def linkActsUptoCard : Claim7 := { stood := { row := linkActsUptoRow, standIns := [], harness := (true, "ec5103689b48f3cc63638b666721d8b38f7d6c4d23accdaf43984cd439f906a0"), looks := true }, kinds := [], alts := [], laidByText := true, laidKinds := [.handle, .sentinel, .sentinel, .sentinel, .sentinel, .sentinel, .sentinel, .sentinel, .sentinel, .sentinel, .sentinel, .sentinel], laidTests := true, laidLooks := .later }
def LinkActsUptoCardSaid : Prop := Claim7.holds Tryd.pinned (.plain (OpenSpec.upto linkActsSpec)) linkActsUptoCard

/-- THE SECOND FORM's CARD OF 'fingerpostlaw1.RunParts'. -/
def runPartsUptoCard : Claim7 := { stood := { row := runPartsUptoRow, standIns := [], harness := (true, "ec5103689b48f3cc63638b666721d8b38f7d6c4d23accdaf43984cd439f906a0"), looks := true }, kinds := [], alts := [], laidByText := true, laidKinds := [.data, .sentinel, .sentinel, .sentinel, .sentinel, .sentinel, .sentinel, .sentinel, .pinned], laidTests := true, laidLooks := .later }
def RunPartsUptoCardSaid : Prop := Claim7.holds Tryd.pinned (.plain (OpenSpec.upto runPartsSpec)) runPartsUptoCard
end Rows
end Go.Proofs.YtkabgmohgjljkaaDoor
