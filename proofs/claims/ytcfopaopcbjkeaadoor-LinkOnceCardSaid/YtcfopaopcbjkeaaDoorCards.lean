/-
  DERIVED. GIVEN WITH THE SEED: THE CARDS: each row of YtcfopaopcbjkeaaDoorRows.lean that lists a variable, with what it lists TIED to the program's text (the seventh form; the later family's looks); each row that meets fmt, with fmt's text TOLD by the authors' own Lean function (tested against real Go, not proved from fmt's source: count such statements apart). THE CARD IS WHAT COUNTS. Prove the row's statement (the work); the ties are given (YtcfopaopcbjkeaaDoorTie.lean); close each card by the builder's one call (the guide's Derived/Test/ToyasCard.lean, 'card_holds'). Laid BY PROGRAM, IN A SANDBOX (cutbox-door.mjs). By AI agents, Wed Nov 11 2026. No macro, syntax, notation, axiom, sorry.
-/
import Derived.Test.YtcfopaopcbjkeaaDoorRows
import GoSem.ClaimSeven
namespace Go.Proofs.YtcfopaopcbjkeaaDoor
namespace Rows

/-- THE TIED CARD OF 'fingerpostlaw3.LinkOnce'. -/
def linkOnceCard : Claim7 := { stood := { row := linkOnceRow, standIns := [], harness := (true, "a7c6978ca2e99dcd384008dce0cad865873d20bb021b02e45b632015377b0e2c"), looks := true }, kinds := [], alts := [], laidByText := true, laidKinds := [.sentinel, .sentinel, .sentinel, .sentinel], laidTests := true, laidLooks := .later }
def LinkOnceCardSaid : Prop := Claim7.holds Tryd.pinned (.plain (OpenSpec.ofChange linkOnceSpec)) linkOnceCard

/-- THE TIED CARD OF 'fingerpostlaw3.LinkTicks'. -/
def linkTicksCard : Claim7 := { stood := { row := linkTicksRow, standIns := [], harness := (true, "a7c6978ca2e99dcd384008dce0cad865873d20bb021b02e45b632015377b0e2c"), looks := true }, kinds := [], alts := [], laidByText := true, laidKinds := [.sentinel, .sentinel, .sentinel, .sentinel], laidTests := true, laidLooks := .later }
def LinkTicksCardSaid : Prop := Claim7.holds Tryd.pinned (.plain (OpenSpec.ofChange linkTicksSpec)) linkTicksCard

/-- THE TIED CARD OF 'fingerpostlaw3.RingPlays'. -/
def ringPlaysCard : Claim7 := { stood := { row := ringPlaysRow, standIns := [], harness := (true, "a7c6978ca2e99dcd384008dce0cad865873d20bb021b02e45b632015377b0e2c"), looks := true }, kinds := [], alts := [], laidByText := true, laidKinds := [.handle, .sentinel, .sentinel, .sentinel, .sentinel, .sentinel, .sentinel, .sentinel, .sentinel, .sentinel, .sentinel, .sentinel], laidTests := true, laidLooks := .later }
def RingPlaysCardSaid : Prop := Claim7.holds Tryd.pinned (.plain (OpenSpec.ofChange ringPlaysSpec)) ringPlaysCard

/-- THE TIED CARD OF 'fingerpostlaw3.LinkActs'. -/
def linkActsCard : Claim7 := { stood := { row := linkActsRow, standIns := [], harness := (true, "a7c6978ca2e99dcd384008dce0cad865873d20bb021b02e45b632015377b0e2c"), looks := true }, kinds := [], alts := [], laidByText := true, laidKinds := [.handle, .sentinel, .sentinel, .sentinel, .sentinel, .sentinel, .sentinel, .sentinel, .sentinel, .sentinel, .sentinel, .sentinel], laidTests := true, laidLooks := .later }
def LinkActsCardSaid : Prop := Claim7.holds Tryd.pinned (.plain (OpenSpec.ofChange linkActsSpec)) linkActsCard

/-- THE TIED CARD OF 'fingerpostlaw1.RunParts'. -/
def runPartsCard : Claim7 := { stood := { row := runPartsRow, standIns := [], harness := (true, "a7c6978ca2e99dcd384008dce0cad865873d20bb021b02e45b632015377b0e2c"), looks := true }, kinds := [], alts := [], laidByText := true, laidKinds := [.data, .sentinel, .sentinel, .sentinel, .sentinel, .sentinel, .sentinel, .sentinel, .pinned], laidTests := true, laidLooks := .later }
def RunPartsCardSaid : Prop := Claim7.holds Tryd.pinned (.plain (OpenSpec.ofChange runPartsSpec)) runPartsCard

/-- THE SECOND FORM's CARD OF 'fingerpostlaw3.LinkOnce'. -/
def linkOnceUptoCard : Claim7 := { stood := { row := linkOnceUptoRow, standIns := [], harness := (true, "a7c6978ca2e99dcd384008dce0cad865873d20bb021b02e45b632015377b0e2c"), looks := true }, kinds := [], alts := [], laidByText := true, laidKinds := [.sentinel, .sentinel, .sentinel, .sentinel], laidTests := true, laidLooks := .later }
def LinkOnceUptoCardSaid : Prop := Claim7.holds Tryd.pinned (.plain (OpenSpec.upto linkOnceSpec)) linkOnceUptoCard

/-- THE SECOND FORM's CARD OF 'fingerpostlaw3.LinkTicks'. -/
def linkTicksUptoCard : Claim7 := { stood := { row := linkTicksUptoRow, standIns := [], harness := (true, "a7c6978ca2e99dcd384008dce0cad865873d20bb021b02e45b632015377b0e2c"), looks := true }, kinds := [], alts := [], laidByText := true, laidKinds := [.sentinel, .sentinel, .sentinel, .sentinel], laidTests := true, laidLooks := .later }
def LinkTicksUptoCardSaid : Prop := Claim7.holds Tryd.pinned (.plain (OpenSpec.upto linkTicksSpec)) linkTicksUptoCard

/-- THE SECOND FORM's CARD OF 'fingerpostlaw3.RingPlays'. -/
def ringPlaysUptoCard : Claim7 := { stood := { row := ringPlaysUptoRow, standIns := [], harness := (true, "a7c6978ca2e99dcd384008dce0cad865873d20bb021b02e45b632015377b0e2c"), looks := true }, kinds := [], alts := [], laidByText := true, laidKinds := [.handle, .sentinel, .sentinel, .sentinel, .sentinel, .sentinel, .sentinel, .sentinel, .sentinel, .sentinel, .sentinel, .sentinel], laidTests := true, laidLooks := .later }
def RingPlaysUptoCardSaid : Prop := Claim7.holds Tryd.pinned (.plain (OpenSpec.upto ringPlaysSpec)) ringPlaysUptoCard

/-- THE SECOND FORM's CARD OF 'fingerpostlaw3.LinkActs'. -/
def linkActsUptoCard : Claim7 := { stood := { row := linkActsUptoRow, standIns := [], harness := (true, "a7c6978ca2e99dcd384008dce0cad865873d20bb021b02e45b632015377b0e2c"), looks := true }, kinds := [], alts := [], laidByText := true, laidKinds := [.handle, .sentinel, .sentinel, .sentinel, .sentinel, .sentinel, .sentinel, .sentinel, .sentinel, .sentinel, .sentinel, .sentinel], laidTests := true, laidLooks := .later }
def LinkActsUptoCardSaid : Prop := Claim7.holds Tryd.pinned (.plain (OpenSpec.upto linkActsSpec)) linkActsUptoCard

/-- THE SECOND FORM's CARD OF 'fingerpostlaw1.RunParts'. -/
def runPartsUptoCard : Claim7 := { stood := { row := runPartsUptoRow, standIns := [], harness := (true, "a7c6978ca2e99dcd384008dce0cad865873d20bb021b02e45b632015377b0e2c"), looks := true }, kinds := [], alts := [], laidByText := true, laidKinds := [.data, .sentinel, .sentinel, .sentinel, .sentinel, .sentinel, .sentinel, .sentinel, .pinned], laidTests := true, laidLooks := .later }
def RunPartsUptoCardSaid : Prop := Claim7.holds Tryd.pinned (.plain (OpenSpec.upto runPartsSpec)) runPartsUptoCard
end Rows
end Go.Proofs.YtcfopaopcbjkeaaDoor
