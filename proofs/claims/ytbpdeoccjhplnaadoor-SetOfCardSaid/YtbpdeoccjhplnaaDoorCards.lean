/-
  DERIVED. GIVEN WITH THE SEED: THE CARDS: each row of YtbpdeoccjhplnaaDoorRows.lean that lists a variable, with what it lists TIED to the program's text (the seventh form; the later family's looks); each row that meets fmt, with fmt's text TOLD by the authors' own Lean function (tested against real Go, not proved from fmt's source: count such statements apart). THE CARD IS WHAT COUNTS. Prove the row's statement (the work); the ties are given (YtbpdeoccjhplnaaDoorTie.lean); close each card by the builder's one call (the guide's Derived/Test/ToyasCard.lean, 'card_holds'). Laid BY PROGRAM, IN A SANDBOX (cutbox-door.mjs). By AI agents, Wed Nov 11 2026. No macro, syntax, notation, axiom, sorry.
-/
import Derived.Test.YtbpdeoccjhplnaaDoorRows
import GoSem.ClaimSeven
namespace Go.Proofs.YtbpdeoccjhplnaaDoor
namespace Rows

/-- THE TIED CARD OF 'fingerpostlaw1.SetOf'. -/
def setOfCard : Claim7 := { stood := { row := setOfRow, standIns := [], harness := (true, "be0351120eedf744b33c28ad333bd1990a8471a6a2b6705c474ad5e89688c786"), looks := true }, kinds := [], alts := [], laidByText := true, laidKinds := [.data, .data, .data, .handle, .sentinel, .sentinel, .sentinel, .sentinel, .sentinel, .sentinel, .sentinel, .sentinel, .sentinel, .sentinel, .sentinel], laidTests := true, laidLooks := .later }
def SetOfCardSaid : Prop := Claim7.holds Tryd.pinned (.plain (OpenSpec.ofChange setOfSpec)) setOfCard

/-- THE TIED CARD OF 'fingerpostlaw1.ConsOrder'. -/
def consOrderCard : Claim7 := { stood := { row := consOrderRow, standIns := [], harness := (true, "be0351120eedf744b33c28ad333bd1990a8471a6a2b6705c474ad5e89688c786"), looks := true }, kinds := [], alts := [], laidByText := true, laidKinds := [.data, .sentinel, .sentinel, .sentinel, .sentinel, .sentinel, .sentinel, .sentinel, .sentinel, .pinned], laidTests := true, laidLooks := .later }
def ConsOrderCardSaid : Prop := Claim7.holds Tryd.pinned (.plain (OpenSpec.ofChange consOrderSpec)) consOrderCard

/-- THE SECOND FORM's CARD OF 'fingerpostlaw1.SetOf'. -/
def setOfUptoCard : Claim7 := { stood := { row := setOfUptoRow, standIns := [], harness := (true, "be0351120eedf744b33c28ad333bd1990a8471a6a2b6705c474ad5e89688c786"), looks := true }, kinds := [], alts := [], laidByText := true, laidKinds := [.data, .data, .data, .handle, .sentinel, .sentinel, .sentinel, .sentinel, .sentinel, .sentinel, .sentinel, .sentinel, .sentinel, .sentinel, .sentinel], laidTests := true, laidLooks := .later }
def SetOfUptoCardSaid : Prop := Claim7.holds Tryd.pinned (.plain (OpenSpec.upto setOfSpec)) setOfUptoCard

/-- THE SECOND FORM's CARD OF 'fingerpostlaw1.ConsOrder'. -/
def consOrderUptoCard : Claim7 := { stood := { row := consOrderUptoRow, standIns := [], harness := (true, "be0351120eedf744b33c28ad333bd1990a8471a6a2b6705c474ad5e89688c786"), looks := true }, kinds := [], alts := [], laidByText := true, laidKinds := [.data, .sentinel, .sentinel, .sentinel, .sentinel, .sentinel, .sentinel, .sentinel, .sentinel, .pinned], laidTests := true, laidLooks := .later }
def ConsOrderUptoCardSaid : Prop := Claim7.holds Tryd.pinned (.plain (OpenSpec.upto consOrderSpec)) consOrderUptoCard
end Rows
end Go.Proofs.YtbpdeoccjhplnaaDoor
