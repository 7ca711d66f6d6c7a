/-
  DERIVED. GIVEN WITH THE SEED: THE CARDS: each row of YtkabgmohgjljkaaGreatDoorRows.lean that lists a variable, with what it lists TIED to the program's text (the seventh form; the later family's looks); each row that meets fmt, with fmt's text TOLD by the authors' own Lean function (tested against real Go, not proved from fmt's source: count such statements apart). THE CARD IS WHAT COUNTS. Prove the row's statement (the work); the ties are given (YtkabgmohgjljkaaGreatDoorTie.lean); close each card by the builder's one call (the guide's Derived/Test/ToyasCard.lean, 'card_holds'). Laid BY PROGRAM, IN A SANDBOX (cutbox-door.mjs). By AI agents, Wed Nov 11 2026. No macro, syntax, notation, axiom, sorry.
-/
import Derived.Test.YtkabgmohgjljkaaGreatDoorRows
import GoSem.ClaimSeven
namespace Go.Proofs.YtkabgmohgjljkaaGreatDoor
namespace Rows

/-- THE TIED CARD OF 'fingerpostlaw1.RunDoes'. -/
def runDoesCard : Claim7 := { stood := { row := runDoesRow, standIns := [], harness := (true, "9f3999f319e3ffd06522e4170fbc8af07fc906a04ad37f114158de0eac0035d4"), looks := true }, kinds := [], alts := [], laidByText := true, laidKinds := [.data, .handle, .sentinel, .sentinel, .sentinel, .sentinel, .sentinel, .sentinel, .sentinel, .sentinel, .sentinel, .sentinel, .sentinel, .pinned], laidTests := true, laidLooks := .later }
def RunDoesCardSaid : Prop := Claim7.holds Tryz.pinned (.plain (OpenSpec.ofChange runDoesSpec)) runDoesCard

/-- THE SECOND FORM's CARD OF 'fingerpostlaw1.RunDoes'. -/
def runDoesUptoCard : Claim7 := { stood := { row := runDoesUptoRow, standIns := [], harness := (true, "9f3999f319e3ffd06522e4170fbc8af07fc906a04ad37f114158de0eac0035d4"), looks := true }, kinds := [], alts := [], laidByText := true, laidKinds := [.data, .handle, .sentinel, .sentinel, .sentinel, .sentinel, .sentinel, .sentinel, .sentinel, .sentinel, .sentinel, .sentinel, .sentinel, .pinned], laidTests := true, laidLooks := .later }
def RunDoesUptoCardSaid : Prop := Claim7.holds Tryz.pinned (.plain (OpenSpec.upto runDoesSpec)) runDoesUptoCard
end Rows
end Go.Proofs.YtkabgmohgjljkaaGreatDoor
