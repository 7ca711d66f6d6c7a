/-
  DERIVED. GIVEN WITH THE SEED: THE CARDS: each row of YtohfdecefikinaaGreatDoorRows.lean that lists a variable, with what it lists TIED to the program's text (the seventh form; the later family's looks); each row that meets fmt, with fmt's text TOLD by the authors' own Lean function (tested against real Go, not proved from fmt's source: count such statements apart). THE CARD IS WHAT COUNTS. Prove the row's statement (the work); the ties are given (YtohfdecefikinaaGreatDoorTie.lean); close each card by the builder's one call (the guide's Derived/Test/ToyasCard.lean, 'card_holds'). Laid BY PROGRAM, IN A SANDBOX (cutbox-door.mjs). By AI agents, Wed Nov 11 2026. No macro, syntax, notation, axiom, sorry.
-/
import Derived.Test.YtohfdecefikinaaGreatDoorRows
import GoSem.ClaimSeven
namespace Go.Proofs.YtohfdecefikinaaGreatDoor
namespace Rows

/-- THE TIED CARD OF 'fingerpostlaw1.ConsTells'. -/
def consTellsCard : Claim7 := { stood := { row := consTellsRow, standIns := [], harness := (true, "9b17244f15625dbfb91d6c6b82a72fd90e8bc92131ff2291930e375495e628e7"), looks := true }, kinds := [], alts := [], laidByText := true, laidKinds := [.data, .handle, .sentinel, .sentinel, .sentinel, .sentinel, .sentinel, .sentinel, .sentinel, .sentinel, .sentinel, .sentinel, .sentinel, .pinned], laidTests := true, laidLooks := .later }
def ConsTellsCardSaid : Prop := Claim7.holds Tryz.pinned (.plain (OpenSpec.ofChange consTellsSpec)) consTellsCard

/-- THE TIED CARD OF 'fingerpostlaw1.ConsMore'. -/
def consMoreCard : Claim7 := { stood := { row := consMoreRow, standIns := [], harness := (true, "9b17244f15625dbfb91d6c6b82a72fd90e8bc92131ff2291930e375495e628e7"), looks := true }, kinds := [], alts := [], laidByText := true, laidKinds := [.data, .sentinel, .sentinel, .sentinel, .sentinel, .sentinel, .sentinel, .sentinel, .sentinel, .pinned], laidTests := true, laidLooks := .later }
def ConsMoreCardSaid : Prop := Claim7.holds Tryz.pinned (.plain (OpenSpec.ofChange consMoreSpec)) consMoreCard

/-- THE SECOND FORM's CARD OF 'fingerpostlaw1.ConsTells'. -/
def consTellsUptoCard : Claim7 := { stood := { row := consTellsUptoRow, standIns := [], harness := (true, "9b17244f15625dbfb91d6c6b82a72fd90e8bc92131ff2291930e375495e628e7"), looks := true }, kinds := [], alts := [], laidByText := true, laidKinds := [.data, .handle, .sentinel, .sentinel, .sentinel, .sentinel, .sentinel, .sentinel, .sentinel, .sentinel, .sentinel, .sentinel, .sentinel, .pinned], laidTests := true, laidLooks := .later }
def ConsTellsUptoCardSaid : Prop := Claim7.holds Tryz.pinned (.plain (OpenSpec.upto consTellsSpec)) consTellsUptoCard

/-- THE SECOND FORM's CARD OF 'fingerpostlaw1.ConsMore'. -/
def consMoreUptoCard : Claim7 := { stood := { row := consMoreUptoRow, standIns := [], harness := (true, "9b17244f15625dbfb91d6c6b82a72fd90e8bc92131ff2291930e375495e628e7"), looks := true }, kinds := [], alts := [], laidByText := true, laidKinds := [.data, .sentinel, .sentinel, .sentinel, .sentinel, .sentinel, .sentinel, .sentinel, .sentinel, .pinned], laidTests := true, laidLooks := .later }
def ConsMoreUptoCardSaid : Prop := Claim7.holds Tryz.pinned (.plain (OpenSpec.upto consMoreSpec)) consMoreUptoCard
end Rows
end Go.Proofs.YtohfdecefikinaaGreatDoor
