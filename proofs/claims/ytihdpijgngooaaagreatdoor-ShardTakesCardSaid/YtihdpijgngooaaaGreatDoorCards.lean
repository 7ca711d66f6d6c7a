/-
  DERIVED. GIVEN WITH THE SEED: THE CARDS: each row of YtihdpijgngooaaaGreatDoorRows.lean that lists a variable, with what it lists TIED to the program's text (the seventh form; the later family's looks); each row that meets fmt, with fmt's text TOLD by the authors' own Lean function (tested against real Go, not proved from fmt's source: count such statements apart). THE CARD IS WHAT COUNTS. Prove the row's statement (the work); the ties are given (YtihdpijgngooaaaGreatDoorTie.lean); close each card by the builder's one call (the guide's Derived/Test/ToyasCard.lean, 'card_holds'). Laid BY PROGRAM, IN A SANDBOX (cutbox-door.mjs). By AI agents, Wed Nov 11 2026. No macro, syntax, notation, axiom, sorry.
-/
import Derived.Test.YtihdpijgngooaaaGreatDoorRows
import GoSem.ClaimSeven
namespace Go.Proofs.YtihdpijgngooaaaGreatDoor
namespace Rows

/-- THE TIED CARD OF 'fingerpostlaw3.ShardAlone'. -/
def shardAloneCard : Claim7 := { stood := { row := shardAloneRow, standIns := [], harness := (true, "052795e080aadcbd0f9ff592828e16178bc06fcadaaa49d86214801df114d285"), looks := true }, kinds := [], alts := [], laidByText := true, laidKinds := [.data, .sentinel, .sentinel, .sentinel, .sentinel, .sentinel, .sentinel, .sentinel, .pinned], laidTests := true, laidLooks := .later }
def ShardAloneCardSaid : Prop := Claim7.holds Tryz.pinned (.plain (OpenSpec.ofChange shardAloneSpec)) shardAloneCard

/-- THE TIED CARD OF 'fingerpostlaw3.ShardTakes'. -/
def shardTakesCard : Claim7 := { stood := { row := shardTakesRow, standIns := [], harness := (true, "052795e080aadcbd0f9ff592828e16178bc06fcadaaa49d86214801df114d285"), looks := true }, kinds := [], alts := [], laidByText := true, laidKinds := [.data, .handle, .sentinel, .sentinel, .sentinel, .sentinel, .sentinel, .sentinel, .sentinel, .sentinel, .sentinel, .sentinel, .sentinel, .pinned], laidTests := true, laidLooks := .later }
def ShardTakesCardSaid : Prop := Claim7.holds Tryz.pinned (.plain (OpenSpec.ofChange shardTakesSpec)) shardTakesCard

/-- THE TIED CARD OF 'fingerpostlaw3.ShardAny'. -/
def shardAnyCard : Claim7 := { stood := { row := shardAnyRow, standIns := [], harness := (true, "052795e080aadcbd0f9ff592828e16178bc06fcadaaa49d86214801df114d285"), looks := true }, kinds := [], alts := [], laidByText := true, laidKinds := [.data, .handle, .sentinel, .sentinel, .sentinel, .sentinel, .sentinel, .sentinel, .sentinel, .sentinel, .sentinel, .sentinel, .sentinel, .pinned], laidTests := true, laidLooks := .later }
def ShardAnyCardSaid : Prop := Claim7.holds Tryz.pinned (.plain (OpenSpec.ofChange shardAnySpec)) shardAnyCard

/-- THE TIED CARD OF 'fingerpostlaw2.CycleGroups'. -/
def cycleGroupsCard : Claim7 := { stood := { row := cycleGroupsRow, standIns := [], harness := (true, "052795e080aadcbd0f9ff592828e16178bc06fcadaaa49d86214801df114d285"), looks := true }, kinds := [], alts := [], laidByText := true, laidKinds := [.data, .handle, .sentinel, .sentinel, .sentinel, .sentinel, .sentinel, .sentinel, .sentinel, .sentinel, .sentinel, .sentinel, .sentinel, .pinned], laidTests := true, laidLooks := .later }
def CycleGroupsCardSaid : Prop := Claim7.holds Tryz.pinned (.plain (OpenSpec.ofChange cycleGroupsSpec)) cycleGroupsCard

/-- THE SECOND FORM's CARD OF 'fingerpostlaw3.ShardAlone'. -/
def shardAloneUptoCard : Claim7 := { stood := { row := shardAloneUptoRow, standIns := [], harness := (true, "052795e080aadcbd0f9ff592828e16178bc06fcadaaa49d86214801df114d285"), looks := true }, kinds := [], alts := [], laidByText := true, laidKinds := [.data, .sentinel, .sentinel, .sentinel, .sentinel, .sentinel, .sentinel, .sentinel, .pinned], laidTests := true, laidLooks := .later }
def ShardAloneUptoCardSaid : Prop := Claim7.holds Tryz.pinned (.plain (OpenSpec.upto shardAloneSpec)) shardAloneUptoCard

/-- THE SECOND FORM's CARD OF 'fingerpostlaw3.ShardTakes'. -/
def shardTakesUptoCard : Claim7 := { stood := { row := shardTakesUptoRow, standIns := [], harness := (true, "052795e080aadcbd0f9ff592828e16178bc06fcadaaa49d86214801df114d285"), looks := true }, kinds := [], alts := [], laidByText := true, laidKinds := [.data, .handle, .sentinel, .sentinel, .sentinel, .sentinel, .sentinel, .sentinel, .sentinel, .sentinel, .sentinel, .sentinel, .sentinel, .pinned], laidTests := true, laidLooks := .later }
def ShardTakesUptoCardSaid : Prop := Claim7.holds Tryz.pinned (.plain (OpenSpec.upto shardTakesSpec)) shardTakesUptoCard

/-- THE SECOND FORM's CARD OF 'fingerpostlaw3.ShardAny'. -/
def shardAnyUptoCard : Claim7 := { stood := { row := shardAnyUptoRow, standIns := [], harness := (true, "052795e080aadcbd0f9ff592828e16178bc06fcadaaa49d86214801df114d285"), looks := true }, kinds := [], alts := [], laidByText := true, laidKinds := [.data, .handle, .sentinel, .sentinel, .sentinel, .sentinel, .sentinel, .sentinel, .sentinel, .sentinel, .sentinel, .sentinel, .sentinel, .pinned], laidTests := true, laidLooks := .later }
def ShardAnyUptoCardSaid : Prop := Claim7.holds Tryz.pinned (.plain (OpenSpec.upto shardAnySpec)) shardAnyUptoCard

/-- THE SECOND FORM's CARD OF 'fingerpostlaw2.CycleGroups'. -/
def cycleGroupsUptoCard : Claim7 := { stood := { row := cycleGroupsUptoRow, standIns := [], harness := (true, "052795e080aadcbd0f9ff592828e16178bc06fcadaaa49d86214801df114d285"), looks := true }, kinds := [], alts := [], laidByText := true, laidKinds := [.data, .handle, .sentinel, .sentinel, .sentinel, .sentinel, .sentinel, .sentinel, .sentinel, .sentinel, .sentinel, .sentinel, .sentinel, .pinned], laidTests := true, laidLooks := .later }
def CycleGroupsUptoCardSaid : Prop := Claim7.holds Tryz.pinned (.plain (OpenSpec.upto cycleGroupsSpec)) cycleGroupsUptoCard
end Rows
end Go.Proofs.YtihdpijgngooaaaGreatDoor
