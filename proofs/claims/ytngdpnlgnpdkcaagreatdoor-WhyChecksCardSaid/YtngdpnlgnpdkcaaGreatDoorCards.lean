/-
  DERIVED. GIVEN WITH THE SEED: THE CARDS: each row of YtngdpnlgnpdkcaaGreatDoorRows.lean that lists a variable, with what it lists TIED to the program's text (the seventh form; the later family's looks); each row that meets fmt, with fmt's text TOLD by the authors' own Lean function (tested against real Go, not proved from fmt's source: count such statements apart). THE CARD IS WHAT COUNTS. Prove the row's statement (the work); the ties are given (YtngdpnlgnpdkcaaGreatDoorTie.lean); close each card by the builder's one call (the guide's Derived/Test/ToyasCard.lean, 'card_holds'). Laid BY PROGRAM, IN A SANDBOX (cutbox-door.mjs). By AI agents, Wed Nov 11 2026. No macro, syntax, notation, axiom, sorry.
-/
import Derived.Test.YtngdpnlgnpdkcaaGreatDoorRows
import GoSem.ClaimSeven
namespace Go.Proofs.YtngdpnlgnpdkcaaGreatDoor
namespace Rows

/-- THE TIED CARD OF 'fingerpostlaw2.WhyFinds'. -/
def whyFindsCard : Claim7 := { stood := { row := whyFindsRow, standIns := [], harness := (true, "e7e43dff0afbfff7c3b15934ea47ac564bf3fc9262cd074ed5397e7ff2ba776d"), looks := true }, kinds := [], alts := [], laidByText := true, laidKinds := [.data, .handle, .sentinel, .sentinel, .sentinel, .sentinel, .sentinel, .sentinel, .sentinel, .sentinel, .sentinel, .sentinel, .sentinel, .pinned], laidTests := true, laidLooks := .later }
def WhyFindsCardSaid : Prop := Claim7.holds Tryz.pinned (.plain (OpenSpec.ofChange whyFindsSpec)) whyFindsCard

/-- THE TIED CARD OF 'fingerpostlaw2.CycleOne'. -/
def cycleOneCard : Claim7 := { stood := { row := cycleOneRow, standIns := [], harness := (true, "e7e43dff0afbfff7c3b15934ea47ac564bf3fc9262cd074ed5397e7ff2ba776d"), looks := true }, kinds := [], alts := [], laidByText := true, laidKinds := [.data, .sentinel, .sentinel, .sentinel, .sentinel, .sentinel, .sentinel, .sentinel, .sentinel, .pinned], laidTests := true, laidLooks := .later }
def CycleOneCardSaid : Prop := Claim7.holds Tryz.pinned (.plain (OpenSpec.ofChange cycleOneSpec)) cycleOneCard

/-- THE TIED CARD OF 'fingerpostlaw2.WhyAll'. -/
def whyAllCard : Claim7 := { stood := { row := whyAllRow, standIns := [], harness := (true, "e7e43dff0afbfff7c3b15934ea47ac564bf3fc9262cd074ed5397e7ff2ba776d"), looks := true }, kinds := [], alts := [], laidByText := true, laidKinds := [.data, .handle, .sentinel, .sentinel, .sentinel, .sentinel, .sentinel, .sentinel, .sentinel, .sentinel, .sentinel, .sentinel, .sentinel, .pinned], laidTests := true, laidLooks := .later }
def WhyAllCardSaid : Prop := Claim7.holds Tryz.pinned (.plain (OpenSpec.ofChange whyAllSpec)) whyAllCard

/-- THE TIED CARD OF 'fingerpostlaw2.WhyChecks'. -/
def whyChecksCard : Claim7 := { stood := { row := whyChecksRow, standIns := [], harness := (true, "e7e43dff0afbfff7c3b15934ea47ac564bf3fc9262cd074ed5397e7ff2ba776d"), looks := true }, kinds := [], alts := [], laidByText := true, laidKinds := [.data, .handle, .sentinel, .sentinel, .sentinel, .sentinel, .sentinel, .sentinel, .sentinel, .sentinel, .sentinel, .sentinel, .sentinel, .pinned], laidTests := true, laidLooks := .later }
def WhyChecksCardSaid : Prop := Claim7.holds Tryz.pinned (.plain (OpenSpec.ofChange whyChecksSpec)) whyChecksCard

/-- THE TIED CARD OF 'fingerpostlaw2.CycleGroups'. -/
def cycleGroupsCard : Claim7 := { stood := { row := cycleGroupsRow, standIns := [], harness := (true, "e7e43dff0afbfff7c3b15934ea47ac564bf3fc9262cd074ed5397e7ff2ba776d"), looks := true }, kinds := [], alts := [], laidByText := true, laidKinds := [.data, .handle, .sentinel, .sentinel, .sentinel, .sentinel, .sentinel, .sentinel, .sentinel, .sentinel, .sentinel, .sentinel, .sentinel, .pinned], laidTests := true, laidLooks := .later }
def CycleGroupsCardSaid : Prop := Claim7.holds Tryz.pinned (.plain (OpenSpec.ofChange cycleGroupsSpec)) cycleGroupsCard

/-- THE SECOND FORM's CARD OF 'fingerpostlaw2.WhyFinds'. -/
def whyFindsUptoCard : Claim7 := { stood := { row := whyFindsUptoRow, standIns := [], harness := (true, "e7e43dff0afbfff7c3b15934ea47ac564bf3fc9262cd074ed5397e7ff2ba776d"), looks := true }, kinds := [], alts := [], laidByText := true, laidKinds := [.data, .handle, .sentinel, .sentinel, .sentinel, .sentinel, .sentinel, .sentinel, .sentinel, .sentinel, .sentinel, .sentinel, .sentinel, .pinned], laidTests := true, laidLooks := .later }
def WhyFindsUptoCardSaid : Prop := Claim7.holds Tryz.pinned (.plain (OpenSpec.upto whyFindsSpec)) whyFindsUptoCard

/-- THE SECOND FORM's CARD OF 'fingerpostlaw2.CycleOne'. -/
def cycleOneUptoCard : Claim7 := { stood := { row := cycleOneUptoRow, standIns := [], harness := (true, "e7e43dff0afbfff7c3b15934ea47ac564bf3fc9262cd074ed5397e7ff2ba776d"), looks := true }, kinds := [], alts := [], laidByText := true, laidKinds := [.data, .sentinel, .sentinel, .sentinel, .sentinel, .sentinel, .sentinel, .sentinel, .sentinel, .pinned], laidTests := true, laidLooks := .later }
def CycleOneUptoCardSaid : Prop := Claim7.holds Tryz.pinned (.plain (OpenSpec.upto cycleOneSpec)) cycleOneUptoCard

/-- THE SECOND FORM's CARD OF 'fingerpostlaw2.WhyAll'. -/
def whyAllUptoCard : Claim7 := { stood := { row := whyAllUptoRow, standIns := [], harness := (true, "e7e43dff0afbfff7c3b15934ea47ac564bf3fc9262cd074ed5397e7ff2ba776d"), looks := true }, kinds := [], alts := [], laidByText := true, laidKinds := [.data, .handle, .sentinel, .sentinel, .sentinel, .sentinel, .sentinel, .sentinel, .sentinel, .sentinel, .sentinel, .sentinel, .sentinel, .pinned], laidTests := true, laidLooks := .later }
def WhyAllUptoCardSaid : Prop := Claim7.holds Tryz.pinned (.plain (OpenSpec.upto whyAllSpec)) whyAllUptoCard

/-- THE SECOND FORM's CARD OF 'fingerpostlaw2.WhyChecks'. -/
def whyChecksUptoCard : Claim7 := { stood := { row := whyChecksUptoRow, standIns := [], harness := (true, "e7e43dff0afbfff7c3b15934ea47ac564bf3fc9262cd074ed5397e7ff2ba776d"), looks := true }, kinds := [], alts := [], laidByText := true, laidKinds := [.data, .handle, .sentinel, .sentinel, .sentinel, .sentinel, .sentinel, .sentinel, .sentinel, .sentinel, .sentinel, .sentinel, .sentinel, .pinned], laidTests := true, laidLooks := .later }
def WhyChecksUptoCardSaid : Prop := Claim7.holds Tryz.pinned (.plain (OpenSpec.upto whyChecksSpec)) whyChecksUptoCard

/-- THE SECOND FORM's CARD OF 'fingerpostlaw2.CycleGroups'. -/
def cycleGroupsUptoCard : Claim7 := { stood := { row := cycleGroupsUptoRow, standIns := [], harness := (true, "e7e43dff0afbfff7c3b15934ea47ac564bf3fc9262cd074ed5397e7ff2ba776d"), looks := true }, kinds := [], alts := [], laidByText := true, laidKinds := [.data, .handle, .sentinel, .sentinel, .sentinel, .sentinel, .sentinel, .sentinel, .sentinel, .sentinel, .sentinel, .sentinel, .sentinel, .pinned], laidTests := true, laidLooks := .later }
def CycleGroupsUptoCardSaid : Prop := Claim7.holds Tryz.pinned (.plain (OpenSpec.upto cycleGroupsSpec)) cycleGroupsUptoCard
end Rows
end Go.Proofs.YtngdpnlgnpdkcaaGreatDoor
