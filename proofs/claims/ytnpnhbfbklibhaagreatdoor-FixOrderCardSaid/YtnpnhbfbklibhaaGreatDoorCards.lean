/-
  DERIVED. GIVEN WITH THE SEED: THE CARDS: each row of YtnpnhbfbklibhaaGreatDoorRows.lean that lists a variable, with what it lists TIED to the program's text (the seventh form; the later family's looks); each row that meets fmt, with fmt's text TOLD by the authors' own Lean function (tested against real Go, not proved from fmt's source: count such statements apart). THE CARD IS WHAT COUNTS. Prove the row's statement (the work); the ties are given (YtnpnhbfbklibhaaGreatDoorTie.lean); close each card by the builder's one call (the guide's Derived/Test/ToyasCard.lean, 'card_holds'). Laid BY PROGRAM, IN A SANDBOX (cutbox-door.mjs). By AI agents, Wed Nov 11 2026. No macro, syntax, notation, axiom, sorry.
-/
import Derived.Test.YtnpnhbfbklibhaaGreatDoorRows
import GoSem.ClaimSeven
namespace Go.Proofs.YtnpnhbfbklibhaaGreatDoor
namespace Rows

/-- THE TIED CARD OF 'fingerpostlaw2.FixOrder'. -/
def fixOrderCard : Claim7 := { stood := { row := fixOrderRow, standIns := [], harness := (true, "19eab8ef153bc35b8a1cf44d27acd5408bf736b8d6aac21af828a491c4d48905"), looks := true }, kinds := [], alts := [], laidByText := true, laidKinds := [.data, .sentinel, .sentinel, .sentinel, .sentinel, .sentinel, .sentinel, .sentinel, .sentinel, .pinned], laidTests := true, laidLooks := .later }
def FixOrderCardSaid : Prop := Claim7.holds Tryz.pinned (.plain (OpenSpec.ofChange fixOrderSpec)) fixOrderCard

/-- THE TIED CARD OF 'fingerpostlaw2.FixClosed'. -/
def fixClosedCard : Claim7 := { stood := { row := fixClosedRow, standIns := [], harness := (true, "19eab8ef153bc35b8a1cf44d27acd5408bf736b8d6aac21af828a491c4d48905"), looks := true }, kinds := [], alts := [], laidByText := true, laidKinds := [.data, .sentinel, .sentinel, .sentinel, .sentinel, .sentinel, .sentinel, .sentinel, .sentinel, .pinned], laidTests := true, laidLooks := .later }
def FixClosedCardSaid : Prop := Claim7.holds Tryz.pinned (.plain (OpenSpec.ofChange fixClosedSpec)) fixClosedCard

/-- THE TIED CARD OF 'fingerpostlaw2.FixLeast'. -/
def fixLeastCard : Claim7 := { stood := { row := fixLeastRow, standIns := [], harness := (true, "19eab8ef153bc35b8a1cf44d27acd5408bf736b8d6aac21af828a491c4d48905"), looks := true }, kinds := [], alts := [], laidByText := true, laidKinds := [.data, .handle, .sentinel, .sentinel, .sentinel, .sentinel, .sentinel, .sentinel, .sentinel, .sentinel, .sentinel, .sentinel, .sentinel, .pinned], laidTests := true, laidLooks := .later }
def FixLeastCardSaid : Prop := Claim7.holds Tryz.pinned (.plain (OpenSpec.ofChange fixLeastSpec)) fixLeastCard

/-- THE SECOND FORM's CARD OF 'fingerpostlaw2.FixOrder'. -/
def fixOrderUptoCard : Claim7 := { stood := { row := fixOrderUptoRow, standIns := [], harness := (true, "19eab8ef153bc35b8a1cf44d27acd5408bf736b8d6aac21af828a491c4d48905"), looks := true }, kinds := [], alts := [], laidByText := true, laidKinds := [.data, .sentinel, .sentinel, .sentinel, .sentinel, .sentinel, .sentinel, .sentinel, .sentinel, .pinned], laidTests := true, laidLooks := .later }
def FixOrderUptoCardSaid : Prop := Claim7.holds Tryz.pinned (.plain (OpenSpec.upto fixOrderSpec)) fixOrderUptoCard

/-- THE SECOND FORM's CARD OF 'fingerpostlaw2.FixClosed'. -/
def fixClosedUptoCard : Claim7 := { stood := { row := fixClosedUptoRow, standIns := [], harness := (true, "19eab8ef153bc35b8a1cf44d27acd5408bf736b8d6aac21af828a491c4d48905"), looks := true }, kinds := [], alts := [], laidByText := true, laidKinds := [.data, .sentinel, .sentinel, .sentinel, .sentinel, .sentinel, .sentinel, .sentinel, .sentinel, .pinned], laidTests := true, laidLooks := .later }
def FixClosedUptoCardSaid : Prop := Claim7.holds Tryz.pinned (.plain (OpenSpec.upto fixClosedSpec)) fixClosedUptoCard

/-- THE SECOND FORM's CARD OF 'fingerpostlaw2.FixLeast'. -/
def fixLeastUptoCard : Claim7 := { stood := { row := fixLeastUptoRow, standIns := [], harness := (true, "19eab8ef153bc35b8a1cf44d27acd5408bf736b8d6aac21af828a491c4d48905"), looks := true }, kinds := [], alts := [], laidByText := true, laidKinds := [.data, .handle, .sentinel, .sentinel, .sentinel, .sentinel, .sentinel, .sentinel, .sentinel, .sentinel, .sentinel, .sentinel, .sentinel, .pinned], laidTests := true, laidLooks := .later }
def FixLeastUptoCardSaid : Prop := Claim7.holds Tryz.pinned (.plain (OpenSpec.upto fixLeastSpec)) fixLeastUptoCard
end Rows
end Go.Proofs.YtnpnhbfbklibhaaGreatDoor
