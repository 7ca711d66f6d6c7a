/-
  DERIVED. GIVEN WITH THE SEED: THE CARDS: each row of YtoaoienfggjepaaGreatDoorRows.lean that lists a variable, with what it lists TIED to the program's text (the seventh form; the later family's looks); each row that meets fmt, with fmt's text TOLD by the authors' own Lean function (tested against real Go, not proved from fmt's source: count such statements apart). THE CARD IS WHAT COUNTS. Prove the row's statement (the work); the ties are given (YtoaoienfggjepaaGreatDoorTie.lean); close each card by the builder's one call (the guide's Derived/Test/ToyasCard.lean, 'card_holds'). Laid BY PROGRAM, IN A SANDBOX (cutbox-door.mjs). By AI agents, Wed Nov 11 2026. No macro, syntax, notation, axiom, sorry.
-/
import Derived.Test.YtoaoienfggjepaaGreatDoorRows
import GoSem.ClaimSeven
namespace Go.Proofs.YtoaoienfggjepaaGreatDoor
namespace Rows

/-- THE TIED CARD OF 'fingerpostlaw1.SetLaws'. -/
def setLawsCard : Claim7 := { stood := { row := setLawsRow, standIns := [], harness := (true, "399d5529c2f56f26f70a8964c0f35d371d718427ec194a34a022655c6c8f743e"), looks := true }, kinds := [], alts := [], laidByText := true, laidKinds := [.data, .data, .data, .data, .sentinel, .sentinel, .sentinel, .sentinel, .sentinel, .pinned], laidTests := true, laidLooks := .later }
def SetLawsCardSaid : Prop := Claim7.holds Tryz.pinned (.plain (OpenSpec.ofChange setLawsSpec)) setLawsCard

/-- THE TIED CARD OF 'fingerpostlaw2.CallsAlias'. -/
def callsAliasCard : Claim7 := { stood := { row := callsAliasRow, standIns := [], harness := (true, "399d5529c2f56f26f70a8964c0f35d371d718427ec194a34a022655c6c8f743e"), looks := true }, kinds := [], alts := [], laidByText := true, laidKinds := [.data, .sentinel, .sentinel, .sentinel, .sentinel, .sentinel, .sentinel, .sentinel, .sentinel, .pinned], laidTests := true, laidLooks := .later }
def CallsAliasCardSaid : Prop := Claim7.holds Tryz.pinned (.plain (OpenSpec.ofChange callsAliasSpec)) callsAliasCard

/-- THE TIED CARD OF 'fingerpostlaw2.FixSound'. -/
def fixSoundCard : Claim7 := { stood := { row := fixSoundRow, standIns := [], harness := (true, "399d5529c2f56f26f70a8964c0f35d371d718427ec194a34a022655c6c8f743e"), looks := true }, kinds := [], alts := [], laidByText := true, laidKinds := [.data, .sentinel, .sentinel, .sentinel, .sentinel, .sentinel, .sentinel, .sentinel, .sentinel, .pinned], laidTests := true, laidLooks := .later }
def FixSoundCardSaid : Prop := Claim7.holds Tryz.pinned (.plain (OpenSpec.ofChange fixSoundSpec)) fixSoundCard

/-- THE TIED CARD OF 'fingerpostlaw2.CallsMay'. -/
def callsMayCard : Claim7 := { stood := { row := callsMayRow, standIns := [], harness := (true, "399d5529c2f56f26f70a8964c0f35d371d718427ec194a34a022655c6c8f743e"), looks := true }, kinds := [], alts := [], laidByText := true, laidKinds := [.data, .sentinel, .sentinel, .sentinel, .sentinel, .sentinel, .sentinel, .sentinel, .sentinel, .pinned], laidTests := true, laidLooks := .later }
def CallsMayCardSaid : Prop := Claim7.holds Tryz.pinned (.plain (OpenSpec.ofChange callsMaySpec)) callsMayCard

/-- THE TIED CARD OF 'fingerpostlaw2.FixLeast'. -/
def fixLeastCard : Claim7 := { stood := { row := fixLeastRow, standIns := [], harness := (true, "399d5529c2f56f26f70a8964c0f35d371d718427ec194a34a022655c6c8f743e"), looks := true }, kinds := [], alts := [], laidByText := true, laidKinds := [.data, .handle, .sentinel, .sentinel, .sentinel, .sentinel, .sentinel, .sentinel, .sentinel, .sentinel, .sentinel, .sentinel, .sentinel, .pinned], laidTests := true, laidLooks := .later }
def FixLeastCardSaid : Prop := Claim7.holds Tryz.pinned (.plain (OpenSpec.ofChange fixLeastSpec)) fixLeastCard

/-- THE TIED CARD OF 'fingerpostlaw2.CallsTell'. -/
def callsTellCard : Claim7 := { stood := { row := callsTellRow, standIns := [], harness := (true, "399d5529c2f56f26f70a8964c0f35d371d718427ec194a34a022655c6c8f743e"), looks := true }, kinds := [], alts := [], laidByText := true, laidKinds := [.data, .handle, .sentinel, .sentinel, .sentinel, .sentinel, .sentinel, .sentinel, .sentinel, .sentinel, .sentinel, .sentinel, .sentinel, .pinned], laidTests := true, laidLooks := .later }
def CallsTellCardSaid : Prop := Claim7.holds Tryz.pinned (.plain (OpenSpec.ofChange callsTellSpec)) callsTellCard

/-- THE SECOND FORM's CARD OF 'fingerpostlaw1.SetLaws'. -/
def setLawsUptoCard : Claim7 := { stood := { row := setLawsUptoRow, standIns := [], harness := (true, "399d5529c2f56f26f70a8964c0f35d371d718427ec194a34a022655c6c8f743e"), looks := true }, kinds := [], alts := [], laidByText := true, laidKinds := [.data, .data, .data, .data, .sentinel, .sentinel, .sentinel, .sentinel, .sentinel, .pinned], laidTests := true, laidLooks := .later }
def SetLawsUptoCardSaid : Prop := Claim7.holds Tryz.pinned (.plain (OpenSpec.upto setLawsSpec)) setLawsUptoCard

/-- THE SECOND FORM's CARD OF 'fingerpostlaw2.CallsAlias'. -/
def callsAliasUptoCard : Claim7 := { stood := { row := callsAliasUptoRow, standIns := [], harness := (true, "399d5529c2f56f26f70a8964c0f35d371d718427ec194a34a022655c6c8f743e"), looks := true }, kinds := [], alts := [], laidByText := true, laidKinds := [.data, .sentinel, .sentinel, .sentinel, .sentinel, .sentinel, .sentinel, .sentinel, .sentinel, .pinned], laidTests := true, laidLooks := .later }
def CallsAliasUptoCardSaid : Prop := Claim7.holds Tryz.pinned (.plain (OpenSpec.upto callsAliasSpec)) callsAliasUptoCard

/-- THE SECOND FORM's CARD OF 'fingerpostlaw2.FixSound'. -/
def fixSoundUptoCard : Claim7 := { stood := { row := fixSoundUptoRow, standIns := [], harness := (true, "399d5529c2f56f26f70a8964c0f35d371d718427ec194a34a022655c6c8f743e"), looks := true }, kinds := [], alts := [], laidByText := true, laidKinds := [.data, .sentinel, .sentinel, .sentinel, .sentinel, .sentinel, .sentinel, .sentinel, .sentinel, .pinned], laidTests := true, laidLooks := .later }
def FixSoundUptoCardSaid : Prop := Claim7.holds Tryz.pinned (.plain (OpenSpec.upto fixSoundSpec)) fixSoundUptoCard

/-- THE SECOND FORM's CARD OF 'fingerpostlaw2.CallsMay'. -/
def callsMayUptoCard : Claim7 := { stood := { row := callsMayUptoRow, standIns := [], harness := (true, "399d5529c2f56f26f70a8964c0f35d371d718427ec194a34a022655c6c8f743e"), looks := true }, kinds := [], alts := [], laidByText := true, laidKinds := [.data, .sentinel, .sentinel, .sentinel, .sentinel, .sentinel, .sentinel, .sentinel, .sentinel, .pinned], laidTests := true, laidLooks := .later }
def CallsMayUptoCardSaid : Prop := Claim7.holds Tryz.pinned (.plain (OpenSpec.upto callsMaySpec)) callsMayUptoCard

/-- THE SECOND FORM's CARD OF 'fingerpostlaw2.FixLeast'. -/
def fixLeastUptoCard : Claim7 := { stood := { row := fixLeastUptoRow, standIns := [], harness := (true, "399d5529c2f56f26f70a8964c0f35d371d718427ec194a34a022655c6c8f743e"), looks := true }, kinds := [], alts := [], laidByText := true, laidKinds := [.data, .handle, .sentinel, .sentinel, .sentinel, .sentinel, .sentinel, .sentinel, .sentinel, .sentinel, .sentinel, .sentinel, .sentinel, .pinned], laidTests := true, laidLooks := .later }
def FixLeastUptoCardSaid : Prop := Claim7.holds Tryz.pinned (.plain (OpenSpec.upto fixLeastSpec)) fixLeastUptoCard

/-- THE SECOND FORM's CARD OF 'fingerpostlaw2.CallsTell'. -/
def callsTellUptoCard : Claim7 := { stood := { row := callsTellUptoRow, standIns := [], harness := (true, "399d5529c2f56f26f70a8964c0f35d371d718427ec194a34a022655c6c8f743e"), looks := true }, kinds := [], alts := [], laidByText := true, laidKinds := [.data, .handle, .sentinel, .sentinel, .sentinel, .sentinel, .sentinel, .sentinel, .sentinel, .sentinel, .sentinel, .sentinel, .sentinel, .pinned], laidTests := true, laidLooks := .later }
def CallsTellUptoCardSaid : Prop := Claim7.holds Tryz.pinned (.plain (OpenSpec.upto callsTellSpec)) callsTellUptoCard
end Rows
end Go.Proofs.YtoaoienfggjepaaGreatDoor
