/-
  DERIVED. GIVEN WITH THE SEED: THE CARDS: each row of YtmdcjfgdmmncpaaDoorRows.lean that lists a variable, with what it lists TIED to the program's text (the seventh form; the later family's looks); each row that meets fmt, with fmt's text TOLD by the authors' own Lean function (tested against real Go, not proved from fmt's source: count such statements apart). THE CARD IS WHAT COUNTS. Prove the row's statement (the work); the ties are given (YtmdcjfgdmmncpaaDoorTie.lean); close each card by the builder's one call (the guide's Derived/Test/ToyasCard.lean, 'card_holds'). Laid BY PROGRAM, IN A SANDBOX (cutbox-door.mjs). By AI agents, Wed Nov 11 2026. No macro, syntax, notation, axiom, sorry.
-/
import Derived.Test.YtmdcjfgdmmncpaaDoorRows
import GoSem.ClaimSeven
namespace Go.Proofs.YtmdcjfgdmmncpaaDoor
namespace Rows

/-- THE TIED CARD OF 'fingerpostlaw3.FrameApart'. -/
def frameApartCard : Claim7 := { stood := { row := frameApartRow, standIns := [], harness := (true, "e66fa509f57616bbc9996bc9b78f473779092fe48419258c4cec2edc2abebd43"), looks := true }, kinds := [], alts := [], laidByText := true, laidKinds := [.sentinel, .sentinel, .sentinel, .sentinel, .sentinel, .sentinel], laidTests := true, laidLooks := .later }
def FrameApartCardSaid : Prop := Claim7.holds Tryd.pinned (.plain (OpenSpec.ofChange frameApartSpec)) frameApartCard

/-- THE TIED CARD OF 'fingerpostlaw3.RingOver'. -/
def ringOverCard : Claim7 := { stood := { row := ringOverRow, standIns := [], harness := (true, "e66fa509f57616bbc9996bc9b78f473779092fe48419258c4cec2edc2abebd43"), looks := true }, kinds := [], alts := [], laidByText := true, laidKinds := [.sentinel], laidTests := true, laidLooks := .later }
def RingOverCardSaid : Prop := Claim7.holds Tryd.pinned (.plain (OpenSpec.ofChange ringOverSpec)) ringOverCard

/-- THE TIED CARD OF 'fingerpostlaw3.RingCounts'. -/
def ringCountsCard : Claim7 := { stood := { row := ringCountsRow, standIns := [], harness := (true, "e66fa509f57616bbc9996bc9b78f473779092fe48419258c4cec2edc2abebd43"), looks := true }, kinds := [], alts := [], laidByText := true, laidKinds := [.sentinel], laidTests := true, laidLooks := .later }
def RingCountsCardSaid : Prop := Claim7.holds Tryd.pinned (.plain (OpenSpec.ofChange ringCountsSpec)) ringCountsCard

/-- THE TIED CARD OF 'fingerpostlaw3.LinkOnce'. -/
def linkOnceCard : Claim7 := { stood := { row := linkOnceRow, standIns := [], harness := (true, "e66fa509f57616bbc9996bc9b78f473779092fe48419258c4cec2edc2abebd43"), looks := true }, kinds := [], alts := [], laidByText := true, laidKinds := [.sentinel, .sentinel, .sentinel, .sentinel], laidTests := true, laidLooks := .later }
def LinkOnceCardSaid : Prop := Claim7.holds Tryd.pinned (.plain (OpenSpec.ofChange linkOnceSpec)) linkOnceCard

/-- THE TIED CARD OF 'fingerpostlaw3.LinkTicks'. -/
def linkTicksCard : Claim7 := { stood := { row := linkTicksRow, standIns := [], harness := (true, "e66fa509f57616bbc9996bc9b78f473779092fe48419258c4cec2edc2abebd43"), looks := true }, kinds := [], alts := [], laidByText := true, laidKinds := [.sentinel, .sentinel, .sentinel, .sentinel], laidTests := true, laidLooks := .later }
def LinkTicksCardSaid : Prop := Claim7.holds Tryd.pinned (.plain (OpenSpec.ofChange linkTicksSpec)) linkTicksCard

/-- THE TIED CARD OF 'fingerpostlaw1.Names'. -/
def namesCard : Claim7 := { stood := { row := namesRow, standIns := [], harness := (true, "e66fa509f57616bbc9996bc9b78f473779092fe48419258c4cec2edc2abebd43"), looks := true }, kinds := [], alts := [], laidByText := true, laidKinds := [.handle, .sentinel, .sentinel, .sentinel, .sentinel, .sentinel, .sentinel, .sentinel, .sentinel, .sentinel, .sentinel, .sentinel], laidTests := true, laidLooks := .later }
def NamesCardSaid : Prop := Claim7.holds Tryd.pinned (.plain (OpenSpec.ofChange namesSpec)) namesCard

/-- THE TIED CARD OF 'fingerpostlaw3.FrameTells'. -/
def frameTellsCard : Claim7 := { stood := { row := frameTellsRow, standIns := [], harness := (true, "e66fa509f57616bbc9996bc9b78f473779092fe48419258c4cec2edc2abebd43"), looks := true }, kinds := [], alts := [], laidByText := true, laidKinds := [.handle, .sentinel, .sentinel, .sentinel, .sentinel, .sentinel, .sentinel, .sentinel, .sentinel, .sentinel, .sentinel, .sentinel], laidTests := true, laidLooks := .later }
def FrameTellsCardSaid : Prop := Claim7.holds Tryd.pinned (.plain (OpenSpec.ofChange frameTellsSpec)) frameTellsCard

/-- THE TIED CARD OF 'fingerpostlaw3.FrameBits'. -/
def frameBitsCard : Claim7 := { stood := { row := frameBitsRow, standIns := [], harness := (true, "e66fa509f57616bbc9996bc9b78f473779092fe48419258c4cec2edc2abebd43"), looks := true }, kinds := [], alts := [], laidByText := true, laidKinds := [.handle, .sentinel, .sentinel, .sentinel, .sentinel, .sentinel, .sentinel, .sentinel, .sentinel, .sentinel, .sentinel, .sentinel], laidTests := true, laidLooks := .later }
def FrameBitsCardSaid : Prop := Claim7.holds Tryd.pinned (.plain (OpenSpec.ofChange frameBitsSpec)) frameBitsCard

/-- THE TIED CARD OF 'fingerpostlaw3.RingPlays'. -/
def ringPlaysCard : Claim7 := { stood := { row := ringPlaysRow, standIns := [], harness := (true, "e66fa509f57616bbc9996bc9b78f473779092fe48419258c4cec2edc2abebd43"), looks := true }, kinds := [], alts := [], laidByText := true, laidKinds := [.handle, .sentinel, .sentinel, .sentinel, .sentinel, .sentinel, .sentinel, .sentinel, .sentinel, .sentinel, .sentinel, .sentinel], laidTests := true, laidLooks := .later }
def RingPlaysCardSaid : Prop := Claim7.holds Tryd.pinned (.plain (OpenSpec.ofChange ringPlaysSpec)) ringPlaysCard

/-- THE TIED CARD OF 'fingerpostlaw3.LinkActs'. -/
def linkActsCard : Claim7 := { stood := { row := linkActsRow, standIns := [], harness := (true, "e66fa509f57616bbc9996bc9b78f473779092fe48419258c4cec2edc2abebd43"), looks := true }, kinds := [], alts := [], laidByText := true, laidKinds := [.handle, .sentinel, .sentinel, .sentinel, .sentinel, .sentinel, .sentinel, .sentinel, .sentinel, .sentinel, .sentinel, .sentinel], laidTests := true, laidLooks := .later }
def LinkActsCardSaid : Prop := Claim7.holds Tryd.pinned (.plain (OpenSpec.ofChange linkActsSpec)) linkActsCard

/-- THE SECOND FORM's CARD OF 'fingerpostlaw3.FrameApart'. -/
def frameApartUptoCard : Claim7 := { stood := { row := frameApartUptoRow, standIns := [], harness := (true, "e66fa509f57616bbc9996bc9b78f473779092fe48419258c4cec2edc2abebd43"), looks := true }, kinds := [], alts := [], laidByText := true, laidKinds := [.sentinel, .sentinel, .sentinel, .sentinel, .sentinel, .sentinel], laidTests := true, laidLooks := .later }
def FrameApartUptoCardSaid : Prop := Claim7.holds Tryd.pinned (.plain (OpenSpec.upto frameApartSpec)) frameApartUptoCard

/-- THE SECOND FORM's CARD OF 'fingerpostlaw3.RingOver'. -/
def ringOverUptoCard : Claim7 := { stood := { row := ringOverUptoRow, standIns := [], harness := (true, "e66fa509f57616bbc9996bc9b78f473779092fe48419258c4cec2edc2abebd43"), looks := true }, kinds := [], alts := [], laidByText := true, laidKinds := [.sentinel], laidTests := true, laidLooks := .later }
def RingOverUptoCardSaid : Prop := Claim7.holds Tryd.pinned (.plain (OpenSpec.upto ringOverSpec)) ringOverUptoCard

/-- THE SECOND FORM's CARD OF 'fingerpostlaw3.RingCounts'. -/
def ringCountsUptoCard : Claim7 := { stood := { row := ringCountsUptoRow, standIns := [], harness := (true, "e66fa509f57616bbc9996bc9b78f473779092fe48419258c4cec2edc2abebd43"), looks := true }, kinds := [], alts := [], laidByText := true, laidKinds := [.sentinel], laidTests := true, laidLooks := .later }
def RingCountsUptoCardSaid : Prop := Claim7.holds Tryd.pinned (.plain (OpenSpec.upto ringCountsSpec)) ringCountsUptoCard

/-- THE SECOND FORM's CARD OF 'fingerpostlaw3.LinkOnce'. -/
def linkOnceUptoCard : Claim7 := { stood := { row := linkOnceUptoRow, standIns := [], harness := (true, "e66fa509f57616bbc9996bc9b78f473779092fe48419258c4cec2edc2abebd43"), looks := true }, kinds := [], alts := [], laidByText := true, laidKinds := [.sentinel, .sentinel, .sentinel, .sentinel], laidTests := true, laidLooks := .later }
def LinkOnceUptoCardSaid : Prop := Claim7.holds Tryd.pinned (.plain (OpenSpec.upto linkOnceSpec)) linkOnceUptoCard

/-- THE SECOND FORM's CARD OF 'fingerpostlaw3.LinkTicks'. -/
def linkTicksUptoCard : Claim7 := { stood := { row := linkTicksUptoRow, standIns := [], harness := (true, "e66fa509f57616bbc9996bc9b78f473779092fe48419258c4cec2edc2abebd43"), looks := true }, kinds := [], alts := [], laidByText := true, laidKinds := [.sentinel, .sentinel, .sentinel, .sentinel], laidTests := true, laidLooks := .later }
def LinkTicksUptoCardSaid : Prop := Claim7.holds Tryd.pinned (.plain (OpenSpec.upto linkTicksSpec)) linkTicksUptoCard

/-- THE SECOND FORM's CARD OF 'fingerpostlaw1.Names'. -/
def namesUptoCard : Claim7 := { stood := { row := namesUptoRow, standIns := [], harness := (true, "e66fa509f57616bbc9996bc9b78f473779092fe48419258c4cec2edc2abebd43"), looks := true }, kinds := [], alts := [], laidByText := true, laidKinds := [.handle, .sentinel, .sentinel, .sentinel, .sentinel, .sentinel, .sentinel, .sentinel, .sentinel, .sentinel, .sentinel, .sentinel], laidTests := true, laidLooks := .later }
def NamesUptoCardSaid : Prop := Claim7.holds Tryd.pinned (.plain (OpenSpec.upto namesSpec)) namesUptoCard

/-- THE SECOND FORM's CARD OF 'fingerpostlaw3.FrameTells'. -/
def frameTellsUptoCard : Claim7 := { stood := { row := frameTellsUptoRow, standIns := [], harness := (true, "e66fa509f57616bbc9996bc9b78f473779092fe48419258c4cec2edc2abebd43"), looks := true }, kinds := [], alts := [], laidByText := true, laidKinds := [.handle, .sentinel, .sentinel, .sentinel, .sentinel, .sentinel, .sentinel, .sentinel, .sentinel, .sentinel, .sentinel, .sentinel], laidTests := true, laidLooks := .later }
def FrameTellsUptoCardSaid : Prop := Claim7.holds Tryd.pinned (.plain (OpenSpec.upto frameTellsSpec)) frameTellsUptoCard

/-- THE SECOND FORM's CARD OF 'fingerpostlaw3.FrameBits'. -/
def frameBitsUptoCard : Claim7 := { stood := { row := frameBitsUptoRow, standIns := [], harness := (true, "e66fa509f57616bbc9996bc9b78f473779092fe48419258c4cec2edc2abebd43"), looks := true }, kinds := [], alts := [], laidByText := true, laidKinds := [.handle, .sentinel, .sentinel, .sentinel, .sentinel, .sentinel, .sentinel, .sentinel, .sentinel, .sentinel, .sentinel, .sentinel], laidTests := true, laidLooks := .later }
def FrameBitsUptoCardSaid : Prop := Claim7.holds Tryd.pinned (.plain (OpenSpec.upto frameBitsSpec)) frameBitsUptoCard

/-- THE SECOND FORM's CARD OF 'fingerpostlaw3.RingPlays'. -/
def ringPlaysUptoCard : Claim7 := { stood := { row := ringPlaysUptoRow, standIns := [], harness := (true, "e66fa509f57616bbc9996bc9b78f473779092fe48419258c4cec2edc2abebd43"), looks := true }, kinds := [], alts := [], laidByText := true, laidKinds := [.handle, .sentinel, .sentinel, .sentinel, .sentinel, .sentinel, .sentinel, .sentinel, .sentinel, .sentinel, .sentinel, .sentinel], laidTests := true, laidLooks := .later }
def RingPlaysUptoCardSaid : Prop := Claim7.holds Tryd.pinned (.plain (OpenSpec.upto ringPlaysSpec)) ringPlaysUptoCard

/-- THE SECOND FORM's CARD OF 'fingerpostlaw3.LinkActs'. -/
def linkActsUptoCard : Claim7 := { stood := { row := linkActsUptoRow, standIns := [], harness := (true, "e66fa509f57616bbc9996bc9b78f473779092fe48419258c4cec2edc2abebd43"), looks := true }, kinds := [], alts := [], laidByText := true, laidKinds := [.handle, .sentinel, .sentinel, .sentinel, .sentinel, .sentinel, .sentinel, .sentinel, .sentinel, .sentinel, .sentinel, .sentinel], laidTests := true, laidLooks := .later }
def LinkActsUptoCardSaid : Prop := Claim7.holds Tryd.pinned (.plain (OpenSpec.upto linkActsSpec)) linkActsUptoCard
end Rows
end Go.Proofs.YtmdcjfgdmmncpaaDoor
