/-
  DERIVED. GIVEN WITH THE SEED: THE CARDS: each row of YtohfdecefikinaaDoorRows.lean that lists a variable, with what it lists TIED to the program's text (the seventh form; the later family's looks); each row that meets fmt, with fmt's text TOLD by the authors' own Lean function (tested against real Go, not proved from fmt's source: count such statements apart). THE CARD IS WHAT COUNTS. Prove the row's statement (the work); the ties are given (YtohfdecefikinaaDoorTie.lean); close each card by the builder's one call (the guide's Derived/Test/ToyasCard.lean, 'card_holds'). Laid BY PROGRAM, IN A SANDBOX (cutbox-door.mjs). By AI agents, Wed Nov 11 2026. No macro, syntax, notation, axiom, sorry.
-/
import Derived.Test.YtohfdecefikinaaDoorRows
import GoSem.ClaimSeven
namespace Go.Proofs.YtohfdecefikinaaDoor
namespace Rows

/-- THE TIED CARD OF 'fingerpostlaw1.ConsOrder'. -/
def consOrderCard : Claim7 := { stood := { row := consOrderRow, standIns := [], harness := (true, "cc2cc57e8a596ffa04d9a74d40743d3611133a6b82e35ba6855455b73ae52605"), looks := true }, kinds := [], alts := [], laidByText := true, laidKinds := [.data, .sentinel, .sentinel, .sentinel, .sentinel, .sentinel, .sentinel, .sentinel, .sentinel, .pinned], laidTests := true, laidLooks := .later }
def ConsOrderCardSaid : Prop := Claim7.holds Tryd.pinned (.plain (OpenSpec.ofChange consOrderSpec)) consOrderCard

/-- THE SECOND FORM's CARD OF 'fingerpostlaw1.ConsOrder'. -/
def consOrderUptoCard : Claim7 := { stood := { row := consOrderUptoRow, standIns := [], harness := (true, "cc2cc57e8a596ffa04d9a74d40743d3611133a6b82e35ba6855455b73ae52605"), looks := true }, kinds := [], alts := [], laidByText := true, laidKinds := [.data, .sentinel, .sentinel, .sentinel, .sentinel, .sentinel, .sentinel, .sentinel, .sentinel, .pinned], laidTests := true, laidLooks := .later }
def ConsOrderUptoCardSaid : Prop := Claim7.holds Tryd.pinned (.plain (OpenSpec.upto consOrderSpec)) consOrderUptoCard
end Rows
end Go.Proofs.YtohfdecefikinaaDoor
