/-
  DERIVED. GIVEN WITH THE SEED: THE CARDS: each row of YtdppgcbekhabnaaGreatDoorRows.lean that lists a variable, with what it lists TIED to the program's text (the seventh form; the later family's looks); each row that meets fmt, with fmt's text TOLD by the authors' own Lean function (tested against real Go, not proved from fmt's source: count such statements apart). THE CARD IS WHAT COUNTS. Prove the row's statement (the work); the ties are given (YtdppgcbekhabnaaGreatDoorTie.lean); close each card by the builder's one call (the guide's Derived/Test/ToyasCard.lean, 'card_holds'). Laid BY PROGRAM, IN A SANDBOX (cutbox-door.mjs). By AI agents, Wed Nov 11 2026. No macro, syntax, notation, axiom, sorry.
-/
import Derived.Test.YtdppgcbekhabnaaGreatDoorRows
import GoSem.ClaimSeven
namespace Go.Proofs.YtdppgcbekhabnaaGreatDoor
namespace Rows

/-- THE TIED CARD OF 'fingerpostlaw2.SolveSteps'. -/
def solveStepsCard : Claim7 := { stood := { row := solveStepsRow, standIns := [], harness := (true, "f8a2287acd023d9301c97b89d7aa135f3f9ffc28090ffaecfcd23b74cf5957c8"), looks := true }, kinds := [], alts := [], laidByText := true, laidKinds := [.data, .handle, .sentinel, .sentinel, .sentinel, .sentinel, .sentinel, .sentinel, .sentinel, .sentinel, .sentinel, .sentinel, .sentinel, .pinned], laidTests := true, laidLooks := .later }
def SolveStepsCardSaid : Prop := Claim7.holds Tryz.pinned (.plain (OpenSpec.ofChange solveStepsSpec)) solveStepsCard

/-- THE TIED CARD OF 'fingerpostlaw2.WhyFinds'. -/
def whyFindsCard : Claim7 := { stood := { row := whyFindsRow, standIns := [], harness := (true, "f8a2287acd023d9301c97b89d7aa135f3f9ffc28090ffaecfcd23b74cf5957c8"), looks := true }, kinds := [], alts := [], laidByText := true, laidKinds := [.data, .handle, .sentinel, .sentinel, .sentinel, .sentinel, .sentinel, .sentinel, .sentinel, .sentinel, .sentinel, .sentinel, .sentinel, .pinned], laidTests := true, laidLooks := .later }
def WhyFindsCardSaid : Prop := Claim7.holds Tryz.pinned (.plain (OpenSpec.ofChange whyFindsSpec)) whyFindsCard

/-- THE TIED CARD OF 'fingerpostlaw2.SolveFix'. -/
def solveFixCard : Claim7 := { stood := { row := solveFixRow, standIns := [], harness := (true, "f8a2287acd023d9301c97b89d7aa135f3f9ffc28090ffaecfcd23b74cf5957c8"), looks := true }, kinds := [], alts := [], laidByText := true, laidKinds := [.data, .sentinel, .sentinel, .sentinel, .sentinel, .sentinel, .sentinel, .sentinel, .sentinel, .pinned], laidTests := true, laidLooks := .later }
def SolveFixCardSaid : Prop := Claim7.holds Tryz.pinned (.plain (OpenSpec.ofChange solveFixSpec)) solveFixCard

/-- THE TIED CARD OF 'fingerpostlaw2.SolveAdds'. -/
def solveAddsCard : Claim7 := { stood := { row := solveAddsRow, standIns := [], harness := (true, "f8a2287acd023d9301c97b89d7aa135f3f9ffc28090ffaecfcd23b74cf5957c8"), looks := true }, kinds := [], alts := [], laidByText := true, laidKinds := [.data, .handle, .sentinel, .sentinel, .sentinel, .sentinel, .sentinel, .sentinel, .sentinel, .sentinel, .sentinel, .sentinel, .sentinel, .pinned], laidTests := true, laidLooks := .later }
def SolveAddsCardSaid : Prop := Claim7.holds Tryz.pinned (.plain (OpenSpec.ofChange solveAddsSpec)) solveAddsCard

/-- THE TIED CARD OF 'fingerpostlaw2.WhyAll'. -/
def whyAllCard : Claim7 := { stood := { row := whyAllRow, standIns := [], harness := (true, "f8a2287acd023d9301c97b89d7aa135f3f9ffc28090ffaecfcd23b74cf5957c8"), looks := true }, kinds := [], alts := [], laidByText := true, laidKinds := [.data, .handle, .sentinel, .sentinel, .sentinel, .sentinel, .sentinel, .sentinel, .sentinel, .sentinel, .sentinel, .sentinel, .sentinel, .pinned], laidTests := true, laidLooks := .later }
def WhyAllCardSaid : Prop := Claim7.holds Tryz.pinned (.plain (OpenSpec.ofChange whyAllSpec)) whyAllCard

/-- THE TIED CARD OF 'fingerpostlaw2.WhyChecks'. -/
def whyChecksCard : Claim7 := { stood := { row := whyChecksRow, standIns := [], harness := (true, "f8a2287acd023d9301c97b89d7aa135f3f9ffc28090ffaecfcd23b74cf5957c8"), looks := true }, kinds := [], alts := [], laidByText := true, laidKinds := [.data, .handle, .sentinel, .sentinel, .sentinel, .sentinel, .sentinel, .sentinel, .sentinel, .sentinel, .sentinel, .sentinel, .sentinel, .pinned], laidTests := true, laidLooks := .later }
def WhyChecksCardSaid : Prop := Claim7.holds Tryz.pinned (.plain (OpenSpec.ofChange whyChecksSpec)) whyChecksCard

/-- THE SECOND FORM's CARD OF 'fingerpostlaw2.SolveSteps'. -/
def solveStepsUptoCard : Claim7 := { stood := { row := solveStepsUptoRow, standIns := [], harness := (true, "f8a2287acd023d9301c97b89d7aa135f3f9ffc28090ffaecfcd23b74cf5957c8"), looks := true }, kinds := [], alts := [], laidByText := true, laidKinds := [.data, .handle, .sentinel, .sentinel, .sentinel, .sentinel, .sentinel, .sentinel, .sentinel, .sentinel, .sentinel, .sentinel, .sentinel, .pinned], laidTests := true, laidLooks := .later }
def SolveStepsUptoCardSaid : Prop := Claim7.holds Tryz.pinned (.plain (OpenSpec.upto solveStepsSpec)) solveStepsUptoCard

/-- THE SECOND FORM's CARD OF 'fingerpostlaw2.WhyFinds'. -/
def whyFindsUptoCard : Claim7 := { stood := { row := whyFindsUptoRow, standIns := [], harness := (true, "f8a2287acd023d9301c97b89d7aa135f3f9ffc28090ffaecfcd23b74cf5957c8"), looks := true }, kinds := [], alts := [], laidByText := true, laidKinds := [.data, .handle, .sentinel, .sentinel, .sentinel, .sentinel, .sentinel, .sentinel, .sentinel, .sentinel, .sentinel, .sentinel, .sentinel, .pinned], laidTests := true, laidLooks := .later }
def WhyFindsUptoCardSaid : Prop := Claim7.holds Tryz.pinned (.plain (OpenSpec.upto whyFindsSpec)) whyFindsUptoCard

/-- THE SECOND FORM's CARD OF 'fingerpostlaw2.SolveFix'. -/
def solveFixUptoCard : Claim7 := { stood := { row := solveFixUptoRow, standIns := [], harness := (true, "f8a2287acd023d9301c97b89d7aa135f3f9ffc28090ffaecfcd23b74cf5957c8"), looks := true }, kinds := [], alts := [], laidByText := true, laidKinds := [.data, .sentinel, .sentinel, .sentinel, .sentinel, .sentinel, .sentinel, .sentinel, .sentinel, .pinned], laidTests := true, laidLooks := .later }
def SolveFixUptoCardSaid : Prop := Claim7.holds Tryz.pinned (.plain (OpenSpec.upto solveFixSpec)) solveFixUptoCard

/-- THE SECOND FORM's CARD OF 'fingerpostlaw2.SolveAdds'. -/
def solveAddsUptoCard : Claim7 := { stood := { row := solveAddsUptoRow, standIns := [], harness := (true, "f8a2287acd023d9301c97b89d7aa135f3f9ffc28090ffaecfcd23b74cf5957c8"), looks := true }, kinds := [], alts := [], laidByText := true, laidKinds := [.data, .handle, .sentinel, .sentinel, .sentinel, .sentinel, .sentinel, .sentinel, .sentinel, .sentinel, .sentinel, .sentinel, .sentinel, .pinned], laidTests := true, laidLooks := .later }
def SolveAddsUptoCardSaid : Prop := Claim7.holds Tryz.pinned (.plain (OpenSpec.upto solveAddsSpec)) solveAddsUptoCard

/-- THE SECOND FORM's CARD OF 'fingerpostlaw2.WhyAll'. -/
def whyAllUptoCard : Claim7 := { stood := { row := whyAllUptoRow, standIns := [], harness := (true, "f8a2287acd023d9301c97b89d7aa135f3f9ffc28090ffaecfcd23b74cf5957c8"), looks := true }, kinds := [], alts := [], laidByText := true, laidKinds := [.data, .handle, .sentinel, .sentinel, .sentinel, .sentinel, .sentinel, .sentinel, .sentinel, .sentinel, .sentinel, .sentinel, .sentinel, .pinned], laidTests := true, laidLooks := .later }
def WhyAllUptoCardSaid : Prop := Claim7.holds Tryz.pinned (.plain (OpenSpec.upto whyAllSpec)) whyAllUptoCard

/-- THE SECOND FORM's CARD OF 'fingerpostlaw2.WhyChecks'. -/
def whyChecksUptoCard : Claim7 := { stood := { row := whyChecksUptoRow, standIns := [], harness := (true, "f8a2287acd023d9301c97b89d7aa135f3f9ffc28090ffaecfcd23b74cf5957c8"), looks := true }, kinds := [], alts := [], laidByText := true, laidKinds := [.data, .handle, .sentinel, .sentinel, .sentinel, .sentinel, .sentinel, .sentinel, .sentinel, .sentinel, .sentinel, .sentinel, .sentinel, .pinned], laidTests := true, laidLooks := .later }
def WhyChecksUptoCardSaid : Prop := Claim7.holds Tryz.pinned (.plain (OpenSpec.upto whyChecksSpec)) whyChecksUptoCard
end Rows
end Go.Proofs.YtdppgcbekhabnaaGreatDoor
