/- Texts of one proof, put together: WH WI. -/
import Derived.Test.YtdppgcbekhabnaaGreatDoorSS23

/- run.Object. -/
namespace Go.Proofs.YtdppgcbekhabnaaGreatDoor
set_option linter.unusedSimpArgs false
set_option linter.unusedVariables false
open Go Go.RowKit

end Go.Proofs.YtdppgcbekhabnaaGreatDoor



/- sameState. -/
namespace Go.Proofs.YtdppgcbekhabnaaGreatDoor
set_option linter.unusedSimpArgs false
set_option linter.unusedVariables false
open Go Go.RowKit

end Go.Proofs.YtdppgcbekhabnaaGreatDoor

