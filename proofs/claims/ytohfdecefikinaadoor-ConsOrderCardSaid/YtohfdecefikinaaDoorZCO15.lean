/- Texts of one proof, put together: W7 W8 W9. -/
import Derived.Test.YtohfdecefikinaaDoorZCO12
import Derived.Test.YtohfdecefikinaaDoorZCO14

/- The reference's runs: load and store. -/
namespace Go.Proofs.YtohfdecefikinaaDoor
set_option linter.unusedSimpArgs false
set_option linter.unusedVariables false
open Go Go.RowKit

/-- What a value is the address of, for the reference. -/
def rgv (s : Rn) : Vl → Value
  | .var n => .tuple #[.agg #[.string (s.vars.getD n .none).kind, .int .i64 ((s.vars.getD n .none).num : Int)], .bool true]
  | .thing n => .tuple #[.agg #[.string (s.things.getD n .none).kind, .int .i64 ((s.things.getD n .none).num : Int)], .bool true]
  | _ => .tuple #[.agg #[.string ⟨#[]⟩, .int .i64 0], .bool false]
end Go.Proofs.YtohfdecefikinaaDoor


/- The reference's runs: load and store. -/
namespace Go.Proofs.YtohfdecefikinaaDoor
set_option linter.unusedSimpArgs false
set_option linter.unusedVariables false
open Go Go.RowKit

end Go.Proofs.YtohfdecefikinaaDoor


/- The reference's runs: store. -/
namespace Go.Proofs.YtohfdecefikinaaDoor
set_option linter.unusedSimpArgs false
set_option linter.unusedVariables false
open Go Go.RowKit

end Go.Proofs.YtohfdecefikinaaDoor
