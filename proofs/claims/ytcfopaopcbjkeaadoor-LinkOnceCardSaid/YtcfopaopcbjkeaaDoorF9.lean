
/- The frame: what the sum tells. -/
import Derived.Test.YtcfopaopcbjkeaaDoorF8
import Derived.Lib.IndexBytes
namespace Go.Proofs.YtcfopaopcbjkeaaDoor
set_option linter.unusedSimpArgs false
set_option linter.unusedVariables false
open Go Go.RowKit

theorem ofBlk {w : World} {n : Nat} {c : Array Value} {e : TypeId} (h : Blk w n c e) {W : World} (X : Nat → Prop) (hk : Keep X w W) (hx : ¬ X n) : Blk W n c e := h.keep hk hx


end Go.Proofs.YtcfopaopcbjkeaaDoor
