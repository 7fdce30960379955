/-
 A text of the proof of the law QueryAlgebra; no condition beside the row's own.
-/
import Derived.Test.YtifpomonpneanaaGreatGJ
import Derived.Test.YtifpomonpneanaaGreatGKa
namespace Go.Proofs.YtifpomonpneanaaGreat
open Go.RowKit Go.Calm
set_option linter.unusedSimpArgs false
set_option linter.unusedVariables false
end Go.Proofs.YtifpomonpneanaaGreat
