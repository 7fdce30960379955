/-
  A text of the proof of the law OpsGroup; no condition beside the row's own.
-/
import Derived.Test.YtigpbihjjadmlaaGreatGR
namespace Go.Proofs.YtigpbihjjadmlaaGreat
open Go.RowKit Go.Calm
set_option linter.unusedSimpArgs false
set_option linter.unusedVariables false

end Go.Proofs.YtigpbihjjadmlaaGreat
