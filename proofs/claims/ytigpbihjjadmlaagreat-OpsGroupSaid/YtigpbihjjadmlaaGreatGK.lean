/-
  Joined texts of this claim: Az. What each proves its own head says; no condition beside those that each theorem names.
-/
import Derived.Test.YtigpbihjjadmlaaGreatGJ
import Derived.Test.YtigpbihjjadmlaaGreatGI
namespace Go.Proofs.YtigpbihjjadmlaaGreat
open Go.RowKit Go.Calm
set_option linter.unusedSimpArgs false
set_option linter.unusedVariables false

end Go.Proofs.YtigpbihjjadmlaaGreat
