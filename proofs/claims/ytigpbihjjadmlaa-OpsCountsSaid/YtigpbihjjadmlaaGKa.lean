/-
  Joined texts of this claim: Sml, Both. What each proves its own head says; no condition beside those that each theorem names.
-/
import Derived.Test.YtigpbihjjadmlaaGI
import Derived.Test.YtigpbihjjadmlaaGJ
namespace Go.Proofs.Ytigpbihjjadmlaa
open Go.RowKit Go.Calm
set_option linter.unusedSimpArgs false
set_option linter.unusedVariables false

end Go.Proofs.Ytigpbihjjadmlaa

namespace Go.Proofs.Ytigpbihjjadmlaa
open Go.RowKit Go.Calm
set_option linter.unusedSimpArgs false
set_option linter.unusedVariables false

end Go.Proofs.Ytigpbihjjadmlaa
