/-
  Joined texts of this claim: EvE, R4a, R4b. What each proves its own head says; no condition beside those that each theorem names.
-/
import Derived.Test.YtigpbihjjadmlaaGY
import Derived.Test.YtigpbihjjadmlaaGQ
import Derived.Test.YtigpbihjjadmlaaGG
import Derived.Test.YtigpbihjjadmlaaGX
import Derived.Test.YtigpbihjjadmlaaGVc
import Derived.Test.YtigpbihjjadmlaaGJ
import Derived.Deep.RegionLaw
namespace Go.Proofs.Ytigpbihjjadmlaa
open Go.RowKit Go.Calm
set_option linter.unusedSimpArgs false
set_option linter.unusedVariables false

end Go.Proofs.Ytigpbihjjadmlaa

namespace Go.Proofs.Ytigpbihjjadmlaa
open Go.RowKit Go.Calm
set_option linter.unusedSimpArgs false
set_option linter.unusedVariables false

end Go.Proofs.Ytigpbihjjadmlaa

namespace Go.Proofs.Ytigpbihjjadmlaa
open Go.RowKit Go.Calm
set_option linter.unusedSimpArgs false
set_option linter.unusedVariables false

end Go.Proofs.Ytigpbihjjadmlaa
