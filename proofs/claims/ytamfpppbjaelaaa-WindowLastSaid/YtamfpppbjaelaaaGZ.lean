/-
  Joined texts of this claim: EvE, R4a, R4b. What each proves its own head says; no condition beside those that each theorem names.
-/
import Derived.Test.YtamfpppbjaelaaaGY
import Derived.Test.YtamfpppbjaelaaaGQ
import Derived.Test.YtamfpppbjaelaaaGG
import Derived.Test.YtamfpppbjaelaaaGX
import Derived.Test.YtamfpppbjaelaaaGVc
import Derived.Test.YtamfpppbjaelaaaGJ
import Derived.Deep.RegionLaw
namespace Go.Proofs.Ytamfpppbjaelaaa
open Go.RowKit Go.Calm
set_option linter.unusedSimpArgs false
set_option linter.unusedVariables false
end Go.Proofs.Ytamfpppbjaelaaa
