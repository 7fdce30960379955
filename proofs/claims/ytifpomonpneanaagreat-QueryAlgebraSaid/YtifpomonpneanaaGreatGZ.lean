/-
 Joined texts of this claim: EvE, R4a, R4b. What each proves its own head says; no condition beside those that each theorem names.
-/
import Derived.Test.YtifpomonpneanaaGreatGY
import Derived.Test.YtifpomonpneanaaGreatGQ
import Derived.Test.YtifpomonpneanaaGreatGG
import Derived.Test.YtifpomonpneanaaGreatGX
import Derived.Test.YtifpomonpneanaaGreatGVc
import Derived.Test.YtifpomonpneanaaGreatGJ
import Derived.Deep.RegionLaw
namespace Go.Proofs.YtifpomonpneanaaGreat
open Go.RowKit Go.Calm
set_option linter.unusedSimpArgs false
set_option linter.unusedVariables false
end Go.Proofs.YtifpomonpneanaaGreat
