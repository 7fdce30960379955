/-
 Joined texts of this claim: EvE, R4a, R4b. What each proves its own head says; no condition beside those that each theorem names.
-/
import Derived.Test.YtcaedcpjdmlilaaGreatGY
import Derived.Test.YtcaedcpjdmlilaaGreatGQ
import Derived.Test.YtcaedcpjdmlilaaGreatGG
import Derived.Test.YtcaedcpjdmlilaaGreatGX
import Derived.Test.YtcaedcpjdmlilaaGreatGVc
import Derived.Test.YtcaedcpjdmlilaaGreatGJ
import Derived.Deep.RegionLaw
namespace Go.Proofs.YtcaedcpjdmlilaaGreat
open Go.RowKit Go.Calm
set_option linter.unusedSimpArgs false
set_option linter.unusedVariables false
end Go.Proofs.YtcaedcpjdmlilaaGreat

