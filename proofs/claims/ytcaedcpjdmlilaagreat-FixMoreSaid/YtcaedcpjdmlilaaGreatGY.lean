/-
 Joined texts of this claim: EvR. What each proves its own head says; no condition beside those that each theorem names.
-/
import Derived.Test.YtcaedcpjdmlilaaGreatGG
import Derived.Test.YtcaedcpjdmlilaaGreatGC
namespace Go.Proofs.YtcaedcpjdmlilaaGreat
open Go.RowKit Go.Calm
set_option linter.unusedSimpArgs false
set_option linter.unusedVariables false
end Go.Proofs.YtcaedcpjdmlilaaGreat

