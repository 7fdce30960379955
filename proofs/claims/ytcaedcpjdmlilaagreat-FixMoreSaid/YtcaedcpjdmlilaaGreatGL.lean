/-
 Joined texts of this claim: Zs21. What each proves its own head says; no condition beside those that each theorem names.
-/
import Derived.Test.YtcaedcpjdmlilaaGreatGJ
import Derived.Test.YtcaedcpjdmlilaaGreatGI
namespace Go.Proofs.YtcaedcpjdmlilaaGreat
open Go.RowKit Go.Calm
set_option linter.unusedSimpArgs false
set_option linter.unusedVariables false
end Go.Proofs.YtcaedcpjdmlilaaGreat

