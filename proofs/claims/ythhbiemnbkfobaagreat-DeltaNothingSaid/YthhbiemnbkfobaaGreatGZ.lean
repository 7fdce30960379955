/- Parts of a proof. No condition. -/
import Derived.Test.YthhbiemnbkfobaaGreatGY
import Derived.Test.YthhbiemnbkfobaaGreatGX
import Derived.Test.YthhbiemnbkfobaaGreatGVc
import Derived.Deep.RegionLaw
set_option linter.unusedSimpArgs false
set_option linter.unusedVariables false
namespace Go.Proofs.YthhbiemnbkfobaaGreat
open Go.RowKit Go.Calm
