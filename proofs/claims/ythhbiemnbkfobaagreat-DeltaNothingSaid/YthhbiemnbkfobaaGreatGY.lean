/- Parts of a proof. No condition. -/
import Derived.Test.YthhbiemnbkfobaaGreatGG
set_option linter.unusedSimpArgs false
set_option linter.unusedVariables false
namespace Go.Proofs.YthhbiemnbkfobaaGreat
open Go.RowKit Go.Calm
