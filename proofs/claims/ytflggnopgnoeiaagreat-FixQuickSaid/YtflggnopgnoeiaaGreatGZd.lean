/- Parts of a proof. No condition. -/
import Derived.Test.YtflggnopgnoeiaaGreatGZ
set_option linter.unusedSimpArgs false
set_option linter.unusedVariables false
namespace Go.Proofs.YtflggnopgnoeiaaGreat
open Go.RowKit Go.Calm
