/- Parts of a proof. No condition. -/
import Derived.Test.YtflggnopgnoeiaaGreatGGa
import Derived.Test.YtflggnopgnoeiaaGreatGAb
import Derived.Test.YtflggnopgnoeiaaGreatGZb
set_option linter.unusedSimpArgs false
set_option linter.unusedVariables false
namespace Go.Proofs.YtflggnopgnoeiaaGreat
open Go.RowKit Go.Calm
structure Kq where
 A : Option Addr
 row : List V
 cap : Nat
