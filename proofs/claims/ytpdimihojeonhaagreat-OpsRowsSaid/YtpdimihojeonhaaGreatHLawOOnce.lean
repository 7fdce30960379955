/-
  A text of the proof of the law OpsRows; no condition beside the row's own.
-/
import Derived.Test.YtpdimihojeonhaaGreatGR
namespace Go.Proofs.YtpdimihojeonhaaGreat
open Go.RowKit Go.Calm
set_option linter.unusedSimpArgs false
set_option linter.unusedVariables false

abbrev exCells (x : E) : Array Value := #[.int .i64 x.kind, .int .i64 x.v.k, .int .i64 x.v.n, .string x.v.s, .int .i64 x.col, .slice x.A x.n x.cap]
abbrev exTwo (x y : E) : Array Value := #[.int .i64 x.kind, .int .i64 x.v.k, .int .i64 x.v.n, .string x.v.s, .int .i64 x.col, .slice x.A x.n x.cap, .int .i64 y.kind, .int .i64 y.v.k, .int .i64 y.v.n, .string y.v.s, .int .i64 y.col, .slice y.A y.n y.cap]
end Go.Proofs.YtpdimihojeonhaaGreat
