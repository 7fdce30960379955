/-
  Joined texts of this claim: OpE, Pt. What each proves its own head says; no condition beside those that each theorem names.
-/
import Derived.Test.YtamfpppbjaelaaaGVb
namespace Go.Proofs.Ytamfpppbjaelaaa
open Go.RowKit Go.Calm
set_option linter.unusedSimpArgs false
set_option linter.unusedVariables false
end Go.Proofs.Ytamfpppbjaelaaa
