/-
  Joined texts of this claim: Sml, Both. What each proves its own head says; no condition beside those that each theorem names.
-/
import Derived.Test.YtpgpecdiajmgmaaGI
import Derived.Test.YtpgpecdiajmgmaaGJ
namespace Go.Proofs.Ytpgpecdiajmgmaa
open Go.RowKit Go.Calm
set_option linter.unusedSimpArgs false
set_option linter.unusedVariables false

end Go.Proofs.Ytpgpecdiajmgmaa

namespace Go.Proofs.Ytpgpecdiajmgmaa
open Go.RowKit Go.Calm
set_option linter.unusedSimpArgs false
set_option linter.unusedVariables false

end Go.Proofs.Ytpgpecdiajmgmaa
