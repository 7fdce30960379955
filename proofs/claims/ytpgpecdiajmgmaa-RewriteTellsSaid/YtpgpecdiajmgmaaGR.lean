/-
  Joined texts of this claim: Op1, Op2. What each proves its own head says; no condition beside those that each theorem names.
-/
import Derived.Test.YtpgpecdiajmgmaaGG
import Derived.Test.YtpgpecdiajmgmaaGKa
import Derived.Test.YtpgpecdiajmgmaaGQ
namespace Go.Proofs.Ytpgpecdiajmgmaa
open Go.RowKit Go.Calm
set_option linter.unusedSimpArgs false
set_option linter.unusedVariables false

def condE (cols : List Int) (x : E) : Int := if (typeE cols x).2 = 0 ∧ (typeE cols x).1 ≠ 2 ∧ (typeE cols x).1 ≠ 1 then 9 else (typeE cols x).2
theorem condE_zero {cols : List Int} {x : E} (h : condE cols x = 0) : (typeE cols x).2 = 0 ∧ ((typeE cols x).1 = 2 ∨ (typeE cols x).1 = 1) := by
  unfold condE at h
  split at h
  · simp at h
  · rename_i h1
    refine ⟨h, ?_⟩
    by_cases h2 : (typeE cols x).1 = 2
    · exact .inl h2
    · by_cases h3 : (typeE cols x).1 = 1
      · exact .inr h3
      · exact absurd ⟨h, h2, h3⟩ h1
end Go.Proofs.Ytpgpecdiajmgmaa

namespace Go.Proofs.Ytpgpecdiajmgmaa
open Go.RowKit Go.Calm
set_option linter.unusedSimpArgs false
set_option linter.unusedVariables false

end Go.Proofs.Ytpgpecdiajmgmaa
