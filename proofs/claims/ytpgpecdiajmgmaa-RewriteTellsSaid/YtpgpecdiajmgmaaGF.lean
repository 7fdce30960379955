/-
  Joined texts of this claim: Srt7, Srt8. What each proves its own head says; no condition beside those that each theorem names.
-/
import Derived.Test.YtpgpecdiajmgmaaGE
namespace Go.Proofs.Ytpgpecdiajmgmaa
open Go.RowKit Go.Calm
set_option linter.unusedSimpArgs false
set_option linter.unusedVariables false

end Go.Proofs.Ytpgpecdiajmgmaa

namespace Go.Proofs.Ytpgpecdiajmgmaa
open Go.RowKit Go.Calm
set_option linter.unusedSimpArgs false
set_option linter.unusedVariables false

def Blks (k : Nat) (Bs : List (List I)) : Prop := ∀ B ∈ Bs, B.length = k ∧ Up B
theorem Blks.snoc {k : Nat} {Bs : List (List I)} {B : List I} (h : Blks k Bs) (h1 : B.length = k) (h2 : Up B) : Blks k (Bs ++ [B]) := fun x hx => by
  rcases List.mem_append.1 hx with hx | hx
  · exact h x hx
  · simp at hx; subst hx; exact ⟨h1, h2⟩

end Go.Proofs.Ytpgpecdiajmgmaa
