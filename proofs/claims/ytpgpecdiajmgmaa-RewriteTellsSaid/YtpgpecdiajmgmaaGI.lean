/-
  Joined texts of this claim: Zs6, Zs10, Zs8, Zp, Zq. What each proves its own head says; no condition beside those that each theorem names.
-/
import Derived.Test.YtpgpecdiajmgmaaGH
import Derived.Deep.DeepCutAuto
namespace Go.Proofs.Ytpgpecdiajmgmaa
open Go.RowKit Go.Calm
set_option linter.unusedSimpArgs false
set_option linter.unusedVariables false

end Go.Proofs.Ytpgpecdiajmgmaa

namespace Go.Proofs.Ytpgpecdiajmgmaa
open Go.RowKit Go.Calm
set_option linter.unusedSimpArgs false
set_option linter.unusedVariables false

end Go.Proofs.Ytpgpecdiajmgmaa

namespace Go.Proofs.Ytpgpecdiajmgmaa
open Go.RowKit Go.Calm
set_option linter.unusedSimpArgs false
set_option linter.unusedVariables false

end Go.Proofs.Ytpgpecdiajmgmaa

namespace Go.Proofs.Ytpgpecdiajmgmaa
open Go.RowKit Go.Calm
set_option linter.unusedSimpArgs false
set_option linter.unusedVariables false

def okR (z : List Z) : Prop := ∀ x ∈ z, x.1.length ≤ 8 ∧ ∀ v ∈ x.1, RV v
structure SM (M : Int) (N : Nat) (z : List Z) : Prop where
  ok : okR z
  up : z.Pairwise (fun x y => ordR x.1 y.1 < 0)
  ne : ∀ x ∈ z, x.2 ≠ 0
  bd : bdZ M z
  len : z.length ≤ N
theorem SM.rv {M : Int} {N : Nat} {z : List Z} (h : SM M N z) : ∀ x ∈ z, ∀ v ∈ x.1, RV v := fun x hx => (h.ok x hx).2
theorem SM.of {z : List Z} (h : wrongZ z = 0) : SM 1000000 400 z := by
  have h := (wrongZ_zero z).1 h
  exact ⟨h.row, h.up, fun x hx => (h.w x hx).1, fun x hx => (h.w x hx).2, h.len⟩
end Go.Proofs.Ytpgpecdiajmgmaa

namespace Go.Proofs.Ytpgpecdiajmgmaa
open Go.RowKit Go.Calm
set_option linter.unusedSimpArgs false
set_option linter.unusedVariables false

def bks (at' : Int) (i : Nat) (x : I) : List I := if (i : Int) = at' ∧ 1 < x.w then [⟨x.A, x.row, x.cap, x.w - 1⟩, ⟨x.A, x.row, x.cap, 1⟩] else [x]
def bk (at' : Int) : Nat → List I → List I
  | _, [] => []
  | i, x :: l => bk at' (i + 1) l ++ bks at' i x
end Go.Proofs.Ytpgpecdiajmgmaa
