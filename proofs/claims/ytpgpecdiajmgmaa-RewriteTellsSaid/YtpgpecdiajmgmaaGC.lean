/-
  Joined texts of this claim: Vals4, Vals5, Vals6, Laws1. What each proves its own head says; no condition beside those that each theorem names.
-/
import Derived.Test.YtpgpecdiajmgmaaGB
import Derived.Deep.QuietTactic
import Derived.BigQuiet
import Derived.Lib.Hide
namespace Go.Proofs.Ytpgpecdiajmgmaa
open Go.RowKit Go.Calm
set_option linter.unusedSimpArgs false
set_option linter.unusedVariables false

def reckonV (sign : Int) (a b : V) : V :=
  if a.k = 3 ∧ b.k = 3 then
    (if sign = 43 then intV (a.n + b.n) else if sign = 45 then intV (a.n - b.n) else if sign = 42 then intV (a.n * b.n) else ⟨1, 0, es⟩)
  else ⟨1, 0, es⟩

end Go.Proofs.Ytpgpecdiajmgmaa

namespace Go.Proofs.Ytpgpecdiajmgmaa
open Go.RowKit Go.Calm
set_option linter.unusedSimpArgs false
set_option linter.unusedVariables false

def joinV (a b : V) : V := if a.k = 4 ∧ b.k = 4 ∧ a.s.size + b.s.size ≤ 60 then ⟨4, 0, a.s ++ b.s⟩ else ⟨1, 0, es⟩
end Go.Proofs.Ytpgpecdiajmgmaa

namespace Go.Proofs.Ytpgpecdiajmgmaa
open Go.RowKit Go.Calm
set_option linter.unusedSimpArgs false
set_option linter.unusedVariables false

end Go.Proofs.Ytpgpecdiajmgmaa

namespace Go.Proofs.Ytpgpecdiajmgmaa
open Go.RowKit Go.Calm
set_option linter.unusedSimpArgs false
set_option linter.unusedVariables false

def eqB (x y : V) : Bool := decide (x.k = y.k) && (decide (x.n = y.n) && decide (x.s = y.s))
theorem V.ext' {x y : V} (h1 : x.k = y.k) (h2 : x.n = y.n) (h3 : x.s = y.s) : x = y := by
  cases x; cases y; simp_all
theorem eqB_iff (x y : V) : eqB x y = true ↔ x = y := by
  unfold eqB
  constructor
  · intro h
    simp at h
    exact V.ext' h.1 h.2.1 h.2.2
  · rintro rfl; simp
def nullV' : V := ⟨1, 0, es⟩
structure Kleene (a b c : V) : Prop where
  c1 : andV b a = andV a b
  c2 : orV b a = orV a b
  a1 : andV (andV a b) c = andV a (andV b c)
  a2 : orV (orV a b) c = orV a (orV b c)
  d1 : orV (andV a b) (andV a c) = andV a (orV b c)
  d2 : andV (orV a b) (orV a c) = orV a (andV b c)
  n1 : orV (notV a) (notV b) = notV (andV a b)
  n2 : andV (notV a) (notV b) = notV (orV a b)
  n3 : notV (notV (notV a)) = notV a
end Go.Proofs.Ytpgpecdiajmgmaa
