/-
 Joined texts of this claim: Ex10, Ex11, Ex12, Ex13. What each proves its own head says; no condition beside those that each theorem names.
-/
import Derived.Test.YtcaedcpjdmlilaaGreatGD
import Derived.BigQuiet
import Derived.Deep.QuietTactic
namespace Go.Proofs.YtcaedcpjdmlilaaGreat
open Go.RowKit Go.Calm
set_option linter.unusedSimpArgs false
set_option linter.unusedVariables false
theorem GX.cell {g : Nat} {a b : World} (h : GX g a b) {k o : Nat} {v : Value} (hc : a.cell? ⟨k, o, none⟩ = some v) (hne : k ≠ g) : b.cell? ⟨k, o, none⟩ = some v := World.grownBy.cell h hc (by simpa using hne)
end Go.Proofs.YtcaedcpjdmlilaaGreat

