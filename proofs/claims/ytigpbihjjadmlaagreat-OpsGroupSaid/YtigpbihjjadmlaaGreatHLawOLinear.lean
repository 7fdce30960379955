/-
  A text of the proof of the law OpsGroup; no condition beside the row's own.
-/
import Derived.Test.YtigpbihjjadmlaaGreatGS
import Derived.Test.YtigpbihjjadmlaaGreatHLawOOnce
namespace Go.Proofs.YtigpbihjjadmlaaGreat
open Go.RowKit Go.Calm
set_option linter.unusedSimpArgs false
set_option linter.unusedVariables false

def GivesI (w w' : World) (e : Ending) (r : List Z × Int) : Prop := ∃ (B : Option Addr) (ys : List I) (cap : Nat), e = .returned (.tuple #[.slice B ys.length cap, .int .i64 r.2]) ∧ In w' ⟨B, ys, cap⟩ ∧ ys.map zOf = r.1 ∧ Grow w w'
theorem Gives.i {w w' : World} {e : Ending} {r : List Z × Int} (h : Gives w w' e r) (hs : smlZ r.1) : GivesI w w' e r := by
  obtain ⟨B, ys, cap, rfl, hz, hm, hk, hg⟩ := h
  exact ⟨B, ys, cap, rfl, In.sml hz hk (by rw [hm]; exact hs), hm, hg⟩
end Go.Proofs.YtigpbihjjadmlaaGreat
