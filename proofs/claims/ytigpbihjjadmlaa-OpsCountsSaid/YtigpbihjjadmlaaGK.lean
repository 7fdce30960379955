/-
  Joined texts of this claim: Az. What each proves its own head says; no condition beside those that each theorem names.
-/
import Derived.Test.YtigpbihjjadmlaaGJ
import Derived.Test.YtigpbihjjadmlaaGI
namespace Go.Proofs.Ytigpbihjjadmlaa
open Go.RowKit Go.Calm
set_option linter.unusedSimpArgs false
set_option linter.unusedVariables false

theorem zin_db {w : World} {g : Nat} {xs : List I} (h : DB w g xs) (hv : ∀ x ∈ xs, VSl w x.A x.row) : ZIn w (some ⟨g, 0, none⟩) xs := fun i x hx => by
  obtain ⟨a, b⟩ := h.at hx
  exact ⟨g, 0, rfl, by rw [Nat.zero_add]; exact a, by rw [Nat.zero_add]; exact b, hv x (List.mem_of_getElem? hx)⟩
theorem map_one {ys : List I} {r : List V} {n : Int} (h : ys.map zOf = [(r, n)]) : ∃ y, ys = [y] ∧ y.row = r ∧ y.w = n := by
  match ys, h with
  | [y], h =>
    simp [zOf] at h
    exact ⟨y, rfl, h.1, h.2⟩
end Go.Proofs.Ytigpbihjjadmlaa
