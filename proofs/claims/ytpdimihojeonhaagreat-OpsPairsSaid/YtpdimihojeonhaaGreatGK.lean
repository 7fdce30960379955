/-
  Joined texts of this claim: Az. What each proves its own head says; no condition beside those that each theorem names.
-/
import Derived.Test.YtpdimihojeonhaaGreatGJ
import Derived.Test.YtpdimihojeonhaaGreatGI
/-
  Chapter 2's one and alive.
-/
namespace Go.Proofs.YtpdimihojeonhaaGreat
open Go.RowKit Go.Calm
set_option linter.unusedSimpArgs false
set_option linter.unusedVariables false

theorem zin_db {w : World} {g : Nat} {xs : List I} (h : DB w g xs) (hv : ∀ x ∈ xs, VSl w x.A x.row) : ZIn w (some ⟨g, 0, none⟩) xs := fun i x hx => by
  obtain ⟨a, b⟩ := h.at hx
  exact ⟨g, 0, rfl, by rw [Nat.zero_add]; exact a, by rw [Nat.zero_add]; exact b, hv x (List.mem_of_getElem? hx)⟩
def nV (n : Int) : V := ⟨3, n, ⟨#[]⟩⟩
theorem alive_of : ofZ [([nV 2], 1), ([nV 1], 3), ([nV 2], -1)] = ([([nV 1], 3)], 0) := by kernel_rfl
theorem alive_wrong : wrongZ [([nV 1], 3)] = 0 := by kernel_rfl
theorem alive_wt : wtZ [([nV 1], 3)] [nV 1] = 3 := by kernel_rfl
theorem alive_row : rowE [nV 1] = 0 := by kernel_rfl
theorem map_one {ys : List I} {r : List V} {n : Int} (h : ys.map zOf = [(r, n)]) : ∃ y, ys = [y] ∧ y.row = r ∧ y.w = n := by
  match ys, h with
  | [y], h =>
    simp [zOf] at h
    exact ⟨y, rfl, h.1, h.2⟩
end Go.Proofs.YtpdimihojeonhaaGreat
