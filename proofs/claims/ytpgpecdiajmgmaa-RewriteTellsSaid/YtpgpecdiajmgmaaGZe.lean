/-
  Joined texts of this claim: Zs22. What each proves its own head says; no condition beside those that each theorem names.
-/
import Derived.Test.YtpgpecdiajmgmaaGJ
namespace Go.Proofs.Ytpgpecdiajmgmaa
open Go.RowKit Go.Calm
set_option linter.unusedSimpArgs false
set_option linter.unusedVariables false

def PlB (l : List Z) : Prop := (∀ x ∈ l, x.1.length ≤ 1000 ∧ ∀ v ∈ x.1, RV v) ∧ bdZ 1000000000000 l
theorem PlB.snoc {l : List Z} {x : Z} (h : PlB l) (h1 : x.1.length ≤ 1000) (h2 : ∀ v ∈ x.1, RV v) (h3 : -1000000000000 ≤ x.2 ∧ x.2 ≤ 1000000000000) : PlB (l ++ [x]) := by
  refine ⟨fun y hy => ?_, fun y hy => ?_⟩
  · rcases List.mem_append.1 hy with hy | hy
    · exact h.1 y hy
    · simp at hy; subst hy; exact ⟨h1, h2⟩
  · rcases List.mem_append.1 hy with hy | hy
    · exact h.2 y hy
    · simp at hy; subst hy; exact h3
theorem PlB.nil : PlB [] := ⟨fun x hx => by simp at hx, fun x hx => by simp at hx⟩
structure PutSb (w wr : World) (t : Value) (l : List Z) : Prop where
  sl : ∃ (B : Option Addr) (ys : List I) (cap : Nat), t = .slice B ys.length cap ∧ ZIn wr B ys ∧ ys.map zOf = setZ l ∧ SlOk B ys.length cap
  grow : Grow w wr
  pl : PlB l
theorem PutSb.nil (w wr : World) (hg : Grow w wr) : PutSb w wr (.slice none 0 0) [] := ⟨⟨none, [], 0, rfl, zin_nil _ _, rfl, SlOk.nil⟩, hg, PlB.nil⟩
theorem PutSb.slice {w wr : World} {t : Value} {l : List Z} (h : PutSb w wr t l) : ∃ (B : Option Addr) (n cap : Nat), t = .slice B n cap := by
  obtain ⟨⟨B, ys, cap, h1, _⟩, _⟩ := h
  exact ⟨B, _, cap, h1⟩
end Go.Proofs.Ytpgpecdiajmgmaa
