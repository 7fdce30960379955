/-
  Joined texts of this claim: Sml, Both. What each proves its own head says; no condition beside those that each theorem names.
-/
import Derived.Test.YtamfpppbjaelaaaGI
import Derived.Test.YtamfpppbjaelaaaGJ
namespace Go.Proofs.Ytamfpppbjaelaaa
open Go.RowKit Go.Calm
set_option linter.unusedSimpArgs false
set_option linter.unusedVariables false
def smlZ (z : List Z) : Prop := z.length ≤ 400 ∧ okR z
theorem sml_nil : smlZ [] := ⟨by simp, fun x hx => by simp at hx⟩
theorem S.sml {s : S} (h : smlZ s.z) : s.ok := ⟨by have := h.1; simp [S.z] at this; omega, fun x hx => by have := (h.2 (zOf x) (List.mem_map_of_mem hx)).1; simp only [zOf] at this; omega⟩
theorem In.sml {w : World} {B : Option Addr} {ys : List I} {cap : Nat} (hz : ZIn w B ys) (hk : SlOk B ys.length cap) (h : smlZ (ys.map zOf)) : In w ⟨B, ys, cap⟩ := ⟨hz, hk, S.sml (s := ⟨B, ys, cap⟩) h⟩
theorem same_true (ys zs : List I) (B C : Option Addr) (c d : Nat) (w : World) (hy : ZIn w B ys) (hz : ZIn w C zs) (h : ys.map zOf = zs.map zOf) (hs : smlZ (ys.map zOf)) :
    Calls Try.prog 13 #[.slice B ys.length c, .slice C zs.length d] w fun en w' => en = .returned (.bool true) ∧ Grow w w' := by
  have h1 := S.sml (s := ⟨B, ys, c⟩) hs
  have h2 := S.sml (s := ⟨C, zs, d⟩) (by show smlZ (zs.map zOf); rw [← h]; exact hs)
  exact same_any ys zs B C c d w h1.1 h2.1 hy hz h1.2 h2.2 true ((sameG_iff _ _).2 h)

theorem sum_sml {l : List Z} (h : okR l) : smlZ (sumZ l).1 := by
  unfold sumZ
  rcases fitZ_cases (setZ l) with ⟨e, h2, _⟩ | ⟨e, _, hf⟩
  · rw [e]; exact ⟨h2, okR_set h⟩
  · rw [hf]; exact sml_nil
end Go.Proofs.Ytamfpppbjaelaaa
