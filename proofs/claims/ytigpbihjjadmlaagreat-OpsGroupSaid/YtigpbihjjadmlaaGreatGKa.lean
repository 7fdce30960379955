/-
  Joined texts of this claim: Sml, Both. What each proves its own head says; no condition beside those that each theorem names.
-/
import Derived.Test.YtigpbihjjadmlaaGreatGI
import Derived.Test.YtigpbihjjadmlaaGreatGJ
namespace Go.Proofs.YtigpbihjjadmlaaGreat
open Go.RowKit Go.Calm
set_option linter.unusedSimpArgs false
set_option linter.unusedVariables false

def smlZ (z : List Z) : Prop := z.length ≤ 400 ∧ okR z
theorem sml_nil : smlZ [] := ⟨by simp, fun x hx => by simp at hx⟩
theorem S.sml {s : S} (h : smlZ s.z) : s.ok := ⟨by have := h.1; simp [S.z] at this; omega, fun x hx => by have := (h.2 (zOf x) (List.mem_map_of_mem hx)).1; simp only [zOf] at this; omega⟩
theorem In.sml {w : World} {B : Option Addr} {ys : List I} {cap : Nat} (hz : ZIn w B ys) (hk : SlOk B ys.length cap) (h : smlZ (ys.map zOf)) : In w ⟨B, ys, cap⟩ := ⟨hz, hk, S.sml (s := ⟨B, ys, cap⟩) h⟩
theorem sum_sml {l : List Z} (h : okR l) : smlZ (sumZ l).1 := by
  unfold sumZ
  rcases fitZ_cases (setZ l) with ⟨e, h2, _⟩ | ⟨e, _, hf⟩
  · rw [e]; exact ⟨h2, okR_set h⟩
  · rw [hf]; exact sml_nil
theorem same_in (s1 s2 : S) (W : World) (h1 : In W s1) (h2 : In W s2) (hR : s1.z = s2.z) :
    Calls Tryz.prog 7 #[.slice s1.A s1.xs.length s1.cap, .slice s2.A s2.xs.length s2.cap] W fun e w' => e = .returned (.bool true) ∧ Grow W w' :=
  same_any s1.xs s2.xs s1.A s2.A s1.cap s2.cap W h1.ok.1 h2.ok.1 h1.z h2.z h1.ok.2 h2.ok.2 true ((sameG_iff _ _).2 hR)
end Go.Proofs.YtigpbihjjadmlaaGreat

namespace Go.Proofs.YtigpbihjjadmlaaGreat
open Go.RowKit Go.Calm
set_option linter.unusedSimpArgs false
set_option linter.unusedVariables false

end Go.Proofs.YtigpbihjjadmlaaGreat
