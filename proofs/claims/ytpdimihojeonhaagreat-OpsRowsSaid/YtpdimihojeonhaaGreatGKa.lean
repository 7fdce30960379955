/-
  Joined texts of this claim: Sml, Both. What each proves its own head says; no condition beside those that each theorem names.
-/
import Derived.Test.YtpdimihojeonhaaGreatGI
import Derived.Test.YtpdimihojeonhaaGreatGJ
namespace Go.Proofs.YtpdimihojeonhaaGreat
open Go.RowKit Go.Calm
set_option linter.unusedSimpArgs false
set_option linter.unusedVariables false

def smlZ (z : List Z) : Prop := z.length ≤ 400 ∧ okR z
theorem sml_nil : smlZ [] := ⟨by simp, fun x hx => by simp at hx⟩
theorem sml_of (l : List Z) : smlZ (ofZ l).1 := by
  cases h : ofZ l with
  | mk z e =>
    by_cases he : e = 0
    · subst he
      obtain ⟨_, h2, rfl, h4, _⟩ := ofZ_ok h
      exact ⟨h4, okR_set (fun x hx => (h2 x hx).1)⟩
    · rw [ofZ_err h he]; exact sml_nil
theorem S.sml {s : S} (h : smlZ s.z) : s.ok := ⟨by have := h.1; simp [S.z] at this; omega, fun x hx => by have := (h.2 (zOf x) (List.mem_map_of_mem hx)).1; simp only [zOf] at this; omega⟩
theorem In.sml {w : World} {B : Option Addr} {ys : List I} {cap : Nat} (hz : ZIn w B ys) (hk : SlOk B ys.length cap) (h : smlZ (ys.map zOf)) : In w ⟨B, ys, cap⟩ := ⟨hz, hk, S.sml (s := ⟨B, ys, cap⟩) h⟩
theorem same_true (ys zs : List I) (B C : Option Addr) (c d : Nat) (w : World) (hy : ZIn w B ys) (hz : ZIn w C zs) (h : ys.map zOf = zs.map zOf) (hs : smlZ (ys.map zOf)) :
    Calls Tryz.prog 8 #[.slice B ys.length c, .slice C zs.length d] w fun en w' => en = .returned (.bool true) ∧ Grow w w' := by
  have h1 := S.sml (s := ⟨B, ys, c⟩) hs
  have h2 := S.sml (s := ⟨C, zs, d⟩) (by show smlZ (zs.map zOf); rw [← h]; exact hs)
  exact same_any ys zs B C c d w h1.1 h2.1 hy hz h1.2 h2.2 true ((sameG_iff _ _).2 h)

theorem each_zero {f : Int → Int} {z d : List Z} (h : eachZ f z = (d, 0)) : wrongZ z = 0 := by
  unfold eachZ at h
  split at h
  · rename_i h1; exact absurd (Prod.mk.inj h).2 h1
  · rename_i h1; simpa using h1
theorem each_sml {f : Int → Int} {z d : List Z} (h : eachZ f z = (d, 0)) : smlZ d := by
  have h0 := each_zero h
  have h1 := SM.of h0
  unfold eachZ at h
  rw [if_neg (by rw [h0]; simp)] at h
  have e : eachL f z = d := (Prod.mk.inj h).1
  rw [← e]
  refine ⟨?_, okR_each h1.ok f⟩
  have h2 : (eachL f z).length ≤ (z.map (fun x => (bareR x.1, f x.2))).length := List.length_filter_le _ _
  have := h1.len
  simp at h2
  omega
theorem sum_sml {l : List Z} (h : okR l) : smlZ (sumZ l).1 := by
  unfold sumZ
  rcases fitZ_cases (setZ l) with ⟨e, h2, _⟩ | ⟨e, _, hf⟩
  · rw [e]; exact ⟨h2, okR_set h⟩
  · rw [hf]; exact sml_nil
theorem both_sml (x y : List Z) (t : Int) : smlZ (bothZ x y t).1 := by
  unfold bothZ
  split
  · exact sml_nil
  · rename_i h1
    split
    · exact sml_nil
    · rename_i h2
      exact sum_sml (okR_append (SM.of (by simpa using h1)).ok (okR_scale (SM.of (by simpa using h2)).ok t))
theorem each_sml2 (f : Int → Int) (z : List Z) : smlZ (eachZ f z).1 := by
  cases h : eachZ f z with
  | mk d e =>
    by_cases he : e = 0
    · subst he; exact each_sml h
    · unfold eachZ at h
      split at h
      · rw [← (Prod.mk.inj h).1]; exact sml_nil
      · exact absurd (Prod.mk.inj h).2.symm he
theorem in_nil (W : World) : In W ⟨none, [], 0⟩ := ⟨zin_nil _ _, SlOk.nil, by show (0 : Nat) ≤ _; omega, fun x hx => by simp at hx⟩
theorem same_in (s1 s2 : S) (W : World) (h1 : In W s1) (h2 : In W s2) (hR : s1.z = s2.z) :
    Calls Tryz.prog 8 #[.slice s1.A s1.xs.length s1.cap, .slice s2.A s2.xs.length s2.cap] W fun e w' => e = .returned (.bool true) ∧ Grow W w' :=
  same_any s1.xs s2.xs s1.A s2.A s1.cap s2.cap W h1.ok.1 h2.ok.1 h1.z h2.z h1.ok.2 h2.ok.2 true ((sameG_iff _ _).2 hR)
end Go.Proofs.YtpdimihojeonhaaGreat

namespace Go.Proofs.YtpdimihojeonhaaGreat
open Go.RowKit Go.Calm
set_option linter.unusedSimpArgs false
set_option linter.unusedVariables false

theorem wrong_nil : wrongZ [] = 0 := rfl
theorem both_val {a b t : List Z} {n : Int} (ha : wrongZ a = 0) (hb : wrongZ b = 0) (hc : Canon t) (ht : wrongZ t = 0) (hw : ∀ q, wtZ a q + n * wtZ b q = wtZ t q) : bothZ a b n = (t, 0) := by
  have sa := SM.of ha
  have sb := SM.of hb
  have st := SM.of ht
  have e : t = setZ (a ++ scaleZ n b) := setZ_of (fun x hx => ((okR_append sa.ok (okR_scale sb.ok n)) x hx).2) hc (fun q => by rw [wtZ_append, wt_scale, hw])
  unfold bothZ sumZ
  rw [if_neg (by rw [ha]; simp), if_neg (by rw [hb]; simp), ← e]
  exact fitZ_ok st.len st.bd
theorem both_ok {a b s : List Z} {n : Int} (h : bothZ a b n = (s, 0)) : wrongZ a = 0 ∧ wrongZ b = 0 ∧ Canon s ∧ wrongZ s = 0 ∧ ∀ q, wtZ s q = wtZ a q + n * wtZ b q := by
  unfold bothZ at h
  split at h
  · rename_i h1; exact absurd (Prod.mk.inj h).2 h1
  · rename_i h1
    split at h
    · rename_i h2; exact absurd (Prod.mk.inj h).2 h2
    · rename_i h2
      have h1 : wrongZ a = 0 := by simpa using h1
      have h2 : wrongZ b = 0 := by simpa using h2
      have ok := okR_append (SM.of h1).ok (okR_scale (SM.of h2).ok n)
      have sp := setZ_spec (a ++ scaleZ n b) (fun x hx => (ok x hx).2)
      unfold sumZ at h
      rcases fitZ_cases (setZ (a ++ scaleZ n b)) with ⟨e, hl, hb⟩ | ⟨e, he, hf⟩
      · rw [e] at h
        have es : setZ (a ++ scaleZ n b) = s := (Prod.mk.inj h).1
        rw [es] at sp hl hb
        have oks : okR s := by rw [← es]; exact okR_set ok
        exact ⟨h1, h2, sp.1, (SM.canon sp.1 oks hb hl).rz (by omega) (by omega), fun q => by rw [sp.2, wtZ_append, wt_scale]⟩
      · rw [hf] at h; exact absurd (Prod.mk.inj h).2 he
def brZ (z : List Z) : List Z := eachL (fun n => n) z
theorem br_ok {z : List Z} (h : wrongZ z = 0) : Canon (brZ z) ∧ wrongZ (brZ z) = 0 ∧ ∀ q, wtZ (brZ z) q = wtZ z q := by
  have s := SM.of h
  obtain ⟨t, e, c, st, w⟩ := each_sm s (f := fun n => n) rfl (fun n h1 h2 => ⟨h1, h2⟩) (by omega) (by omega)
  unfold eachZ at e
  rw [if_neg (by rw [h]; simp)] at e
  have e1 : brZ z = t := (Prod.mk.inj e).1
  rw [e1]
  exact ⟨c, st.rz (by omega) (by omega), w⟩
theorem both_bare {z : List Z} (h : wrongZ z = 0) : bothZ z [] 1 = (brZ z, 0) := by
  obtain ⟨c, r, w⟩ := br_ok h
  exact both_val h wrong_nil c r (fun q => by rw [w, wtZ_nil]; omega)
theorem br_canon {z : List Z} (hc : Canon z) (h : wrongZ z = 0) : brZ z = z := by
  obtain ⟨c, r, w⟩ := br_ok h
  exact canon_ext _ _ c hc (fun q _ => w q)
end Go.Proofs.YtpdimihojeonhaaGreat
