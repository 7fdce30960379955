/-
 Joined texts of this claim: Sml, Both. What each proves its own head says; no condition beside those that each theorem names.
-/
import Derived.Test.YtifpomonpneanaaGreatGI
import Derived.Test.YtifpomonpneanaaGreatGJ
namespace Go.Proofs.YtifpomonpneanaaGreat
open Go.RowKit Go.Calm
set_option linter.unusedSimpArgs false
set_option linter.unusedVariables false
def smlZ (z : List Z) : Prop := z.length ≤ 400 ∧ okR z
theorem S.sml {s : S} (h : smlZ s.z) : s.ok := ⟨by have := h.1; simp [S.z] at this; omega, fun x hx => by have := (h.2 (zOf x) (List.mem_map_of_mem hx)).1; simp only [zOf] at this; omega⟩
theorem In.sml {w : World} {B : Option Addr} {ys : List I} {cap : Nat} (hz : ZIn w B ys) (hk : SlOk B ys.length cap) (h : smlZ (ys.map zOf)) : In w ⟨B, ys, cap⟩ := ⟨hz, hk, S.sml (s := ⟨B, ys, cap⟩) h⟩
theorem each_zero {f : Int → Int} {z d : List Z} (h : eachZ f z = (d, 0)) : wrongZ z = 0 := by
 unfold eachZ at h
 split at h
 ·rename_i h1; exact absurd (Prod.mk.inj h).2 h1
 ·rename_i h1; simpa using h1
theorem same_in (s1 s2 : S) (W : World) (h1 : In W s1) (h2 : In W s2) (hR : s1.z = s2.z) :
  Calls Tryz.prog 17 #[.slice s1.A s1.xs.length s1.cap, .slice s2.A s2.xs.length s2.cap] W fun e w' => e = .returned (.bool true) ∧ Grow W w' :=
 same_any s1.xs s2.xs s1.A s2.A s1.cap s2.cap W h1.ok.1 h2.ok.1 h1.z h2.z h1.ok.2 h2.ok.2 true ((sameG_iff _ _).2 hR)
theorem wrong_nil : wrongZ [] = 0 := rfl
theorem both_val {a b t : List Z} {n : Int} (ha : wrongZ a = 0) (hb : wrongZ b = 0) (hc : Canon t) (ht : wrongZ t = 0) (hw : ∀ q, wtZ a q + n * wtZ b q = wtZ t q) : bothZ a b n = (t, 0) := by
 have sa := SM.of ha
 have sb := SM.of hb
 have st := SM.of ht
 have e : t = setZ (a ++ scaleZ n b) := setZ_of (fun x hx => ((okR_append sa.ok (okR_scale sb.ok n)) x hx).2) hc (fun q => by rw [wtZ_append, wt_scale, hw])
 unfold bothZ sumZ
 rw [if_neg (by rw [ha]; simp), if_neg (by rw [hb]; simp), ← e]
 exact fitZ_ok st.len st.bd
theorem both_ok {a b s : List Z} {n : Int} (h : bothZ a b n = (s, 0)) : wrongZ a = 0 ∧ wrongZ b = 0 ∧ Canon s ∧ wrongZ s = 0 ∧ ∀ q, wtZ s q = wtZ a q + n * wtZ b q := by
 unfold bothZ at h
 split at h
 ·rename_i h1; exact absurd (Prod.mk.inj h).2 h1
 ·rename_i h1
  split at h
  ·rename_i h2; exact absurd (Prod.mk.inj h).2 h2
  ·rename_i h2
   have h1 : wrongZ a = 0 := by simpa using h1
   have h2 : wrongZ b = 0 := by simpa using h2
   have ok := okR_append (SM.of h1).ok (okR_scale (SM.of h2).ok n)
   have sp := setZ_spec (a ++ scaleZ n b) (fun x hx => (ok x hx).2)
   unfold sumZ at h
   rcases fitZ_cases (setZ (a ++ scaleZ n b)) with ⟨e, hl, hb⟩ | ⟨e, he, hf⟩
   ·rw [e] at h
    have es : setZ (a ++ scaleZ n b) = s := (Prod.mk.inj h).1
    rw [es] at sp hl hb
    have oks : okR s := by rw [← es]; exact okR_set ok
    exact ⟨h1, h2, sp.1, (SM.canon sp.1 oks hb hl).rz (by omega) (by omega), fun q => by rw [sp.2, wtZ_append, wt_scale]⟩
   ·rw [hf] at h; exact absurd (Prod.mk.inj h).2 he
end Go.Proofs.YtifpomonpneanaaGreat
