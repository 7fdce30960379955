/-
  A text of the proof of the law StreamsUndo; no condition beside the row's own.
-/
import Derived.Test.YtjhcbehnopmnpaaHLawZOnce
import Derived.Test.YtjhcbehnopmnpaaGL
/-
  The law ZsetsReckon, walked.
-/
namespace Go.Proofs.Ytjhcbehnopmnpaa
open Go.RowKit Go.Calm
set_option linter.unusedSimpArgs false
set_option linter.unusedVariables false

theorem sum_sml {l : List Z} (h : okR l) : smlZ (sumZ l).1 := by
  unfold sumZ
  rcases fitZ_cases (setZ l) with ⟨e, h2, _⟩ | ⟨e, _, hf⟩
  · rw [e]; exact ⟨h2, okR_set h⟩
  · rw [hf]; exact sml_nil
theorem both_sml (x y : List Z) (t : Int) : smlZ (bothZ x y t).1 := by
  unfold bothZ
  split
  · exact sml_nil
  · rename_i h1
    split
    · exact sml_nil
    · rename_i h2
      exact sum_sml (okR_append (SM.of (by simpa using h1)).ok (okR_scale (SM.of (by simpa using h2)).ok t))
theorem each_sml2 (f : Int → Int) (z : List Z) : smlZ (eachZ f z).1 := by
  cases h : eachZ f z with
  | mk d e =>
    by_cases he : e = 0
    · subst he; exact each_sml h
    · unfold eachZ at h
      split at h
      · rw [← (Prod.mk.inj h).1]; exact sml_nil
      · exact absurd (Prod.mk.inj h).2.symm he
set_option maxRecDepth 100000 in
set_option maxHeartbeats 16000000 in
theorem law_zreckon (a b : S) (w : World) (ha : In w a) (hb : In w b) :
    Calls Try.prog 19 #[.slice a.A a.xs.length a.cap, .slice b.A b.xs.length b.cap] w fun en w' => en = .returned (.bool true) ∧ Grow w w' := by
  have Ha := Lib.hid ha
  have Hb := Lib.hid hb
  obtain ⟨R1, hR1⟩ : ∃ R, bothZ a.z b.z 1 = R := ⟨_, rfl⟩
  have c1 := fun W (h : Grow w W) => add_any a b W (Ha.out.grow h) (Hb.out.grow h)
  have r1 := fun W (h : Grow w W) => rboth_any a.xs b.xs a.A b.A a.cap b.cap 1 (.inl rfl) W (Ha.out.grow h) (Hb.out.grow h)
  have s1 := (both_sml _ _ _ : smlZ (bothZ a.z b.z 1).1)
  rw [hR1] at c1 s1
  rw [show bothZ (a.xs.map zOf) (b.xs.map zOf) 1 = R1 from hR1] at r1
  have S1 := Lib.hid s1
  obtain ⟨R2, hR2⟩ : ∃ R, bothZ a.z b.z (-1) = R := ⟨_, rfl⟩
  have c2 := fun W (h : Grow w W) => sub_any a b W (Ha.out.grow h) (Hb.out.grow h)
  have r2 := fun W (h : Grow w W) => rboth_any a.xs b.xs a.A b.A a.cap b.cap (-1) (.inr rfl) W (Ha.out.grow h) (Hb.out.grow h)
  have s2 := (both_sml _ _ _ : smlZ (bothZ a.z b.z (-1)).1)
  rw [hR2] at c2 s2
  rw [show bothZ (a.xs.map zOf) (b.xs.map zOf) (-1) = R2 from hR2] at r2
  have S2 := Lib.hid s2
  obtain ⟨R3, hR3⟩ : ∃ R, eachZ (fun n => -n) a.z = R := ⟨_, rfl⟩
  have c3 := fun W (h : Grow w W) => neg_any a W (Ha.out.grow h)
  have r3 := fun W (h : Grow w W) => reach_neg (fun n => -n) (fun n W h1 h2 => rneg_fn n W h1 h2) (fun n h1 h2 => by omega) a.A a.xs a.cap W (Ha.out.grow h)
  have s3 := (each_sml2 _ _ : smlZ (eachZ (fun n => -n) a.z).1)
  rw [hR3] at c3 s3
  rw [show eachZ (fun n => -n) (a.xs.map zOf) = R3 from hR3] at r3
  have S3 := Lib.hid s3
  obtain ⟨R4, hR4⟩ : ∃ R, eachZ posF a.z = R := ⟨_, rfl⟩
  have c4 := fun W (h : Grow w W) => pos_any a W (Ha.out.grow h)
  have r4 := fun W (h : Grow w W) => rpos_any a.xs a.A a.cap W (Ha.out.grow h)
  have s4 := (each_sml2 _ _ : smlZ (eachZ posF a.z).1)
  rw [hR4] at c4 s4
  rw [show eachZ posF (a.xs.map zOf) = R4 from hR4] at r4
  have S4 := Lib.hid s4
  obtain ⟨R5, hR5⟩ : ∃ R, eachZ disF a.z = R := ⟨_, rfl⟩
  have c5 := fun W (h : Grow w W) => dis_any a W (Ha.out.grow h)
  have r5 := fun W (h : Grow w W) => rdis_any a.xs a.A a.cap W (Ha.out.grow h)
  have s5 := (each_sml2 _ _ : smlZ (eachZ disF a.z).1)
  rw [hR5] at c5 s5
  rw [show eachZ disF (a.xs.map zOf) = R5 from hR5] at r5
  have S5 := Lib.hid s5
  clear ha hb hR1 s1 hR2 s2 hR3 s3 hR4 s4 hR5 s5
  go_enter Try.func19, Try.ntmps19
  go_upto_region 3 with (first
    | (go_at_call 77; ((with_reducible refine (c1 _ (Grow.refl w)).mono ?_); rintro e1 wa1 ⟨B1, ys1, cb1, rfl, hz, hm, hk, hga1⟩; have Y1 := Lib.hid (And.intro hz hm); clear hz hm hk))
    | (go_at_call 78; ((with_reducible refine (r1 _ ((Grow.refl w).trans hga1)).mono ?_); rintro e1 wb1 ⟨C1, zs1, cc1, rfl, hz, hm, hk, hgb1⟩; have Z1 := Lib.hid (And.intro hz hm); clear hz hm hk)))
  have t1 := same_true ys1 zs1 B1 C1 cb1 cc1 wb1 (Y1.out.1.grow hgb1) Z1.out.1 (Y1.out.2.trans Z1.out.2.symm) (by rw [Y1.out.2]; exact S1.out)
  clear c1 r1
  go_upto_region 5 with (go_at_call 70; ((with_reducible refine t1.mono ?_); rintro e1 wc1 ⟨rfl, hgc1⟩))
  have G1 := (((Grow.refl w).trans hga1).trans hgb1).trans hgc1
  clear t1
  go_upto_region 7 with (first
    | (go_at_call 79; ((with_reducible refine (c2 _ G1).mono ?_); rintro e1 wa2 ⟨B2, ys2, cb2, rfl, hz, hm, hk, hga2⟩; have Y2 := Lib.hid (And.intro hz hm); clear hz hm hk))
    | (go_at_call 78; ((with_reducible refine (r2 _ (G1.trans hga2)).mono ?_); rintro e1 wb2 ⟨C2, zs2, cc2, rfl, hz, hm, hk, hgb2⟩; have Z2 := Lib.hid (And.intro hz hm); clear hz hm hk)))
  have t2 := same_true ys2 zs2 B2 C2 cb2 cc2 wb2 (Y2.out.1.grow hgb2) Z2.out.1 (Y2.out.2.trans Z2.out.2.symm) (by rw [Y2.out.2]; exact S2.out)
  clear c2 r2
  go_upto_region 9 with (go_at_call 70; ((with_reducible refine t2.mono ?_); rintro e1 wc2 ⟨rfl, hgc2⟩))
  have G2 := ((G1.trans hga2).trans hgb2).trans hgc2
  clear t2
  go_upto_region 11 with (first
    | (go_at_call 80; ((with_reducible refine (c3 _ G2).mono ?_); rintro e1 wa3 ⟨B3, ys3, cb3, rfl, hz, hm, hk, hga3⟩; have Y3 := Lib.hid (And.intro hz hm); clear hz hm hk))
    | (go_at_call 81; ((with_reducible refine (r3 _ (G2.trans hga3)).mono ?_); rintro e1 wb3 ⟨C3, zs3, cc3, rfl, hz, hm, hk, hgb3⟩; have Z3 := Lib.hid (And.intro hz hm); clear hz hm hk)))
  have t3 := same_true ys3 zs3 B3 C3 cb3 cc3 wb3 (Y3.out.1.grow hgb3) Z3.out.1 (Y3.out.2.trans Z3.out.2.symm) (by rw [Y3.out.2]; exact S3.out)
  clear c3 r3
  go_upto_region 13 with (go_at_call 70; ((with_reducible refine t3.mono ?_); rintro e1 wc3 ⟨rfl, hgc3⟩))
  have G3 := ((G2.trans hga3).trans hgb3).trans hgc3
  clear t3
  go_upto_region 15 with (first
    | (go_at_call 76; ((with_reducible refine (c4 _ G3).mono ?_); rintro e1 wa4 ⟨B4, ys4, cb4, rfl, hz, hm, hk, hga4⟩; have Y4 := Lib.hid (And.intro hz hm); clear hz hm hk))
    | (go_at_call 83; ((with_reducible refine (r4 _ (G3.trans hga4)).mono ?_); rintro e1 wb4 ⟨C4, zs4, cc4, rfl, hz, hm, hk, hgb4⟩; have Z4 := Lib.hid (And.intro hz hm); clear hz hm hk)))
  have t4 := same_true ys4 zs4 B4 C4 cb4 cc4 wb4 (Y4.out.1.grow hgb4) Z4.out.1 (Y4.out.2.trans Z4.out.2.symm) (by rw [Y4.out.2]; exact S4.out)
  clear c4 r4
  go_upto_region 17 with (go_at_call 70; ((with_reducible refine t4.mono ?_); rintro e1 wc4 ⟨rfl, hgc4⟩))
  have G4 := ((G3.trans hga4).trans hgb4).trans hgc4
  clear t4
  go_upto_region 19 with (first
    | (go_at_call 75; ((with_reducible refine (c5 _ G4).mono ?_); rintro e1 wa5 ⟨B5, ys5, cb5, rfl, hz, hm, hk, hga5⟩; have Y5 := Lib.hid (And.intro hz hm); clear hz hm hk))
    | (go_at_call 84; ((with_reducible refine (r5 _ (G4.trans hga5)).mono ?_); rintro e1 wb5 ⟨C5, zs5, cc5, rfl, hz, hm, hk, hgb5⟩; have Z5 := Lib.hid (And.intro hz hm); clear hz hm hk)))
  have t5 := same_true ys5 zs5 B5 C5 cb5 cc5 wb5 (Y5.out.1.grow hgb5) Z5.out.1 (Y5.out.2.trans Z5.out.2.symm) (by rw [Y5.out.2]; exact S5.out)
  clear c5 r5
  go_wp2_with (go_at_call 70; ((with_reducible refine t5.mono ?_); rintro e1 wc5 ⟨rfl, hgc5⟩))
  have G5 := ((G4.trans hga5).trans hgb5).trans hgc5
  clear t5
  go_ret
  exact ret_bool (by simp) G5
end Go.Proofs.Ytjhcbehnopmnpaa
