/-
  The law ExprsTyped: its walk.
-/
import Derived.Test.YtjhcbehnopmnpaaEvB
namespace Go.Proofs.Ytjhcbehnopmnpaa
open Go.RowKit Go.Calm
set_option linter.unusedSimpArgs false
set_option linter.unusedVariables false

set_option maxRecDepth 100000 in
set_option maxHeartbeats 4000000 in
theorem law_etyped (cols : List Int) (row : List V) (Ac Ar : Option Addr) (cc cr : Nat) (e : E) (w : World) (hlc : cols.length ≤ 9223372036854775807) (hlr : row.length ≤ 9223372036854775807) (hc : ISl w Ac cols) (hr : VSl w Ar row) (hE : EX w e) :
    Calls Try.prog 10 #[.slice Ac cols.length cc, e.val, .slice Ar row.length cr] w fun en w' => en = .returned (.bool true) ∧ Grow w w' := by
  have heq := run_eqlV
  obtain ⟨T, te, hte⟩ : ∃ T te, typeE cols e = (T, te) := ⟨_, _, rfl⟩
  obtain ⟨R, ER, hR⟩ : ∃ R ER, evalE cols row e = (R, ER) := ⟨_, _, rfl⟩
  have c1 := fun W (h : Grow w W) => type_any cols Ac cc e W hlc (hc.grow h) (hE.grow h)
  have c5 := fun W (h : Grow w W) => eval_any cols row Ac Ar cc cr e W hlc hlr (hc.grow h) (hr.grow h) (hE.grow h) R ER hR
  rw [hte] at c1
  simp only at c1
  have key : ((te != 0) = true ∧ ER = te ∧ R = ⟨0, 0, es⟩) ∨ ((te != 0) = false ∧ (ER != 0) = true ∧ R = ⟨0, 0, es⟩) ∨
      ((te != 0) = false ∧ (ER != 0) = false ∧ wrongV R = 0 ∧ ((R.k == 1) = true ∨ (R.k == 1) = false ∧ (R.k == T) = true)) := by
    unfold evalE at hR
    rw [hte] at hR
    by_cases h1 : te = 0
    · subst h1
      simp only [ne_eq, not_true_eq_false, if_false] at hR
      by_cases h2 : fitsE cols row = 0
      · rw [if_neg (by simpa using h2)] at hR
        simp only [Prod.mk.injEq] at hR
        obtain ⟨rfl, rfl⟩ := hR
        have hF := (fits_iff cols row).1 h2
        have hok := okay_iff.1 hte
        have rv := rv_of row hF.rv e (by rw [hF.1]; exact wt_re e hok.ty)
        refine .inr (.inr ⟨rfl, rfl, (RV.of _).2 rv, ?_⟩)
        have := of_ty hF e hok.ty
        by_cases h3 : (ofE row e).k = 1
        · left; simpa using h3
        · right; exact ⟨by simpa using h3, by simpa using this.resolve_left h3⟩
      · rw [if_pos h2] at hR
        simp only [Prod.mk.injEq] at hR
        obtain ⟨rfl, rfl⟩ := hR
        exact .inr (.inl ⟨rfl, by simpa using h2, rfl⟩)
    · simp only [ne_eq, h1, not_false_eq_true, if_true, Prod.mk.injEq] at hR
      obtain ⟨rfl, rfl⟩ := hR
      exact .inl ⟨by simpa using h1, rfl, rfl⟩
  have Key := Lib.hid key
  clear hte hR hc hr hE key
  unfold E.val
  go_enter Try.func10, Try.ntmps10
  go_upto_region 5 with (first
    | (go_at_call 60; ((with_reducible refine (alive3 _).mono ?_); rintro en w1 ⟨rfl, hg1⟩; have B := (Blk.new w 47 #[.int .i64 e.kind, .int .i64 e.v.k, .int .i64 e.v.n, .string e.v.s, .int .i64 e.col, .slice e.A e.n e.cap]).grow hg1; have G := ((Grow.refl w).al _).trans hg1; clear hg1; obtain ⟨cb, fb⟩ := B.rules))
    | (go_at_call 54; ((with_reducible refine (c1 _ G).mono ?_); rintro en w2 ⟨rfl, hg2⟩; replace B := B.grow hg2; replace G := G.trans hg2; clear hg2 cb fb; obtain ⟨cb, fb⟩ := B.rules))
    | (go_at_call 58; ((with_reducible refine (c5 _ G).mono ?_); rintro en w6 ⟨rfl, hg2⟩; replace B := B.grow hg2; replace G := G.trans hg2; clear hg2 cb fb; obtain ⟨cb, fb⟩ := B.rules)))
  refine wp_forget (fun X => Blk X w6.heap.size 29 #[.int .i64 R.k, .int .i64 R.n, .string R.s] ∧ Grow w X) ⟨Blk.new _ _ _, G.al _⟩ ?_
  generalize w6.heap.size = ga
  clear B G cb fb c1 c5
  rintro X ⟨Ba, G⟩
  rcases Key.out with ⟨h1, rfl, rfl⟩ | ⟨h1, h2, rfl⟩ | ⟨h1, h2, h3, h4⟩
  · obtain ⟨ca, fa⟩ := Ba.rules
    go_wp2
    go_ret
    exact ⟨rfl, G⟩
  · obtain ⟨ca, fa⟩ := Ba.rules
    go_wp2
    go_ret
    exact ⟨rfl, G⟩
  · obtain ⟨ca, fa⟩ := Ba.rules
    rcases h4 with h4 | ⟨h4, h5⟩
    · go_wp2_with (go_at_call 42; ((with_reducible refine (rwrong_any R _).mono ?_); rintro en w7 ⟨rfl, hg2⟩; replace Ba := Ba.grow hg2; replace G := G.trans hg2; clear hg2 ca fa; obtain ⟨ca, fa⟩ := Ba.rules))
      go_ret
      exact ⟨rfl, G⟩
    · go_wp2_with (go_at_call 42; ((with_reducible refine (rwrong_any R _).mono ?_); rintro en w7 ⟨rfl, hg2⟩; replace Ba := Ba.grow hg2; replace G := G.trans hg2; clear hg2 ca fa; obtain ⟨ca, fa⟩ := Ba.rules))
      go_ret
      exact ⟨rfl, G⟩
end Go.Proofs.Ytjhcbehnopmnpaa
