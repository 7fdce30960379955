/-
  Reckon of chapter 1's reference.
-/
import Derived.Test.YtjhcbehnopmnpaaVals4
import Derived.Lib.Hide
namespace Go.Proofs.Ytjhcbehnopmnpaa
open Go.RowKit Go.Calm
set_option linter.unusedSimpArgs false
set_option linter.unusedVariables false

set_option maxHeartbeats 1000000 in
theorem rreckon_sum (sign : Int) (hs : sign = 43 ∨ sign = 45) (a b : V) (hd1 : (a.k != 3) = false) (hd2 : (b.k != 3) = false) (a1 : -1000000000000000 ≤ a.n) (a2 : a.n ≤ 1000000000000000) (b1 : -1000000000000000 ≤ b.n) (b2 : b.n ≤ 1000000000000000) (w : World) :
    Calls Try.prog 51 #[.int .i32 sign, a.val, b.val] w fun e w' => e = .returned (intV (if sign = 43 then a.n + b.n else a.n - b.n)).val ∧ Grow w w' := by
  rcases hs with rfl | rfl
  · simp only [if_true]
    by_cases h1 : 1000000000000000 < a.n + b.n
    · have e : intV (a.n + b.n) = ⟨1, 0, es⟩ := by unfold intV; rw [if_neg (by omega)]
      rw [e]; clear e
      unfold V.val
      go_enter Try.func51, Try.ntmps51
      go_wp2
      go_quiet (fail)
      go_wp2_with ((go_at_call 105; ((with_reducible refine (rnull_any _).mono ?_); rintro e w' ⟨rfl, hg⟩; obtain ⟨hc, hf, hz⟩ := hg.rules)))
      exact bodyPost_ret (by simp [results, Try.results51, go_sem, hc]) rfl ⟨rfl, (by repeat (first | (with_reducible exact Grow.refl _) | (with_reducible assumption) | (with_reducible refine Grow.set ?_ (by first | (simp; done) | (simp; omega)) _) | (with_reducible refine Grow.al ?_ _) | (with_reducible refine Grow.drew ?_) | (with_reducible refine Grow.drewN ?_ _) | (with_reducible refine Grow.trans ?_ (by assumption))))⟩
    · have g1 : decide (1000000000000000 < a.n + b.n) = false := by simpa using h1
      by_cases h2 : a.n + b.n < -1000000000000000
      · have e : intV (a.n + b.n) = ⟨1, 0, es⟩ := by unfold intV; rw [if_neg (by omega)]
        rw [e]; clear e
        unfold V.val
        go_enter Try.func51, Try.ntmps51
        go_wp2
        go_quiet (fail)
        go_wp2_with ((go_at_call 105; ((with_reducible refine (rnull_any _).mono ?_); rintro e w' ⟨rfl, hg⟩; obtain ⟨hc, hf, hz⟩ := hg.rules)))
        exact bodyPost_ret (by simp [results, Try.results51, go_sem, hc]) rfl ⟨rfl, (by repeat (first | (with_reducible exact Grow.refl _) | (with_reducible assumption) | (with_reducible refine Grow.set ?_ (by first | (simp; done) | (simp; omega)) _) | (with_reducible refine Grow.al ?_ _) | (with_reducible refine Grow.drew ?_) | (with_reducible refine Grow.drewN ?_ _) | (with_reducible refine Grow.trans ?_ (by assumption))))⟩
      · have g2 : decide (a.n + b.n < -1000000000000000) = false := by simpa using h2
        have e : intV (a.n + b.n) = ⟨3, a.n + b.n, es⟩ := by unfold intV; rw [if_pos (by omega)]
        rw [e]; clear e
        unfold V.val
        go_enter Try.func51, Try.ntmps51
        go_wp2
        go_quiet (fail)
        go_wp2
        exact bodyPost_ret (by simp [results, Try.results51, go_sem]) rfl ⟨rfl, (by repeat (first | (with_reducible exact Grow.refl _) | (with_reducible assumption) | (with_reducible refine Grow.set ?_ (by first | (simp; done) | (simp; omega)) _) | (with_reducible refine Grow.al ?_ _) | (with_reducible refine Grow.drew ?_) | (with_reducible refine Grow.drewN ?_ _) | (with_reducible refine Grow.trans ?_ (by assumption))))⟩
  · simp only [Int.reduceEq, if_false]
    by_cases h1 : 1000000000000000 < a.n - b.n
    · have e : intV (a.n - b.n) = ⟨1, 0, es⟩ := by unfold intV; rw [if_neg (by omega)]
      rw [e]; clear e
      unfold V.val
      go_enter Try.func51, Try.ntmps51
      go_wp2
      go_quiet (fail)
      go_wp2_with ((go_at_call 105; ((with_reducible refine (rnull_any _).mono ?_); rintro e w' ⟨rfl, hg⟩; obtain ⟨hc, hf, hz⟩ := hg.rules)))
      exact bodyPost_ret (by simp [results, Try.results51, go_sem, hc]) rfl ⟨rfl, (by repeat (first | (with_reducible exact Grow.refl _) | (with_reducible assumption) | (with_reducible refine Grow.set ?_ (by first | (simp; done) | (simp; omega)) _) | (with_reducible refine Grow.al ?_ _) | (with_reducible refine Grow.drew ?_) | (with_reducible refine Grow.drewN ?_ _) | (with_reducible refine Grow.trans ?_ (by assumption))))⟩
    · have g1 : decide (1000000000000000 < a.n - b.n) = false := by simpa using h1
      by_cases h2 : a.n - b.n < -1000000000000000
      · have e : intV (a.n - b.n) = ⟨1, 0, es⟩ := by unfold intV; rw [if_neg (by omega)]
        rw [e]; clear e
        unfold V.val
        go_enter Try.func51, Try.ntmps51
        go_wp2
        go_quiet (fail)
        go_wp2_with ((go_at_call 105; ((with_reducible refine (rnull_any _).mono ?_); rintro e w' ⟨rfl, hg⟩; obtain ⟨hc, hf, hz⟩ := hg.rules)))
        exact bodyPost_ret (by simp [results, Try.results51, go_sem, hc]) rfl ⟨rfl, (by repeat (first | (with_reducible exact Grow.refl _) | (with_reducible assumption) | (with_reducible refine Grow.set ?_ (by first | (simp; done) | (simp; omega)) _) | (with_reducible refine Grow.al ?_ _) | (with_reducible refine Grow.drew ?_) | (with_reducible refine Grow.drewN ?_ _) | (with_reducible refine Grow.trans ?_ (by assumption))))⟩
      · have g2 : decide (a.n - b.n < -1000000000000000) = false := by simpa using h2
        have e : intV (a.n - b.n) = ⟨3, a.n - b.n, es⟩ := by unfold intV; rw [if_pos (by omega)]
        rw [e]; clear e
        unfold V.val
        go_enter Try.func51, Try.ntmps51
        go_wp2
        go_quiet (fail)
        go_wp2
        exact bodyPost_ret (by simp [results, Try.results51, go_sem]) rfl ⟨rfl, (by repeat (first | (with_reducible exact Grow.refl _) | (with_reducible assumption) | (with_reducible refine Grow.set ?_ (by first | (simp; done) | (simp; omega)) _) | (with_reducible refine Grow.al ?_ _) | (with_reducible refine Grow.drew ?_) | (with_reducible refine Grow.drewN ?_ _) | (with_reducible refine Grow.trans ?_ (by assumption))))⟩

theorem mul_cases (x y A : Int) (hA : (y.natAbs : Int) = A) (h1 : 1 ≤ A) (h2 : A ≤ 1000000000000000) :
    (1000000000000000 / A < x → ¬ (-1000000000000000 ≤ x * y ∧ x * y ≤ 1000000000000000)) ∧
    (x < wrap64 (-Int.tdiv 1000000000000000 A) → ¬ (-1000000000000000 ≤ x * y ∧ x * y ≤ 1000000000000000)) ∧
    (x ≤ 1000000000000000 / A → wrap64 (-Int.tdiv 1000000000000000 A) ≤ x → (-1000000000000000 ≤ x * y ∧ x * y ≤ 1000000000000000) ∧ wrap64 (x * y) = x * y) := by
  have ht : Int.tdiv 1000000000000000 A = 1000000000000000 / A := by rw [Int.tdiv_eq_ediv_of_nonneg (by omega)]
  rw [ht]
  have hq0 : 0 ≤ 1000000000000000 / A := Int.ediv_nonneg (by omega) (by omega)
  have hq1 : 1000000000000000 / A ≤ 1000000000000000 := Int.ediv_le_self _ (by omega)
  have hlo : 1000000000000000 / A * A ≤ 1000000000000000 := Int.ediv_mul_le _ (by omega)
  have hhi : 1000000000000000 < (1000000000000000 / A + 1) * A := Int.lt_ediv_add_one_mul_self _ (by omega)
  obtain ⟨q, hq⟩ : ∃ q, q = 1000000000000000 / A := ⟨_, rfl⟩
  rw [← hq] at hq0 hq1 hlo hhi ⊢
  have hw : wrap64 (-q) = -q := IntWalk.wrap64_in _ (by omega)
  rw [hw]
  have habs : ((x * y).natAbs : Int) = x.natAbs * A := by rw [Int.natAbs_mul, Int.natCast_mul, hA]
  have near : (x.natAbs : Int) ≤ q → ((x * y).natAbs : Int) ≤ 1000000000000000 := fun h => by
    rw [habs]
    have := Int.mul_le_mul_of_nonneg_right h (show 0 ≤ A by omega)
    omega
  have far : q + 1 ≤ (x.natAbs : Int) → 1000000000000000 < ((x * y).natAbs : Int) := fun h => by
    rw [habs]
    have := Int.mul_le_mul_of_nonneg_right h (show 0 ≤ A by omega)
    omega
  refine ⟨fun h => ?_, fun h => ?_, fun h h' => ?_⟩
  · have := far (by omega); omega
  · have := far (by omega); omega
  · have := near (by omega)
    exact ⟨by omega, IntWalk.wrap64_in _ (by omega)⟩
theorem abs_ex (n : Int) (hn : n ≠ 0) (h1 : -1000000000000000 ≤ n) (h2 : n ≤ 1000000000000000) : ∃ A : Int, (n.natAbs : Int) = A ∧ 1 ≤ A ∧ A ≤ 1000000000000000 := ⟨_, rfl, by omega, by omega⟩
set_option maxHeartbeats 1000000 in
theorem rreckon_mul (a b : V) (hd1 : (a.k != 3) = false) (hd2 : (b.k != 3) = false) (a1 : -1000000000000000 ≤ a.n) (a2 : a.n ≤ 1000000000000000) (b1 : -1000000000000000 ≤ b.n) (b2 : b.n ≤ 1000000000000000) (w : World) :
    Calls Try.prog 51 #[.int .i32 42, a.val, b.val] w fun e w' => e = .returned (intV (a.n * b.n)).val ∧ Grow w w' := by
  by_cases hx : b.n = 0
  · have dx : (b.n != 0) = false := by simpa using hx
    have hp : wrap64 (a.n * b.n) = 0 := by rw [hx, Int.mul_zero]; exact IntWalk.wrap64_in _ (by omega)
    have e : intV (a.n * b.n) = ⟨3, 0, es⟩ := by rw [hx, Int.mul_zero]; rfl
    rw [e]; clear e hx
    unfold V.val
    go_enter Try.func51, Try.ntmps51
    go_wp2
    go_quiet (fail)
    go_wp2
    exact bodyPost_ret (by simp [results, Try.results51, go_sem]) rfl ⟨rfl, (by repeat (first | (with_reducible exact Grow.refl _) | (with_reducible assumption) | (with_reducible refine Grow.set ?_ (by first | (simp; done) | (simp; omega)) _) | (with_reducible refine Grow.al ?_ _) | (with_reducible refine Grow.drew ?_) | (with_reducible refine Grow.drewN ?_ _) | (with_reducible refine Grow.trans ?_ (by assumption))))⟩
  · have dx : (b.n != 0) = true := by simpa using hx
    obtain ⟨A, hA, A1, A2⟩ := abs_ex b.n hx b1 b2
    have habs := abs_any b.n ⟨b1, b2⟩
    rw [hA] at habs
    have Habs := Lib.hid habs
    have HA := Lib.hid hA
    clear habs hA
    unfold V.val
    go_enter Try.func51, Try.ntmps51
    go_wp2
    go_quiet (fail)
    go_wp2_with (first | (go_at_call 107; ((with_reducible refine (Habs.out _).mono ?_); rintro e w' ⟨rfl, rfl⟩)) | (go_at_call 105; ((with_reducible refine (rnull_any _).mono ?_); rintro e w' ⟨rfl, hg⟩; obtain ⟨hc, hf, hz⟩ := hg.rules)))
    all_goals obtain ⟨m1, m2, m3⟩ := mul_cases a.n b.n A HA.out A1 A2
    · have e : intV (a.n * b.n) = ⟨1, 0, es⟩ := by unfold intV; rw [if_neg (m1 ‹_›)]
      exact bodyPost_ret (v := V.val ⟨1, 0, es⟩) (by simp [results, Try.results51, go_sem, hc]) rfl ⟨by rw [e], (by repeat (first | (with_reducible exact Grow.refl _) | (with_reducible assumption) | (with_reducible refine Grow.set ?_ (by first | (simp; done) | (simp; omega)) _) | (with_reducible refine Grow.al ?_ _) | (with_reducible refine Grow.drew ?_) | (with_reducible refine Grow.drewN ?_ _) | (with_reducible refine Grow.trans ?_ (by assumption))))⟩
    · have e : intV (a.n * b.n) = ⟨1, 0, es⟩ := by unfold intV; rw [if_neg (m2 ‹_›)]
      exact bodyPost_ret (v := V.val ⟨1, 0, es⟩) (by simp [results, Try.results51, go_sem, hc]) rfl ⟨by rw [e], (by repeat (first | (with_reducible exact Grow.refl _) | (with_reducible assumption) | (with_reducible refine Grow.set ?_ (by first | (simp; done) | (simp; omega)) _) | (with_reducible refine Grow.al ?_ _) | (with_reducible refine Grow.drew ?_) | (with_reducible refine Grow.drewN ?_ _) | (with_reducible refine Grow.trans ?_ (by assumption))))⟩
    · obtain ⟨g, g'⟩ := m3 ‹_› ‹_›
      omega
    · obtain ⟨g, g'⟩ := m3 ‹_› ‹_›
      omega
    · obtain ⟨g, g'⟩ := m3 ‹_› ‹_›
      have e : intV (a.n * b.n) = ⟨3, wrap64 (a.n * b.n), es⟩ := by unfold intV; rw [if_pos g, g']
      exact bodyPost_ret (v := V.val ⟨3, wrap64 (a.n * b.n), es⟩) (by simp [results, Try.results51, go_sem]) rfl ⟨by rw [e], (by repeat (first | (with_reducible exact Grow.refl _) | (with_reducible assumption) | (with_reducible refine Grow.set ?_ (by first | (simp; done) | (simp; omega)) _) | (with_reducible refine Grow.al ?_ _) | (with_reducible refine Grow.drew ?_) | (with_reducible refine Grow.drewN ?_ _) | (with_reducible refine Grow.trans ?_ (by assumption))))⟩

theorem rreckon_any (sign : Int) (a b : V) (ha : RV a) (hb : RV b) (w : World) : Calls Try.prog 51 #[.int .i32 sign, a.val, b.val] w fun e w' => e = .returned (reckonV sign a b).val ∧ Grow w w' := by
  by_cases h1 : a.k = 3
  · have hd1 : (a.k != 3) = false := by simpa using h1
    by_cases h2 : b.k = 3
    · have hd2 : (b.k != 3) = false := by simpa using h2
      obtain ⟨a1, a2⟩ := ha.int h1
      obtain ⟨b1, b2⟩ := hb.int h2
      by_cases s1 : sign = 43
      · have e : reckonV sign a b = intV (if sign = 43 then a.n + b.n else a.n - b.n) := by simp [reckonV, h1, h2, s1]
        rw [e]
        exact rreckon_sum sign (.inl s1) a b hd1 hd2 a1 a2 b1 b2 w
      · have d1 : (sign == 43) = false := by simpa using s1
        by_cases s2 : sign = 45
        · have e : reckonV sign a b = intV (if sign = 43 then a.n + b.n else a.n - b.n) := by simp [reckonV, h1, h2, s2]
          rw [e]
          exact rreckon_sum sign (.inr s2) a b hd1 hd2 a1 a2 b1 b2 w
        · have d2 : (sign == 45) = false := by simpa using s2
          by_cases s3 : sign = 42
          · have e : reckonV sign a b = intV (a.n * b.n) := by simp [reckonV, h1, h2, s3]
            rw [e, s3]
            exact rreckon_mul a b hd1 hd2 a1 a2 b1 b2 w
          · have d3 : (sign == 42) = false := by simpa using s3
            have e : reckonV sign a b = ⟨1, 0, es⟩ := by simp [reckonV, s1, s2, s3]
            rw [e]; clear e h1 h2 ha hb s1 s2 s3
            unfold V.val
            go_enter Try.func51, Try.ntmps51
            go_wp2
            go_quiet (fail)
            go_wp2_with ((go_at_call 105; ((with_reducible refine (rnull_any _).mono ?_); rintro e w' ⟨rfl, hg⟩; obtain ⟨hc, hf, hz⟩ := hg.rules)))
            exact bodyPost_ret (by simp [results, Try.results51, go_sem, hc]) rfl ⟨rfl, (by repeat (first | (with_reducible exact Grow.refl _) | (with_reducible assumption) | (with_reducible refine Grow.set ?_ (by first | (simp; done) | (simp; omega)) _) | (with_reducible refine Grow.al ?_ _) | (with_reducible refine Grow.drew ?_) | (with_reducible refine Grow.drewN ?_ _) | (with_reducible refine Grow.trans ?_ (by assumption))))⟩
    · have hd2 : (b.k != 3) = true := by simpa using h2
      have e : reckonV sign a b = ⟨1, 0, es⟩ := by simp [reckonV, h2]
      rw [e]; clear e h1 h2 ha hb
      unfold V.val
      go_enter Try.func51, Try.ntmps51
      go_wp2_with ((go_at_call 105; ((with_reducible refine (rnull_any _).mono ?_); rintro e w' ⟨rfl, hg⟩; obtain ⟨hc, hf, hz⟩ := hg.rules)))
      exact bodyPost_ret (by simp [results, Try.results51, go_sem, hc]) rfl ⟨rfl, (by repeat (first | (with_reducible exact Grow.refl _) | (with_reducible assumption) | (with_reducible refine Grow.set ?_ (by first | (simp; done) | (simp; omega)) _) | (with_reducible refine Grow.al ?_ _) | (with_reducible refine Grow.drew ?_) | (with_reducible refine Grow.drewN ?_ _) | (with_reducible refine Grow.trans ?_ (by assumption))))⟩
  · have hd1 : (a.k != 3) = true := by simpa using h1
    have e : reckonV sign a b = ⟨1, 0, es⟩ := by simp [reckonV, h1]
    rw [e]; clear e h1 ha hb
    unfold V.val
    go_enter Try.func51, Try.ntmps51
    go_wp2_with ((go_at_call 105; ((with_reducible refine (rnull_any _).mono ?_); rintro e w' ⟨rfl, hg⟩; obtain ⟨hc, hf, hz⟩ := hg.rules)))
    exact bodyPost_ret (by simp [results, Try.results51, go_sem, hc]) rfl ⟨rfl, (by repeat (first | (with_reducible exact Grow.refl _) | (with_reducible assumption) | (with_reducible refine Grow.set ?_ (by first | (simp; done) | (simp; omega)) _) | (with_reducible refine Grow.al ?_ _) | (with_reducible refine Grow.drew ?_) | (with_reducible refine Grow.drewN ?_ _) | (with_reducible refine Grow.trans ?_ (by assumption))))⟩
end Go.Proofs.Ytjhcbehnopmnpaa
