/-
  vals.Reckon, Join; And, Or, Not, Reckon, Join of chapter 1's reference.
-/
import Derived.Test.YtjhcbehnopmnpaaVals3
import Derived.Deep.QuietTactic
import Derived.BigQuiet
namespace Go.Proofs.Ytjhcbehnopmnpaa
open Go.RowKit Go.Calm
set_option linter.unusedSimpArgs false
set_option linter.unusedVariables false

def reckonV (sign : Int) (a b : V) : V :=
  if a.k = 3 ∧ b.k = 3 then
    (if sign = 43 then intV (a.n + b.n) else if sign = 45 then intV (a.n - b.n) else if sign = 42 then intV (a.n * b.n) else ⟨1, 0, es⟩)
  else ⟨1, 0, es⟩

theorem mul_near {x y : Int} (hx : x ≠ 0) (h : -1000000000000000 ≤ x * y ∧ x * y ≤ 1000000000000000) : wrap64 (x * y) = x * y ∧ wrap64 ((x * y).tdiv x) = y := by
  have h1 : wrap64 (x * y) = x * y := IntWalk.wrap64_in _ (by omega)
  have h2 : (x * y).tdiv x = y := Int.mul_tdiv_cancel_left y hx
  refine ⟨h1, ?_⟩
  rw [h2]
  refine IntWalk.wrap64_in _ ?_
  have : y.natAbs ≤ (x * y).natAbs := by
    rw [Int.natAbs_mul]
    exact Nat.le_mul_of_pos_left _ (by omega)
  omega
theorem mul_far {x y P : Int} (hx : x ≠ 0) (hP : wrap64 (x * y) = P) (h : ¬ (-1000000000000000 ≤ x * y ∧ x * y ≤ 1000000000000000)) (hq : wrap64 (P.tdiv x) = y) : P < -1000000000000000 ∨ 1000000000000000 < P := by
  rcases Classical.em (P < -1000000000000000 ∨ 1000000000000000 < P) with h' | h'
  · exact h'
  · exfalso
    apply h
    have hle : (P.tdiv x).natAbs ≤ P.natAbs := by rw [Int.natAbs_tdiv]; exact Nat.div_le_self _ _
    have hw : wrap64 (P.tdiv x) = P.tdiv x := IntWalk.wrap64_in _ (by omega)
    rw [hw] at hq
    have hm : (x * y).natAbs ≤ P.natAbs := by
      rw [← hq, Int.natAbs_mul, Int.natAbs_tdiv]
      exact Nat.mul_div_le _ _
    omega

set_option maxHeartbeats 1000000 in
theorem reckon_mul (a b : V) (hd1 : (a.k != 3) = false) (hd2 : (b.k != 3) = false) (a1 : -1000000000000000 ≤ a.n) (a2 : a.n ≤ 1000000000000000) (b1 : -1000000000000000 ≤ b.n) (b2 : b.n ≤ 1000000000000000) (w : World) :
    Calls Try.prog 30 #[.int .i32 42, a.val, b.val] w fun e w' => e = .returned (intV (a.n * b.n)).val ∧ Grow w w' := by
  by_cases hx : a.n = 0
  · have dx : (a.n == 0) = true := by simpa using hx
    have hp : wrap64 (a.n * b.n) = 0 := by rw [hx, Int.zero_mul]; exact IntWalk.wrap64_in _ (by omega)
    have e : intV (a.n * b.n) = intV 0 := by rw [hx, Int.zero_mul]
    rw [e]; clear e hx
    unfold V.val
    go_enter Try.func30, Try.ntmps30
    go_wp2
    go_quiet (fail)
    go_wp2_with ((go_at_call 98; ((with_reducible refine (int_any _ _).mono ?_); rintro e w' ⟨rfl, hg⟩; obtain ⟨hc, hf, hz⟩ := hg.rules)))
    exact bodyPost_ret (by simp [results, Try.results30, go_sem, hc]) rfl ⟨rfl, (by repeat (first | (with_reducible exact Grow.refl _) | (with_reducible assumption) | (with_reducible refine Grow.set ?_ (by first | (simp; done) | (simp; omega)) _) | (with_reducible refine Grow.al ?_ _) | (with_reducible refine Grow.drew ?_) | (with_reducible refine Grow.drewN ?_ _) | (with_reducible refine Grow.trans ?_ (by assumption))))⟩
  · have dx : (a.n == 0) = false := by simpa using hx
    by_cases hm : -1000000000000000 ≤ a.n * b.n ∧ a.n * b.n ≤ 1000000000000000
    · obtain ⟨g1, g2⟩ := mul_near hx hm
      obtain ⟨m1, m2⟩ := hm
      obtain ⟨P, hP⟩ : ∃ P, P = a.n * b.n := ⟨_, rfl⟩
      rw [← hP] at g1 g2 m1 m2 ⊢
      have hp : wrap64 (a.n * b.n) = P := by rw [← hP]; exact g1
      have dq : (wrap64 (P.tdiv a.n) == b.n) = true := by rw [g2]; simp
      clear g1 g2 hP
      unfold V.val
      go_enter Try.func30, Try.ntmps30
      go_wp2
      go_quiet (fail)
      go_wp2_with ((go_at_call 98; ((with_reducible refine (int_any _ _).mono ?_); rintro e w' ⟨rfl, hg⟩; obtain ⟨hc, hf, hz⟩ := hg.rules)))
      exact bodyPost_ret (by simp [results, Try.results30, go_sem, hc]) rfl ⟨rfl, (by repeat (first | (with_reducible exact Grow.refl _) | (with_reducible assumption) | (with_reducible refine Grow.set ?_ (by first | (simp; done) | (simp; omega)) _) | (with_reducible refine Grow.al ?_ _) | (with_reducible refine Grow.drew ?_) | (with_reducible refine Grow.drewN ?_ _) | (with_reducible refine Grow.trans ?_ (by assumption))))⟩
    · have e : intV (a.n * b.n) = ⟨1, 0, es⟩ := by unfold intV; rw [if_neg hm]
      rw [e]; clear e
      obtain ⟨P, hp⟩ : ∃ P, wrap64 (a.n * b.n) = P := ⟨_, rfl⟩
      have far := mul_far hx hp hm
      clear hm
      by_cases hq : wrap64 (P.tdiv a.n) = b.n
      · have dq : (wrap64 (P.tdiv a.n) == b.n) = true := by rw [hq]; simp
        rcases far hq with hf | hf
        · have hf' : P ≤ 1000000000000000 := by omega
          clear far hq
          unfold V.val
          go_enter Try.func30, Try.ntmps30
          go_wp2
          go_quiet (fail)
          go_wp2_with ((go_at_call 38; ((with_reducible refine (null _).mono ?_); rintro e w' ⟨rfl, hg⟩; obtain ⟨hc, hf, hz⟩ := hg.rules)))
          exact bodyPost_ret (by simp [results, Try.results30, go_sem, hc]) rfl ⟨rfl, (by repeat (first | (with_reducible exact Grow.refl _) | (with_reducible assumption) | (with_reducible refine Grow.set ?_ (by first | (simp; done) | (simp; omega)) _) | (with_reducible refine Grow.al ?_ _) | (with_reducible refine Grow.drew ?_) | (with_reducible refine Grow.drewN ?_ _) | (with_reducible refine Grow.trans ?_ (by assumption))))⟩
        · clear far hq
          unfold V.val
          go_enter Try.func30, Try.ntmps30
          go_wp2
          go_quiet (fail)
          go_wp2_with ((go_at_call 38; ((with_reducible refine (null _).mono ?_); rintro e w' ⟨rfl, hg⟩; obtain ⟨hc, hf, hz⟩ := hg.rules)))
          exact bodyPost_ret (by simp [results, Try.results30, go_sem, hc]) rfl ⟨rfl, (by repeat (first | (with_reducible exact Grow.refl _) | (with_reducible assumption) | (with_reducible refine Grow.set ?_ (by first | (simp; done) | (simp; omega)) _) | (with_reducible refine Grow.al ?_ _) | (with_reducible refine Grow.drew ?_) | (with_reducible refine Grow.drewN ?_ _) | (with_reducible refine Grow.trans ?_ (by assumption))))⟩
      · have dq : (wrap64 (P.tdiv a.n) == b.n) = false := by simpa using hq
        clear far hq
        unfold V.val
        go_enter Try.func30, Try.ntmps30
        go_wp2
        go_quiet (fail)
        go_wp2_with ((go_at_call 38; ((with_reducible refine (null _).mono ?_); rintro e w' ⟨rfl, hg⟩; obtain ⟨hc, hf, hz⟩ := hg.rules)))
        exact bodyPost_ret (by simp [results, Try.results30, go_sem, hc]) rfl ⟨rfl, (by repeat (first | (with_reducible exact Grow.refl _) | (with_reducible assumption) | (with_reducible refine Grow.set ?_ (by first | (simp; done) | (simp; omega)) _) | (with_reducible refine Grow.al ?_ _) | (with_reducible refine Grow.drew ?_) | (with_reducible refine Grow.drewN ?_ _) | (with_reducible refine Grow.trans ?_ (by assumption))))⟩

set_option maxHeartbeats 400000 in
theorem reckon_any (sign : Int) (a b : V) (ha : RV a) (hb : RV b) (w : World) : Calls Try.prog 30 #[.int .i32 sign, a.val, b.val] w fun e w' => e = .returned (reckonV sign a b).val ∧ Grow w w' := by
  by_cases h1 : a.k = 3
  · have hd1 : (a.k != 3) = false := by simpa using h1
    by_cases h2 : b.k = 3
    · have hd2 : (b.k != 3) = false := by simpa using h2
      obtain ⟨a1, a2⟩ := ha.int h1
      obtain ⟨b1, b2⟩ := hb.int h2
      by_cases s1 : sign = 43
      · have e : reckonV sign a b = intV (a.n + b.n) := by simp [reckonV, h1, h2, s1]
        rw [e]; clear e h1 h2 ha hb
        subst s1
        unfold V.val
        go_enter Try.func30, Try.ntmps30
        go_wp2
        go_quiet (fail)
        go_wp2_with ((go_at_call 98; ((with_reducible refine (int_any _ _).mono ?_); rintro e w' ⟨rfl, hg⟩; obtain ⟨hc, hf, hz⟩ := hg.rules)))
        exact bodyPost_ret (by simp [results, Try.results30, go_sem, hc]) rfl ⟨rfl, (by repeat (first | (with_reducible exact Grow.refl _) | (with_reducible assumption) | (with_reducible refine Grow.set ?_ (by first | (simp; done) | (simp; omega)) _) | (with_reducible refine Grow.al ?_ _) | (with_reducible refine Grow.drew ?_) | (with_reducible refine Grow.drewN ?_ _) | (with_reducible refine Grow.trans ?_ (by assumption))))⟩
      · have d1 : (sign == 43) = false := by simpa using s1
        by_cases s2 : sign = 45
        · have e : reckonV sign a b = intV (a.n - b.n) := by simp [reckonV, h1, h2, s2]
          rw [e]; clear e h1 h2 ha hb d1 s1
          subst s2
          unfold V.val
          go_enter Try.func30, Try.ntmps30
          go_wp2
          go_quiet (fail)
          go_wp2_with ((go_at_call 98; ((with_reducible refine (int_any _ _).mono ?_); rintro e w' ⟨rfl, hg⟩; obtain ⟨hc, hf, hz⟩ := hg.rules)))
          exact bodyPost_ret (by simp [results, Try.results30, go_sem, hc]) rfl ⟨rfl, (by repeat (first | (with_reducible exact Grow.refl _) | (with_reducible assumption) | (with_reducible refine Grow.set ?_ (by first | (simp; done) | (simp; omega)) _) | (with_reducible refine Grow.al ?_ _) | (with_reducible refine Grow.drew ?_) | (with_reducible refine Grow.drewN ?_ _) | (with_reducible refine Grow.trans ?_ (by assumption))))⟩
        · have d2 : (sign == 45) = false := by simpa using s2
          by_cases s3 : sign = 42
          · have e : reckonV sign a b = intV (a.n * b.n) := by simp [reckonV, h1, h2, s3]
            rw [e]; clear e h1 h2 ha hb d1 s1 d2 s2
            subst s3
            exact reckon_mul a b hd1 hd2 a1 a2 b1 b2 w
          · have d3 : (sign == 42) = false := by simpa using s3
            have e : reckonV sign a b = ⟨1, 0, es⟩ := by simp [reckonV, s1, s2, s3]
            rw [e]; clear e h1 h2 ha hb s1 s2 s3
            unfold V.val
            go_enter Try.func30, Try.ntmps30
            go_wp2
            go_quiet (fail)
            go_wp2_with ((go_at_call 38; ((with_reducible refine (null _).mono ?_); rintro e w' ⟨rfl, hg⟩; obtain ⟨hc, hf, hz⟩ := hg.rules)))
            exact bodyPost_ret (by simp [results, Try.results30, go_sem, hc]) rfl ⟨rfl, (by repeat (first | (with_reducible exact Grow.refl _) | (with_reducible assumption) | (with_reducible refine Grow.set ?_ (by first | (simp; done) | (simp; omega)) _) | (with_reducible refine Grow.al ?_ _) | (with_reducible refine Grow.drew ?_) | (with_reducible refine Grow.drewN ?_ _) | (with_reducible refine Grow.trans ?_ (by assumption))))⟩
    · have hd2 : (b.k != 3) = true := by simpa using h2
      have e : reckonV sign a b = ⟨1, 0, es⟩ := by simp [reckonV, h2]
      rw [e]; clear e h1 h2 ha hb
      unfold V.val
      go_enter Try.func30, Try.ntmps30
      go_wp2_with ((go_at_call 38; ((with_reducible refine (null _).mono ?_); rintro e w' ⟨rfl, hg⟩; obtain ⟨hc, hf, hz⟩ := hg.rules)))
      exact bodyPost_ret (by simp [results, Try.results30, go_sem, hc]) rfl ⟨rfl, (by repeat (first | (with_reducible exact Grow.refl _) | (with_reducible assumption) | (with_reducible refine Grow.set ?_ (by first | (simp; done) | (simp; omega)) _) | (with_reducible refine Grow.al ?_ _) | (with_reducible refine Grow.drew ?_) | (with_reducible refine Grow.drewN ?_ _) | (with_reducible refine Grow.trans ?_ (by assumption))))⟩
  · have hd1 : (a.k != 3) = true := by simpa using h1
    have e : reckonV sign a b = ⟨1, 0, es⟩ := by simp [reckonV, h1]
    rw [e]; clear e h1 ha hb
    unfold V.val
    go_enter Try.func30, Try.ntmps30
    go_wp2_with ((go_at_call 38; ((with_reducible refine (null _).mono ?_); rintro e w' ⟨rfl, hg⟩; obtain ⟨hc, hf, hz⟩ := hg.rules)))
    exact bodyPost_ret (by simp [results, Try.results30, go_sem, hc]) rfl ⟨rfl, (by repeat (first | (with_reducible exact Grow.refl _) | (with_reducible assumption) | (with_reducible refine Grow.set ?_ (by first | (simp; done) | (simp; omega)) _) | (with_reducible refine Grow.al ?_ _) | (with_reducible refine Grow.drew ?_) | (with_reducible refine Grow.drewN ?_ _) | (with_reducible refine Grow.trans ?_ (by assumption))))⟩
end Go.Proofs.Ytjhcbehnopmnpaa
