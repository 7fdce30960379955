/-
  exprs: kids, one; the reference's kids, Letter, Together.
-/
import Derived.Test.YtjhcbehnopmnpaaVals3
import Derived.BigGuardPart
namespace Go.Proofs.Ytjhcbehnopmnpaa
open Go.RowKit Go.Calm
set_option linter.unusedSimpArgs false
set_option linter.unusedVariables false

def kidsN (k : Int) : Int :=
  if k = 1 ∨ k = 2 then 0
  else if k = 3 ∨ k = 16 then 1
  else if (4 ≤ k ∧ k ≤ 15) ∨ k = 18 then 2
  else if k = 17 then 3
  else -1
set_option maxRecDepth 100000 in
theorem kids_any (k : Int) (w : World) : Calls Try.prog 142 #[.int .i64 k] w fun e w' => e = .returned (.int .i64 (kidsN k)) ∧ w = w' := by
  go_enter Try.func142, Try.ntmps142
  go_wp2
  all_goals
    go_ret
    refine ret_int ?_ rfl
    (try simp only [beq_iff_eq, beq_eq_false_iff_ne, bne_iff_ne, ne_eq, bne_eq_false_iff_eq, Bool.not_eq_true', Bool.not_eq_false', decide_eq_true_eq, decide_eq_false_iff_not] at *)
    unfold kidsN
    repeat' split
    all_goals first | rfl | omega

set_option maxHeartbeats 4000000 in
set_option maxRecDepth 100000 in
theorem rkids_any (k : Int) (w : World) : Calls Try.prog 144 #[.int .i64 k] w fun e w' => e = .returned (.int .i64 (kidsN k)) ∧ Grow w w' := by
  by_cases h : 1 ≤ k ∧ k ≤ 18
  · obtain ⟨h1, h2⟩ := h
    have : k = 1 ∨ k = 2 ∨ k = 3 ∨ k = 4 ∨ k = 5 ∨ k = 6 ∨ k = 7 ∨ k = 8 ∨ k = 9 ∨ k = 10 ∨ k = 11 ∨ k = 12 ∨ k = 13 ∨ k = 14 ∨ k = 15 ∨ k = 16 ∨ k = 17 ∨ k = 18 := by omega
    clear h1 h2
    rcases this with rfl | rfl | rfl | rfl | rfl | rfl | rfl | rfl | rfl | rfl | rfl | rfl | rfl | rfl | rfl | rfl | rfl | rfl
    all_goals
      go_enter Try.func144, Try.ntmps144
      go_wp2
      go_ret
      refine ret_int ?_ (by repeat (first | (with_reducible exact Grow.refl _) | (with_reducible assumption) | (with_reducible refine Grow.set ?_ (by first | (simp; done) | (simp; omega)) _) | (with_reducible refine Grow.al ?_ _) | (with_reducible refine Grow.drew ?_) | (with_reducible refine Grow.drewN ?_ _) | (with_reducible refine Grow.trans ?_ (by assumption))))
      rfl
  · have e : kidsN k = -1 := by unfold kidsN; repeat' split
                                all_goals omega
    rw [e]; clear e
    have h' : k < 1 ∨ 18 < k := by omega
    clear h
    rcases h' with h' | h'
    · go_enter Try.func144, Try.ntmps144
      go_wp2
      go_ret
      exact ⟨rfl, (by repeat (first | (with_reducible exact Grow.refl _) | (with_reducible assumption) | (with_reducible refine Grow.set ?_ (by first | (simp; done) | (simp; omega)) _) | (with_reducible refine Grow.al ?_ _) | (with_reducible refine Grow.drew ?_) | (with_reducible refine Grow.drewN ?_ _) | (with_reducible refine Grow.trans ?_ (by assumption))))⟩
    · have hd : decide (k < 1) = false := by simp; omega
      go_enter Try.func144, Try.ntmps144
      go_wp2
      go_ret
      exact ⟨rfl, (by repeat (first | (with_reducible exact Grow.refl _) | (with_reducible assumption) | (with_reducible refine Grow.set ?_ (by first | (simp; done) | (simp; omega)) _) | (with_reducible refine Grow.al ?_ _) | (with_reducible refine Grow.drew ?_) | (with_reducible refine Grow.drewN ?_ _) | (with_reducible refine Grow.trans ?_ (by assumption))))⟩

/-- the type that two have together, and whether they have one -/
def oneT (a b : Int) : Int := if a = b ∨ b = 1 then a else if a = 1 then b else 0
def oneB (a b : Int) : Bool := decide (a = b) || decide (b = 1) || decide (a = 1)
set_option maxRecDepth 100000 in
theorem one_any (a b : Int) (w : World) : Calls Try.prog 156 #[.int .i64 a, .int .i64 b] w fun e w' => e = .returned (.tuple #[.int .i64 (oneT a b), .bool (oneB a b)]) ∧ w = w' := by
  by_cases h1 : a = b
  · have hd1 : (a == b) = true := by simpa using h1
    have e1 : oneT a b = a := by simp [oneT, h1]
    have e2 : oneB a b = true := by simp [oneB, h1]
    rw [e1, e2]; clear e1 e2 h1
    go_enter Try.func156, Try.ntmps156
    go_wp2
    exact bodyPost_ret (by simp [results, Try.results156, go_sem]) rfl ⟨rfl, rfl⟩
  · have hd1 : (a == b) = false := by simpa using h1
    by_cases h2 : b = 1
    · have hd2 : (b == 1) = true := by simpa using h2
      have e1 : oneT a b = a := by simp [oneT, h2]
      have e2 : oneB a b = true := by simp [oneB, h2]
      rw [e1, e2]; clear e1 e2 h1 h2
      go_enter Try.func156, Try.ntmps156
      go_wp2
      exact bodyPost_ret (by simp [results, Try.results156, go_sem]) rfl ⟨rfl, rfl⟩
    · have hd2 : (b == 1) = false := by simpa using h2
      by_cases h3 : a = 1
      · have hd3 : (a == 1) = true := by simpa using h3
        have e1 : oneT a b = b := by unfold oneT; rw [if_neg (by omega), if_pos h3]
        have e2 : oneB a b = true := by simp [oneB, h3]
        rw [e1, e2]; clear e1 e2 h1 h2 h3
        go_enter Try.func156, Try.ntmps156
        go_wp2
        exact bodyPost_ret (by simp [results, Try.results156, go_sem]) rfl ⟨rfl, rfl⟩
      · have hd3 : (a == 1) = false := by simpa using h3
        have e1 : oneT a b = 0 := by unfold oneT; rw [if_neg (by omega), if_neg h3]
        have e2 : oneB a b = false := by simp [oneB, h1, h2, h3]
        rw [e1, e2]; clear e1 e2 h1 h2 h3
        go_enter Try.func156, Try.ntmps156
        go_wp2
        exact bodyPost_ret (by simp [results, Try.results156, go_sem]) rfl ⟨rfl, rfl⟩

def lett (t : Int) : Int := if t = 1 then 97 else if t = 2 then 98 else if t = 3 then 105 else if t = 4 then 116 else 63
set_option maxRecDepth 100000 in
theorem letter_any (t : Int) (h1 : 0 ≤ t) (h2 : t ≤ 4) (w : World) : Calls Try.prog 110 #[.int .i64 t] w fun e w' => e = .returned (.int .u8 (lett t)) ∧ w = w' := by
  have : t = 0 ∨ t = 1 ∨ t = 2 ∨ t = 3 ∨ t = 4 := by omega
  clear h1 h2
  rcases this with rfl | rfl | rfl | rfl | rfl
  all_goals
    go_enter Try.func110, Try.ntmps110
    go_wp2
    go_ret
    exact ⟨rfl, rfl⟩

def togL (a b : Int) : Int := if a = 97 ∨ a = b then b else if b = 97 then a else 0
set_option maxRecDepth 100000 in
theorem together_any (a b : Int) (w : World) : Calls Try.prog 145 #[.int .u8 a, .int .u8 b] w fun e w' => e = .returned (.int .u8 (togL a b)) ∧ w = w' := by
  by_cases h1 : a = 97
  · have hd1 : (a == 97) = true := by simpa using h1
    have e1 : togL a b = b := by simp [togL, h1]
    rw [e1]; clear e1 h1
    go_enter Try.func145, Try.ntmps145
    go_wp2
    go_ret
    exact ⟨rfl, rfl⟩
  · have hd1 : (a == 97) = false := by simpa using h1
    by_cases h2 : a = b
    · have hd2 : (a == b) = true := by simpa using h2
      have e1 : togL a b = b := by simp [togL, h2]
      rw [e1]; clear e1 h1 h2
      go_enter Try.func145, Try.ntmps145
      go_wp2
      go_ret
      exact ⟨rfl, rfl⟩
    · have hd2 : (a == b) = false := by simpa using h2
      by_cases h3 : b = 97
      · have hd3 : (b == 97) = true := by simpa using h3
        have e1 : togL a b = a := by unfold togL; rw [if_neg (by omega), if_pos h3]
        rw [e1]; clear e1 h1 h2 h3
        go_enter Try.func145, Try.ntmps145
        go_wp2
        go_ret
        exact ⟨rfl, rfl⟩
      · have hd3 : (b == 97) = false := by simpa using h3
        have e1 : togL a b = 0 := by unfold togL; rw [if_neg (by omega), if_neg h3]
        rw [e1]; clear e1 h1 h2 h3
        go_enter Try.func145, Try.ntmps145
        go_wp2
        go_ret
        exact ⟨rfl, rfl⟩
end Go.Proofs.Ytjhcbehnopmnpaa
