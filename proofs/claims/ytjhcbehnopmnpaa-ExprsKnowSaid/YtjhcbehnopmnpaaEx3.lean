/-
  exprs.kind.
-/
import Derived.Test.YtjhcbehnopmnpaaEx2
import Derived.BigQuiet
import Derived.Deep.QuietTactic
namespace Go.Proofs.Ytjhcbehnopmnpaa
open Go.RowKit Go.Calm
set_option linter.unusedSimpArgs false
set_option linter.unusedVariables false

/-- the type of what comes of kids of types; 9: they do not go together -/
def kindE (k : Int) (t : List Int) : Int × Int :=
  if k ≤ 5 then (if t.all (oneB · 2) then (2, 0) else (0, 9))
  else if k ≤ 11 then (if oneB (t.getD 0 0) (t.getD 1 0) then (2, 0) else (0, 9))
  else if k ≤ 14 then (if t.all (oneB · 3) then (3, 0) else (0, 9))
  else if k = 15 then (if t.all (oneB · 4) then (4, 0) else (0, 9))
  else if k = 17 then (if oneB (t.getD 1 0) (t.getD 2 0) && (t.take 1).all (oneB · 2) then (oneT (t.getD 1 0) (t.getD 2 0), 0) else (0, 9))
  else (if oneB (t.getD 0 0) (t.getD 1 0) then (oneT (t.getD 0 0) (t.getD 1 0), 0) else (0, 9))

theorem ret_two {a b a' b' : Int} {i j : IntKind} {P : Prop} (h : (a, b) = (a', b')) (p : P) : Ending.returned (.tuple #[.int i a, .int j b]) = .returned (.tuple #[.int i a', .int j b']) ∧ P := by
  cases h; exact ⟨rfl, p⟩

set_option maxRecDepth 100000 in
set_option maxHeartbeats 4000000 in
theorem kind_all (k : Int) (xs : List Int) (A : Option Addr) (c : Nat) (w : World) (hlen : xs.length ≤ 9223372036854775807) (hx : ISl w A xs) (h : k ≤ 5 ∨ (12 ≤ k ∧ k ≤ 15)) :
    Calls Try.prog 143 #[.int .i64 k, .slice A xs.length c] w fun e w' => e = .returned (.tuple #[.int .i64 (kindE k xs).1, .int .i64 (kindE k xs).2]) ∧ Grow w w' := by
  have h5 : (k ≤ 5) ∨ (¬ k ≤ 5 ∧ ¬ k ≤ 11 ∧ k ≤ 14) ∨ (¬ k ≤ 5 ∧ ¬ k ≤ 11 ∧ ¬ k ≤ 14 ∧ k = 15) := by omega
  clear h
  rcases h5 with h1 | ⟨h1, h2, h3⟩ | ⟨h1, h2, h3, rfl⟩
  · cases hr : xs.all (oneB · 2)
    · have e : kindE k xs = (0, 9) := by simp [kindE, h1, hr]
      rw [e]; clear e
      have d1 : decide (k ≤ 5) = true := by simpa using h1
      clear h1
      go_enter Try.func143, Try.ntmps143
      go_wp2_with ((go_at_call 155; ((with_reducible refine (alls_any xs _ _ _ _ hlen hx).mono ?_); rintro e w' ⟨rfl, rfl⟩)))
      exact bodyPost_ret (by simp [results, Try.results143, go_sem]) rfl ⟨rfl, (by repeat (first | (with_reducible exact Grow.refl _) | (with_reducible assumption) | (with_reducible refine Grow.set ?_ (by first | (simp; done) | (simp; omega)) _) | (with_reducible refine Grow.al ?_ _) | (with_reducible refine Grow.drew ?_) | (with_reducible refine Grow.drewN ?_ _) | (with_reducible refine Grow.trans ?_ (by assumption))))⟩
    · have e : kindE k xs = (2, 0) := by simp [kindE, h1, hr]
      rw [e]; clear e
      have d1 : decide (k ≤ 5) = true := by simpa using h1
      clear h1
      go_enter Try.func143, Try.ntmps143
      go_wp2_with ((go_at_call 155; ((with_reducible refine (alls_any xs _ _ _ _ hlen hx).mono ?_); rintro e w' ⟨rfl, rfl⟩)))
      exact bodyPost_ret (by simp [results, Try.results143, go_sem]) rfl ⟨rfl, (by repeat (first | (with_reducible exact Grow.refl _) | (with_reducible assumption) | (with_reducible refine Grow.set ?_ (by first | (simp; done) | (simp; omega)) _) | (with_reducible refine Grow.al ?_ _) | (with_reducible refine Grow.drew ?_) | (with_reducible refine Grow.drewN ?_ _) | (with_reducible refine Grow.trans ?_ (by assumption))))⟩
  · cases hr : xs.all (oneB · 3)
    · have e : kindE k xs = (0, 9) := by simp [kindE, h1, h2, h3, hr]
      rw [e]; clear e
      have d1 : decide (k ≤ 5) = false := by simpa using h1
      have d2 : decide (k ≤ 11) = false := by simpa using h2
      have d3 : decide (k ≤ 14) = true := by simpa using h3
      clear h1 h2 h3
      go_enter Try.func143, Try.ntmps143
      go_wp2_with ((go_at_call 155; ((with_reducible refine (alls_any xs _ _ _ _ hlen hx).mono ?_); rintro e w' ⟨rfl, rfl⟩)))
      exact bodyPost_ret (by simp [results, Try.results143, go_sem]) rfl ⟨rfl, (by repeat (first | (with_reducible exact Grow.refl _) | (with_reducible assumption) | (with_reducible refine Grow.set ?_ (by first | (simp; done) | (simp; omega)) _) | (with_reducible refine Grow.al ?_ _) | (with_reducible refine Grow.drew ?_) | (with_reducible refine Grow.drewN ?_ _) | (with_reducible refine Grow.trans ?_ (by assumption))))⟩
    · have e : kindE k xs = (3, 0) := by simp [kindE, h1, h2, h3, hr]
      rw [e]; clear e
      have d1 : decide (k ≤ 5) = false := by simpa using h1
      have d2 : decide (k ≤ 11) = false := by simpa using h2
      have d3 : decide (k ≤ 14) = true := by simpa using h3
      clear h1 h2 h3
      go_enter Try.func143, Try.ntmps143
      go_wp2_with ((go_at_call 155; ((with_reducible refine (alls_any xs _ _ _ _ hlen hx).mono ?_); rintro e w' ⟨rfl, rfl⟩)))
      exact bodyPost_ret (by simp [results, Try.results143, go_sem]) rfl ⟨rfl, (by repeat (first | (with_reducible exact Grow.refl _) | (with_reducible assumption) | (with_reducible refine Grow.set ?_ (by first | (simp; done) | (simp; omega)) _) | (with_reducible refine Grow.al ?_ _) | (with_reducible refine Grow.drew ?_) | (with_reducible refine Grow.drewN ?_ _) | (with_reducible refine Grow.trans ?_ (by assumption))))⟩
  · cases hr : xs.all (oneB · 4)
    · have e : kindE 15 xs = (0, 9) := by simp [kindE, hr]
      rw [e]; clear e
      clear h1 h2 h3
      go_enter Try.func143, Try.ntmps143
      go_wp2_with ((go_at_call 155; ((with_reducible refine (alls_any xs _ _ _ _ hlen hx).mono ?_); rintro e w' ⟨rfl, rfl⟩)))
      exact bodyPost_ret (by simp [results, Try.results143, go_sem]) rfl ⟨rfl, (by repeat (first | (with_reducible exact Grow.refl _) | (with_reducible assumption) | (with_reducible refine Grow.set ?_ (by first | (simp; done) | (simp; omega)) _) | (with_reducible refine Grow.al ?_ _) | (with_reducible refine Grow.drew ?_) | (with_reducible refine Grow.drewN ?_ _) | (with_reducible refine Grow.trans ?_ (by assumption))))⟩
    · have e : kindE 15 xs = (4, 0) := by simp [kindE, hr]
      rw [e]; clear e
      clear h1 h2 h3
      go_enter Try.func143, Try.ntmps143
      go_wp2_with ((go_at_call 155; ((with_reducible refine (alls_any xs _ _ _ _ hlen hx).mono ?_); rintro e w' ⟨rfl, rfl⟩)))
      exact bodyPost_ret (by simp [results, Try.results143, go_sem]) rfl ⟨rfl, (by repeat (first | (with_reducible exact Grow.refl _) | (with_reducible assumption) | (with_reducible refine Grow.set ?_ (by first | (simp; done) | (simp; omega)) _) | (with_reducible refine Grow.al ?_ _) | (with_reducible refine Grow.drew ?_) | (with_reducible refine Grow.drewN ?_ _) | (with_reducible refine Grow.trans ?_ (by assumption))))⟩
theorem one_q (a b : Int) (w : World) : Calls Try.prog 156 #[.int .i64 a, .int .i64 b] w fun e w' => e = .returned (.tuple #[.int .i64 (oneT a b), .bool (oneB a b)]) ∧ w' = w := (one_any a b w).mono fun _ _ ⟨h1, h2⟩ => ⟨h1, h2.symm⟩

theorem oneT_of (a b : Int) : oneB a b = false → oneT a b = 0 := by
  unfold oneB oneT
  intro h
  simp at h
  rw [if_neg (by omega), if_neg (by omega)]

set_option maxRecDepth 100000 in
set_option maxHeartbeats 4000000 in
theorem kind_two (k : Int) (x y : Int) (g o c : Nat) (w : World) (c0 : w.cell? ⟨g, o, none⟩ = some (.int .i64 x)) (c1 : w.cell? ⟨g, o + 1, none⟩ = some (.int .i64 y)) (h : 6 ≤ k ∧ k ≤ 11 ∨ k = 18) :
    Calls Try.prog 143 #[.int .i64 k, .slice (some ⟨g, o, none⟩) 2 c] w fun e w' => e = .returned (.tuple #[.int .i64 (kindE k [x, y]).1, .int .i64 (kindE k [x, y]).2]) ∧ Grow w w' := by
  rcases h with ⟨h1, h2⟩ | rfl
  · have d1 : decide (k ≤ 5) = false := by simp; omega
    have d2 : decide (k ≤ 11) = true := by simp; omega
    have e0 : kindE k [x, y] = if oneB x y then (2, 0) else (0, 9) := by simp [kindE, show ¬ k ≤ 5 by omega, h2]
    cases hr : oneB x y
    · have e : kindE k [x, y] = (0, 9) := by rw [e0, hr]; rfl
      rw [e]; clear e e0 h1 h2
      go_enter Try.func143, Try.ntmps143
      go_wp2
      go_quiet ((go_at_call 156; exact Calls.quiet_of_same (one_q _ _ _)))
      go_wp2
      exact bodyPost_ret (by simp [results, Try.results143, go_sem]) rfl ⟨rfl, (by repeat (first | (with_reducible exact Grow.refl _) | (with_reducible assumption) | (with_reducible refine Grow.set ?_ (by first | (simp; done) | (simp; omega)) _) | (with_reducible refine Grow.al ?_ _) | (with_reducible refine Grow.drew ?_) | (with_reducible refine Grow.drewN ?_ _) | (with_reducible refine Grow.trans ?_ (by assumption))))⟩
    · have e : kindE k [x, y] = (2, 0) := by rw [e0, hr]; rfl
      rw [e]; clear e e0 h1 h2
      go_enter Try.func143, Try.ntmps143
      go_wp2
      go_quiet ((go_at_call 156; exact Calls.quiet_of_same (one_q _ _ _)))
      go_wp2
      exact bodyPost_ret (by simp [results, Try.results143, go_sem]) rfl ⟨rfl, (by repeat (first | (with_reducible exact Grow.refl _) | (with_reducible assumption) | (with_reducible refine Grow.set ?_ (by first | (simp; done) | (simp; omega)) _) | (with_reducible refine Grow.al ?_ _) | (with_reducible refine Grow.drew ?_) | (with_reducible refine Grow.drewN ?_ _) | (with_reducible refine Grow.trans ?_ (by assumption))))⟩
  · have e0 : kindE 18 [x, y] = if oneB x y then (oneT x y, 0) else (0, 9) := by simp [kindE]
    cases hr : oneB x y
    · have e : kindE 18 [x, y] = (0, 9) := by rw [e0, hr]; rfl
      rw [e]; clear e e0
      go_enter Try.func143, Try.ntmps143
      go_wp2
      go_quiet ((go_at_call 156; exact Calls.quiet_of_same (one_q _ _ _)))
      go_wp2
      exact bodyPost_ret (by simp [results, Try.results143, go_sem]) rfl ⟨rfl, (by repeat (first | (with_reducible exact Grow.refl _) | (with_reducible assumption) | (with_reducible refine Grow.set ?_ (by first | (simp; done) | (simp; omega)) _) | (with_reducible refine Grow.al ?_ _) | (with_reducible refine Grow.drew ?_) | (with_reducible refine Grow.drewN ?_ _) | (with_reducible refine Grow.trans ?_ (by assumption))))⟩
    · have e : kindE 18 [x, y] = (oneT x y, 0) := by rw [e0, hr]; rfl
      rw [e]; clear e e0
      go_enter Try.func143, Try.ntmps143
      go_wp2
      go_quiet ((go_at_call 156; exact Calls.quiet_of_same (one_q _ _ _)))
      go_wp2
      exact bodyPost_ret (by simp [results, Try.results143, go_sem]) rfl ⟨rfl, (by repeat (first | (with_reducible exact Grow.refl _) | (with_reducible assumption) | (with_reducible refine Grow.set ?_ (by first | (simp; done) | (simp; omega)) _) | (with_reducible refine Grow.al ?_ _) | (with_reducible refine Grow.drew ?_) | (with_reducible refine Grow.drewN ?_ _) | (with_reducible refine Grow.trans ?_ (by assumption))))⟩
theorem alls_one (x want : Int) (g o c : Nat) (w : World) (c0 : w.cell? ⟨g, o, none⟩ = some (.int .i64 x)) :
    Calls Try.prog 155 #[.slice (some ⟨g, o, none⟩) 1 c, .int .i64 want] w fun e w' => e = .returned (.bool (oneB x want)) ∧ w = w' := by
  have := alls_any [x] want (some ⟨g, o, none⟩) c w (by simp) (fun i y hy => by
    match i, hy with
    | 0, hy => simp at hy; subst hy; exact ⟨g, o, rfl, c0⟩)
  simpa using this

set_option maxRecDepth 100000 in
set_option maxHeartbeats 4000000 in
theorem kind_three (x y z : Int) (g o c : Nat) (hc : 1 ≤ c) (w : World) (c0 : w.cell? ⟨g, o, none⟩ = some (.int .i64 x)) (c1 : w.cell? ⟨g, o + 1, none⟩ = some (.int .i64 y)) (c2 : w.cell? ⟨g, o + 2, none⟩ = some (.int .i64 z)) :
    Calls Try.prog 143 #[.int .i64 17, .slice (some ⟨g, o, none⟩) 3 c] w fun e w' => e = .returned (.tuple #[.int .i64 (kindE 17 [x, y, z]).1, .int .i64 (kindE 17 [x, y, z]).2]) ∧ Grow w w' := by
  have cn : ∀ n, (w.drewN n).cell? ⟨g, o, none⟩ = some (.int .i64 x) := fun _ => c0
  have e0 : kindE 17 [x, y, z] = if oneB y z && oneB x 2 then (oneT y z, 0) else (0, 9) := by simp [kindE]
  cases hr : oneB y z
  · have e : kindE 17 [x, y, z] = (0, 9) := by rw [e0, hr]; rfl
    rw [e]; clear e e0
    go_enter Try.func143, Try.ntmps143
    go_wp2
    go_quiet ((go_at_call 156; exact Calls.quiet_of_same (one_q _ _ _)))
    go_wp2
    exact bodyPost_ret (by simp [results, Try.results143, go_sem]) rfl ⟨rfl, (by repeat (first | (with_reducible exact Grow.refl _) | (with_reducible assumption) | (with_reducible refine Grow.set ?_ (by first | (simp; done) | (simp; omega)) _) | (with_reducible refine Grow.al ?_ _) | (with_reducible refine Grow.drew ?_) | (with_reducible refine Grow.drewN ?_ _) | (with_reducible refine Grow.trans ?_ (by assumption))))⟩
  · cases hs : oneB x 2
    · have e : kindE 17 [x, y, z] = (0, 9) := by rw [e0, hr, hs]; rfl
      rw [e]; clear e e0
      go_enter Try.func143, Try.ntmps143
      go_wp2
      go_quiet ((go_at_call 156; exact Calls.quiet_of_same (one_q _ _ _)))
      go_wp2_with ((go_at_call 155; ((with_reducible refine (alls_one _ _ _ _ _ _ (cn _)).mono ?_); rintro e w' ⟨rfl, rfl⟩)))
      exact bodyPost_ret (by simp [results, Try.results143, go_sem]) rfl ⟨rfl, (by repeat (first | (with_reducible exact Grow.refl _) | (with_reducible assumption) | (with_reducible refine Grow.set ?_ (by first | (simp; done) | (simp; omega)) _) | (with_reducible refine Grow.al ?_ _) | (with_reducible refine Grow.drew ?_) | (with_reducible refine Grow.drewN ?_ _) | (with_reducible refine Grow.trans ?_ (by assumption))))⟩
    · have e : kindE 17 [x, y, z] = (oneT y z, 0) := by rw [e0, hr, hs]; rfl
      rw [e]; clear e e0
      go_enter Try.func143, Try.ntmps143
      go_wp2
      go_quiet ((go_at_call 156; exact Calls.quiet_of_same (one_q _ _ _)))
      go_wp2_with ((go_at_call 155; ((with_reducible refine (alls_one _ _ _ _ _ _ (cn _)).mono ?_); rintro e w' ⟨rfl, rfl⟩)))
      exact bodyPost_ret (by simp [results, Try.results143, go_sem]) rfl ⟨rfl, (by repeat (first | (with_reducible exact Grow.refl _) | (with_reducible assumption) | (with_reducible refine Grow.set ?_ (by first | (simp; done) | (simp; omega)) _) | (with_reducible refine Grow.al ?_ _) | (with_reducible refine Grow.drew ?_) | (with_reducible refine Grow.drewN ?_ _) | (with_reducible refine Grow.trans ?_ (by assumption))))⟩
end Go.Proofs.Ytjhcbehnopmnpaa
