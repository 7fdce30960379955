/-
  vals.Wrong, and chapter 1's reference.
-/
import Derived.Test.YtjhcbehnopmnpaaVals2
import Derived.BigGuardPart
namespace Go.Proofs.Ytjhcbehnopmnpaa
open Go.RowKit Go.Calm
set_option linter.unusedSimpArgs false
set_option linter.unusedVariables false

theorem ret_int {k : IntKind} {a b : Int} {P : Prop} (h : a = b) (p : P) : Ending.returned (.int k a) = .returned (.int k b) ∧ P := ⟨by rw [h], p⟩
theorem ret_bool {a b : Bool} {P : Prop} (h : a = b) (p : P) : Ending.returned (.bool a) = .returned (.bool b) ∧ P := ⟨by rw [h], p⟩

def wrongV (v : V) : Int :=
  if v.k = 1 then 0
  else if v.k = 2 then (if v.n = 0 ∨ v.n = 1 then 0 else 3)
  else if v.k = 3 then (if -1000000000000000 ≤ v.n ∧ v.n ≤ 1000000000000000 then 0 else 3)
  else if v.k = 4 then (if v.s.size ≤ 60 then 0 else 4)
  else 1

theorem wrong_any (v : V) (w : World) : Calls Try.prog 41 #[v.val] w fun e w' => e = .returned (.int .i64 (wrongV v)) ∧ Grow w w' := by
  unfold V.val
  go_enter Try.func41, Try.ntmps41
  go_wp2
  all_goals
    go_ret
    refine ret_int ?_ (by repeat (first | (with_reducible exact Grow.refl _) | (with_reducible assumption) | (with_reducible refine Grow.set ?_ (by first | (simp; done) | (simp; omega)) _) | (with_reducible refine Grow.al ?_ _) | (with_reducible refine Grow.drew ?_) | (with_reducible refine Grow.drewN ?_ _) | (with_reducible refine Grow.trans ?_ (by assumption))))
    (try simp only [beq_iff_eq, beq_eq_false_iff_ne, bne_iff_ne, ne_eq, bne_eq_false_iff_eq, Bool.not_eq_true', Bool.not_eq_false', decide_eq_true_eq, decide_eq_false_iff_not] at *)
    unfold wrongV
    repeat' split
    all_goals first | rfl | omega
theorem rwrong_any (v : V) (w : World) : Calls Try.prog 42 #[v.val] w fun e w' => e = .returned (.int .i64 (wrongV v)) ∧ Grow w w' := by
  unfold V.val
  go_enter Try.func42, Try.ntmps42
  go_wp2
  all_goals
    go_ret
    refine ret_int ?_ (by repeat (first | (with_reducible exact Grow.refl _) | (with_reducible assumption) | (with_reducible refine Grow.set ?_ (by first | (simp; done) | (simp; omega)) _) | (with_reducible refine Grow.al ?_ _) | (with_reducible refine Grow.drew ?_) | (with_reducible refine Grow.drewN ?_ _) | (with_reducible refine Grow.trans ?_ (by assumption))))
    unfold wrongV
    repeat' split
    all_goals first | rfl | omega

theorem rnull_any (w : World) : Calls Try.prog 105 #[] w fun e w' => e = .returned (V.val ⟨1, 0, es⟩) ∧ Grow w w' := by
  go_enter Try.func105, Try.ntmps105
  go_wp2
  exact bodyPost_ret (by simp [results, Try.results105, go_sem]) rfl ⟨rfl, (by repeat (first | (with_reducible exact Grow.refl _) | (with_reducible assumption) | (with_reducible refine Grow.set ?_ (by first | (simp; done) | (simp; omega)) _) | (with_reducible refine Grow.al ?_ _) | (with_reducible refine Grow.drew ?_) | (with_reducible refine Grow.drewN ?_ _) | (with_reducible refine Grow.trans ?_ (by assumption))))⟩
theorem truth_any (b : Bool) (w : World) : Calls Try.prog 106 #[.bool b] w fun e w' => e = .returned (truth b).val ∧ Grow w w' := by
  cases b
  · go_enter Try.func106, Try.ntmps106
    go_wp2
    exact bodyPost_ret (by simp [results, Try.results106, go_sem, truth]) rfl ⟨rfl, (by repeat (first | (with_reducible exact Grow.refl _) | (with_reducible assumption) | (with_reducible refine Grow.set ?_ (by first | (simp; done) | (simp; omega)) _) | (with_reducible refine Grow.al ?_ _) | (with_reducible refine Grow.drew ?_) | (with_reducible refine Grow.drewN ?_ _) | (with_reducible refine Grow.trans ?_ (by assumption))))⟩
  · go_enter Try.func106, Try.ntmps106
    go_wp2
    exact bodyPost_ret (by simp [results, Try.results106, go_sem, truth]) rfl ⟨rfl, (by repeat (first | (with_reducible exact Grow.refl _) | (with_reducible assumption) | (with_reducible refine Grow.set ?_ (by first | (simp; done) | (simp; omega)) _) | (with_reducible refine Grow.al ?_ _) | (with_reducible refine Grow.drew ?_) | (with_reducible refine Grow.drewN ?_ _) | (with_reducible refine Grow.trans ?_ (by assumption))))⟩

/-- A right value. -/
structure RV (v : V) : Prop where
  kind : v.k = 1 ∨ v.k = 2 ∨ v.k = 3 ∨ v.k = 4
  bool : v.k = 2 → v.n = 0 ∨ v.n = 1
  int : v.k = 3 → -1000000000000000 ≤ v.n ∧ v.n ≤ 1000000000000000
  text : v.k = 4 → v.s.size ≤ 60
theorem RV.of (v : V) : wrongV v = 0 ↔ RV v := by
  constructor
  · intro h
    unfold wrongV at h
    constructor
    · split at h
      · omega
      · split at h
        · omega
        · split at h
          · omega
          · split at h
            · omega
            · omega
    · intro hk
      simp only [hk] at h
      simp at h
      omega
    · intro hk
      simp only [hk] at h
      simp at h
      omega
    · intro hk
      simp only [hk] at h
      simp at h
      exact h
  · rintro ⟨h1, h2, h3, h4⟩
    unfold wrongV
    repeat' split
    all_goals first | rfl | omega
theorem RV.rb {v : V} (h : RV v) : RB v := fun hk => by have := h.bool hk; omega

def isB (v : V) (b : Bool) : Bool := decide (v.k = 2) && (decide (v.n = 1) == b)
theorem is_any (v : V) (b : Bool) (w : World) : Calls Try.prog 50 #[v.val, .bool b] w fun e w' => e = .returned (.bool (isB v b)) ∧ Grow w w' := by
  unfold V.val
  cases b
  · go_enter Try.func50, Try.ntmps50
    go_wp2
    all_goals
      go_ret
      refine ret_bool ?_ (by repeat (first | (with_reducible exact Grow.refl _) | (with_reducible assumption) | (with_reducible refine Grow.set ?_ (by first | (simp; done) | (simp; omega)) _) | (with_reducible refine Grow.al ?_ _) | (with_reducible refine Grow.drew ?_) | (with_reducible refine Grow.drewN ?_ _) | (with_reducible refine Grow.trans ?_ (by assumption))))
      simp [isB, *]; try (rw [Bool.eq_iff_iff]; simp)
  · go_enter Try.func50, Try.ntmps50
    go_wp2
    all_goals
      go_ret
      refine ret_bool ?_ (by repeat (first | (with_reducible exact Grow.refl _) | (with_reducible assumption) | (with_reducible refine Grow.set ?_ (by first | (simp; done) | (simp; omega)) _) | (with_reducible refine Grow.al ?_ _) | (with_reducible refine Grow.drew ?_) | (with_reducible refine Grow.drewN ?_ _) | (with_reducible refine Grow.trans ?_ (by assumption))))
      simp [isB, *]; try (rw [Bool.eq_iff_iff]; simp)

theorem abs_any (n : Int) (h : -1000000000000000 ≤ n ∧ n ≤ 1000000000000000) (w : World) : Calls Try.prog 107 #[.int .i64 n] w fun e w' => e = .returned (.int .i64 (n.natAbs : Int)) ∧ w = w' := by
  obtain ⟨h1, h2⟩ := h
  go_enter Try.func107, Try.ntmps107
  go_wp2
  all_goals
    go_ret
    refine ret_int ?_ rfl
    omega

def ordV (a b : V) : Int :=
  if a.k < b.k then -1 else if b.k < a.k then 1 else if a.k = 1 then 0
  else if a.k = 4 then cmpS a.s b.s
  else (if a.n < b.n then -1 else if b.n < a.n then 1 else 0)
set_option maxRecDepth 100000 in
theorem order_any (a b : V) (w : World) : Calls Try.prog 44 #[a.val, b.val] w fun e w' => e = .returned (.int .i64 (ordV a b)) ∧ Grow w w' := by
  unfold V.val
  have hl := cmpS_less a.s b.s
  have he := cmpS_beq a.s b.s
  have hr := cmpS_range a.s b.s
  go_enter Try.func44, Try.ntmps44
  go_wp2
  all_goals
    go_ret
    refine ret_int ?_ (by repeat (first | (with_reducible exact Grow.refl _) | (with_reducible assumption) | (with_reducible refine Grow.set ?_ (by first | (simp; done) | (simp; omega)) _) | (with_reducible refine Grow.al ?_ _) | (with_reducible refine Grow.drew ?_) | (with_reducible refine Grow.drewN ?_ _) | (with_reducible refine Grow.trans ?_ (by assumption))))
    (try simp only [beq_iff_eq, beq_eq_false_iff_ne, bne_iff_ne, ne_eq, bne_eq_false_iff_eq, Bool.not_eq_true', Bool.not_eq_false', decide_eq_true_eq, decide_eq_false_iff_not] at *)
    unfold ordV
    repeat' split
    all_goals first | rfl | omega

theorem rbare_any (v : V) (hv : RV v) (w : World) : Calls Try.prog 43 #[v.val] w fun e w' => e = .returned (bare v).val ∧ Grow w w' := by
  obtain ⟨k, n, s⟩ := v
  have hk := hv.kind
  unfold V.val
  simp only at hk ⊢
  rcases hk with rfl | rfl | rfl | rfl
  · go_enter Try.func43, Try.ntmps43
    go_wp2
    exact bodyPost_ret (by simp [results, Try.results43, go_sem, bare]) rfl ⟨rfl, (by repeat (first | (with_reducible exact Grow.refl _) | (with_reducible assumption) | (with_reducible refine Grow.set ?_ (by first | (simp; done) | (simp; omega)) _) | (with_reducible refine Grow.al ?_ _) | (with_reducible refine Grow.drew ?_) | (with_reducible refine Grow.drewN ?_ _) | (with_reducible refine Grow.trans ?_ (by assumption))))⟩
  · go_enter Try.func43, Try.ntmps43
    go_wp2
    exact bodyPost_ret (by simp [results, Try.results43, go_sem, bare]) rfl ⟨rfl, (by repeat (first | (with_reducible exact Grow.refl _) | (with_reducible assumption) | (with_reducible refine Grow.set ?_ (by first | (simp; done) | (simp; omega)) _) | (with_reducible refine Grow.al ?_ _) | (with_reducible refine Grow.drew ?_) | (with_reducible refine Grow.drewN ?_ _) | (with_reducible refine Grow.trans ?_ (by assumption))))⟩
  · go_enter Try.func43, Try.ntmps43
    go_wp2
    exact bodyPost_ret (by simp [results, Try.results43, go_sem, bare]) rfl ⟨rfl, (by repeat (first | (with_reducible exact Grow.refl _) | (with_reducible assumption) | (with_reducible refine Grow.set ?_ (by first | (simp; done) | (simp; omega)) _) | (with_reducible refine Grow.al ?_ _) | (with_reducible refine Grow.drew ?_) | (with_reducible refine Grow.drewN ?_ _) | (with_reducible refine Grow.trans ?_ (by assumption))))⟩
  · go_enter Try.func43, Try.ntmps43
    go_wp2
    exact bodyPost_ret (by simp [results, Try.results43, go_sem, bare]) rfl ⟨rfl, (by repeat (first | (with_reducible exact Grow.refl _) | (with_reducible assumption) | (with_reducible refine Grow.set ?_ (by first | (simp; done) | (simp; omega)) _) | (with_reducible refine Grow.al ?_ _) | (with_reducible refine Grow.drew ?_) | (with_reducible refine Grow.drewN ?_ _) | (with_reducible refine Grow.trans ?_ (by assumption))))⟩

def eqV (a b : V) : V := if alikeB a b then truth (cmpV a b == 0) else ⟨1, 0, es⟩
def lessV (a b : V) : V := if alikeB a b then truth (decide (cmpV a b < 0)) else ⟨1, 0, es⟩

theorem eq_any (a b : V) (w : World) : Calls Try.prog 36 #[a.val, b.val] w fun e w' => e = .returned (eqV a b).val ∧ Grow w w' := by
  cases hal : alikeB a b
  · have e : eqV a b = ⟨1, 0, es⟩ := by simp [eqV, hal]
    rw [e]; clear e
    unfold V.val
    go_enter Try.func36, Try.ntmps36
    go_wp2_with (first | (go_at_call 104; ((with_reducible refine (alike_any a b _).mono ?_); rintro e w' ⟨rfl, hg⟩; obtain ⟨hc, hf, hz⟩ := hg.rules)) | (go_at_call 38; ((with_reducible refine (null _).mono ?_); rintro e w2' ⟨rfl, hg2⟩; replace hg := hg.trans hg2; clear hg2 hc hf hz; obtain ⟨hc, hf, hz⟩ := hg.rules)))
    exact bodyPost_ret (by simp [results, Try.results36, go_sem, hc]) rfl ⟨rfl, (by repeat (first | (with_reducible exact Grow.refl _) | (with_reducible assumption) | (with_reducible refine Grow.set ?_ (by first | (simp; done) | (simp; omega)) _) | (with_reducible refine Grow.al ?_ _) | (with_reducible refine Grow.drew ?_) | (with_reducible refine Grow.drewN ?_ _) | (with_reducible refine Grow.trans ?_ (by assumption))))⟩
  · have e : eqV a b = truth (cmpV a b == 0) := by simp [eqV, hal]
    rw [e]; clear e
    unfold V.val
    go_enter Try.func36, Try.ntmps36
    go_wp2_with (first | (go_at_call 104; ((with_reducible refine (alike_any a b _).mono ?_); rintro e w' ⟨rfl, hg⟩; obtain ⟨hc, hf, hz⟩ := hg.rules)) | (go_at_call 34; ((with_reducible refine (compare_any a b _).mono ?_); rintro e w2' ⟨rfl, hg2⟩; replace hg := hg.trans hg2; clear hg2 hc hf hz; obtain ⟨hc, hf, hz⟩ := hg.rules)) | (go_at_call 97; ((with_reducible refine (bool_any _ _).mono ?_); rintro e w2' ⟨rfl, hg2⟩; replace hg := hg.trans hg2; clear hg2 hc hf hz; obtain ⟨hc, hf, hz⟩ := hg.rules)))
    exact bodyPost_ret (by simp [results, Try.results36, go_sem, hc]) rfl ⟨rfl, (by repeat (first | (with_reducible exact Grow.refl _) | (with_reducible assumption) | (with_reducible refine Grow.set ?_ (by first | (simp; done) | (simp; omega)) _) | (with_reducible refine Grow.al ?_ _) | (with_reducible refine Grow.drew ?_) | (with_reducible refine Grow.drewN ?_ _) | (with_reducible refine Grow.trans ?_ (by assumption))))⟩
theorem less_any (a b : V) (w : World) : Calls Try.prog 37 #[a.val, b.val] w fun e w' => e = .returned (lessV a b).val ∧ Grow w w' := by
  cases hal : alikeB a b
  · have e : lessV a b = ⟨1, 0, es⟩ := by simp [lessV, hal]
    rw [e]; clear e
    unfold V.val
    go_enter Try.func37, Try.ntmps37
    go_wp2_with (first | (go_at_call 104; ((with_reducible refine (alike_any a b _).mono ?_); rintro e w' ⟨rfl, hg⟩; obtain ⟨hc, hf, hz⟩ := hg.rules)) | (go_at_call 38; ((with_reducible refine (null _).mono ?_); rintro e w2' ⟨rfl, hg2⟩; replace hg := hg.trans hg2; clear hg2 hc hf hz; obtain ⟨hc, hf, hz⟩ := hg.rules)))
    exact bodyPost_ret (by simp [results, Try.results37, go_sem, hc]) rfl ⟨rfl, (by repeat (first | (with_reducible exact Grow.refl _) | (with_reducible assumption) | (with_reducible refine Grow.set ?_ (by first | (simp; done) | (simp; omega)) _) | (with_reducible refine Grow.al ?_ _) | (with_reducible refine Grow.drew ?_) | (with_reducible refine Grow.drewN ?_ _) | (with_reducible refine Grow.trans ?_ (by assumption))))⟩
  · have e : lessV a b = truth (decide (cmpV a b < 0)) := by simp [lessV, hal]
    rw [e]; clear e
    unfold V.val
    go_enter Try.func37, Try.ntmps37
    go_wp2_with (first | (go_at_call 104; ((with_reducible refine (alike_any a b _).mono ?_); rintro e w' ⟨rfl, hg⟩; obtain ⟨hc, hf, hz⟩ := hg.rules)) | (go_at_call 34; ((with_reducible refine (compare_any a b _).mono ?_); rintro e w2' ⟨rfl, hg2⟩; replace hg := hg.trans hg2; clear hg2 hc hf hz; obtain ⟨hc, hf, hz⟩ := hg.rules)) | (go_at_call 97; ((with_reducible refine (bool_any _ _).mono ?_); rintro e w2' ⟨rfl, hg2⟩; replace hg := hg.trans hg2; clear hg2 hc hf hz; obtain ⟨hc, hf, hz⟩ := hg.rules)))
    exact bodyPost_ret (by simp [results, Try.results37, go_sem, hc]) rfl ⟨rfl, (by repeat (first | (with_reducible exact Grow.refl _) | (with_reducible assumption) | (with_reducible refine Grow.set ?_ (by first | (simp; done) | (simp; omega)) _) | (with_reducible refine Grow.al ?_ _) | (with_reducible refine Grow.drew ?_) | (with_reducible refine Grow.drewN ?_ _) | (with_reducible refine Grow.trans ?_ (by assumption))))⟩

theorem req_any (a b : V) (hab : cmpV a b = ordV a b) (w : World) : Calls Try.prog 45 #[a.val, b.val] w fun e w' => e = .returned (eqV a b).val ∧ Grow w w' := by
  by_cases h1 : a.k = b.k
  · have hd1 : (a.k != b.k) = false := by simpa using h1
    by_cases h2 : a.k = 1
    · have hd2 : (a.k == 1) = true := by simpa using h2
      have e : eqV a b = ⟨1, 0, es⟩ := by simp [eqV, alikeB, h2]
      rw [e]; clear e h1 h2 hab
      unfold V.val
      go_enter Try.func45, Try.ntmps45
      go_wp2_with (first | (go_at_call 105; ((with_reducible refine (rnull_any _).mono ?_); rintro e w' ⟨rfl, hg⟩; obtain ⟨hc, hf, hz⟩ := hg.rules)))
      exact bodyPost_ret (by simp [results, Try.results45, go_sem, hc]) rfl ⟨rfl, (by repeat (first | (with_reducible exact Grow.refl _) | (with_reducible assumption) | (with_reducible refine Grow.set ?_ (by first | (simp; done) | (simp; omega)) _) | (with_reducible refine Grow.al ?_ _) | (with_reducible refine Grow.drew ?_) | (with_reducible refine Grow.drewN ?_ _) | (with_reducible refine Grow.trans ?_ (by assumption))))⟩
    · have hd2 : (a.k == 1) = false := by simpa using h2
      have e : eqV a b = truth (ordV a b == 0) := by simp [eqV, alikeB, h1, hab]; intro h; omega
      rw [e]; clear e h1 h2 hab
      unfold V.val
      go_enter Try.func45, Try.ntmps45
      go_wp2_with (first | (go_at_call 44; ((with_reducible refine (order_any a b _).mono ?_); rintro e w' ⟨rfl, hg⟩; obtain ⟨hc, hf, hz⟩ := hg.rules)) | (go_at_call 106; ((with_reducible refine (truth_any _ _).mono ?_); rintro e w2' ⟨rfl, hg2⟩; replace hg := hg.trans hg2; clear hg2 hc hf hz; obtain ⟨hc, hf, hz⟩ := hg.rules)))
      exact bodyPost_ret (by simp [results, Try.results45, go_sem, hc]) rfl ⟨rfl, (by repeat (first | (with_reducible exact Grow.refl _) | (with_reducible assumption) | (with_reducible refine Grow.set ?_ (by first | (simp; done) | (simp; omega)) _) | (with_reducible refine Grow.al ?_ _) | (with_reducible refine Grow.drew ?_) | (with_reducible refine Grow.drewN ?_ _) | (with_reducible refine Grow.trans ?_ (by assumption))))⟩
  · have hd1 : (a.k != b.k) = true := by simpa using h1
    have e : eqV a b = ⟨1, 0, es⟩ := by simp [eqV, alikeB, h1]
    rw [e]; clear e h1 hab
    unfold V.val
    go_enter Try.func45, Try.ntmps45
    go_wp2_with (first | (go_at_call 105; ((with_reducible refine (rnull_any _).mono ?_); rintro e w' ⟨rfl, hg⟩; obtain ⟨hc, hf, hz⟩ := hg.rules)))
    exact bodyPost_ret (by simp [results, Try.results45, go_sem, hc]) rfl ⟨rfl, (by repeat (first | (with_reducible exact Grow.refl _) | (with_reducible assumption) | (with_reducible refine Grow.set ?_ (by first | (simp; done) | (simp; omega)) _) | (with_reducible refine Grow.al ?_ _) | (with_reducible refine Grow.drew ?_) | (with_reducible refine Grow.drewN ?_ _) | (with_reducible refine Grow.trans ?_ (by assumption))))⟩
theorem rless_any (a b : V) (hab : cmpV a b = ordV a b) (hr : ordV a b = -1 ∨ ordV a b = 0 ∨ ordV a b = 1) (w : World) : Calls Try.prog 46 #[a.val, b.val] w fun e w' => e = .returned (lessV a b).val ∧ Grow w w' := by
  by_cases h1 : a.k = b.k
  · have hd1 : (a.k != b.k) = false := by simpa using h1
    by_cases h2 : a.k = 1
    · have hd2 : (a.k == 1) = true := by simpa using h2
      have e : lessV a b = ⟨1, 0, es⟩ := by simp [lessV, alikeB, h2]
      rw [e]; clear e h1 h2 hab hr
      unfold V.val
      go_enter Try.func46, Try.ntmps46
      go_wp2_with (first | (go_at_call 105; ((with_reducible refine (rnull_any _).mono ?_); rintro e w' ⟨rfl, hg⟩; obtain ⟨hc, hf, hz⟩ := hg.rules)))
      exact bodyPost_ret (by simp [results, Try.results46, go_sem, hc]) rfl ⟨rfl, (by repeat (first | (with_reducible exact Grow.refl _) | (with_reducible assumption) | (with_reducible refine Grow.set ?_ (by first | (simp; done) | (simp; omega)) _) | (with_reducible refine Grow.al ?_ _) | (with_reducible refine Grow.drew ?_) | (with_reducible refine Grow.drewN ?_ _) | (with_reducible refine Grow.trans ?_ (by assumption))))⟩
    · have hd2 : (a.k == 1) = false := by simpa using h2
      have e : lessV a b = truth (ordV a b == -1) := by
        have : decide (ordV a b < 0) = (ordV a b == -1) := by rw [Bool.eq_iff_iff]; simp; omega
        simp [lessV, alikeB, h1, hab, this]; intro h; omega
      rw [e]; clear e h1 h2 hab hr
      unfold V.val
      go_enter Try.func46, Try.ntmps46
      go_wp2_with (first | (go_at_call 44; ((with_reducible refine (order_any a b _).mono ?_); rintro e w' ⟨rfl, hg⟩; obtain ⟨hc, hf, hz⟩ := hg.rules)) | (go_at_call 106; ((with_reducible refine (truth_any _ _).mono ?_); rintro e w2' ⟨rfl, hg2⟩; replace hg := hg.trans hg2; clear hg2 hc hf hz; obtain ⟨hc, hf, hz⟩ := hg.rules)))
      exact bodyPost_ret (by simp [results, Try.results46, go_sem, hc]) rfl ⟨rfl, (by repeat (first | (with_reducible exact Grow.refl _) | (with_reducible assumption) | (with_reducible refine Grow.set ?_ (by first | (simp; done) | (simp; omega)) _) | (with_reducible refine Grow.al ?_ _) | (with_reducible refine Grow.drew ?_) | (with_reducible refine Grow.drewN ?_ _) | (with_reducible refine Grow.trans ?_ (by assumption))))⟩
  · have hd1 : (a.k != b.k) = true := by simpa using h1
    have e : lessV a b = ⟨1, 0, es⟩ := by simp [lessV, alikeB, h1]
    rw [e]; clear e h1 hab hr
    unfold V.val
    go_enter Try.func46, Try.ntmps46
    go_wp2_with (first | (go_at_call 105; ((with_reducible refine (rnull_any _).mono ?_); rintro e w' ⟨rfl, hg⟩; obtain ⟨hc, hf, hz⟩ := hg.rules)))
    exact bodyPost_ret (by simp [results, Try.results46, go_sem, hc]) rfl ⟨rfl, (by repeat (first | (with_reducible exact Grow.refl _) | (with_reducible assumption) | (with_reducible refine Grow.set ?_ (by first | (simp; done) | (simp; omega)) _) | (with_reducible refine Grow.al ?_ _) | (with_reducible refine Grow.drew ?_) | (with_reducible refine Grow.drewN ?_ _) | (with_reducible refine Grow.trans ?_ (by assumption))))⟩
end Go.Proofs.Ytjhcbehnopmnpaa
