/-
  Plain facts on the orders of values and rows.
-/
import Derived.Test.YtjhcbehnopmnpaaRows1
namespace Go.Proofs.Ytjhcbehnopmnpaa
open Go.RowKit Go.Calm
set_option linter.unusedSimpArgs false
set_option linter.unusedVariables false

theorem cmpI_eq (x y : Int) : cmpI x y = 0 ↔ x = y := by
  unfold cmpI
  repeat' split
  all_goals omega
theorem bare_k (v : V) : (bare v).k = v.k := by
  unfold bare
  split
  · simp_all
  · split <;> simp_all
theorem cmp_ord (a b : V) (ha : RV a) (hb : RV b) : cmpV a b = ordV a b := by
  unfold cmpV ordV or3
  by_cases h1 : a.k < b.k
  · have := bare_k a
    have hb' := bare_k b
    simp [this, hb', cmpI, h1]
  · by_cases h2 : b.k < a.k
    · have := bare_k a
      have hb' := bare_k b
      simp [this, hb', cmpI, h1, h2]
    · have hk : a.k = b.k := by omega
      have hak := ha.kind
      by_cases h3 : b.k = 1
      · simp [bare, hk, h3, cmpI, cmpS_self]
      · by_cases h4 : b.k = 4
        · simp [bare, hk, h4, cmpI]
        · simp [bare, hk, h3, h4, cmpI, cmpS_self]
          intro h; exact h.symm
theorem ordV_swap (a b : V) : ordV b a = - ordV a b := by
  unfold ordV
  rcases Int.lt_trichotomy a.k b.k with h | h | h
  · rw [if_neg (by omega), if_pos h, if_pos h]; rfl
  · rw [h]
    simp only [Int.lt_irrefl, if_false]
    by_cases h1 : b.k = 1
    · simp [h1]
    · by_cases h4 : b.k = 4
      · simp [h4, cmpS_swap a.s b.s]
      · simp only [h1, h4, if_false]
        repeat' split
        all_goals omega
  · rw [if_pos h, if_neg (by omega), if_pos h]
theorem ordV_range (a b : V) : ordV a b = -1 ∨ ordV a b = 0 ∨ ordV a b = 1 := by
  unfold ordV
  have := cmpS_range a.s b.s
  repeat' split
  all_goals omega
theorem ordV_lt {a b : V} (h : a.k < b.k) : ordV a b = -1 := by unfold ordV; rw [if_pos h]
theorem ordV_gt {a b : V} (h : b.k < a.k) : ordV a b = 1 := by unfold ordV; rw [if_neg (by omega), if_pos h]
theorem ordV_same {a b : V} (h : a.k = b.k) : ordV a b = if a.k = 1 then 0 else if a.k = 4 then cmpS a.s b.s else if a.n < b.n then -1 else if b.n < a.n then 1 else 0 := by
  unfold ordV; rw [if_neg (by omega), if_neg (by omega)]
theorem ordV_trans (a b c : V) : ordV a b ≤ 0 → ordV b c ≤ 0 → ordV a c ≤ 0 := by
  intro h1 h2
  rcases Int.lt_trichotomy a.k b.k with h | h | h
  · rcases Int.lt_trichotomy b.k c.k with k | k | k
    · rw [ordV_lt (by omega)]; omega
    · rw [ordV_lt (by omega)]; omega
    · rw [ordV_gt k] at h2; omega
  · rcases Int.lt_trichotomy b.k c.k with k | k | k
    · rw [ordV_lt (by omega)]; omega
    · rw [ordV_same h] at h1
      rw [ordV_same k] at h2
      rw [ordV_same (h.trans k)]
      rw [h] at h1 ⊢
      by_cases e1 : b.k = 1
      · simp [e1]
      · by_cases e4 : b.k = 4
        · simp only [e4] at h1 h2 ⊢
          exact cmpS_trans a.s b.s c.s h1 h2
        · simp only [e1, e4, if_false] at h1 h2 ⊢
          repeat' split at h1
          all_goals repeat' split at h2
          all_goals repeat' split
          all_goals omega
    · rw [ordV_gt k] at h2; omega
  · rw [ordV_gt h] at h1; omega
theorem ordV_zero (a b : V) (ha : RV a) (hb : RV b) : ordV a b = 0 ↔ bare a = bare b := by
  have hak := ha.kind
  have hbk := hb.kind
  have he := cmpS_eq a.s b.s
  obtain ⟨ak, an, at_⟩ := a
  obtain ⟨bk, bn, bt⟩ := b
  simp only at *
  rcases hak with rfl | rfl | rfl | rfl <;> rcases hbk with rfl | rfl | rfl | rfl <;> simp [ordV, bare, he]
  all_goals
    repeat' split
    all_goals omega

theorem rowsG_range (f : V → V → Int) (hf : ∀ a b, f a b = -1 ∨ f a b = 0 ∨ f a b = 1) : ∀ xs ys : List V, rowsG f xs ys = -1 ∨ rowsG f xs ys = 0 ∨ rowsG f xs ys = 1
  | [], [] => by simp [rowsG]
  | [], _ :: _ => by simp [rowsG]
  | _ :: _, [] => by simp [rowsG]
  | a :: l, b :: m => by
    unfold rowsG
    split
    · exact rowsG_range f hf l m
    · exact hf a b
theorem rowsG_swap (f : V → V → Int) (hf : ∀ a b, f b a = - f a b) : ∀ xs ys : List V, rowsG f ys xs = - rowsG f xs ys
  | [], [] => by simp [rowsG]
  | [], _ :: _ => by simp [rowsG]
  | _ :: _, [] => by simp [rowsG]
  | a :: l, b :: m => by
    have ih := rowsG_swap f hf l m
    have h := hf a b
    unfold rowsG
    rw [h]
    by_cases h0 : f a b = 0
    · simp [h0, ih]
    · rw [if_neg (by omega), if_neg h0]
theorem rows_cmp_ord : ∀ xs ys : List V, (∀ x ∈ xs, RV x) → (∀ y ∈ ys, RV y) → rowsG cmpV xs ys = rowsG ordV xs ys
  | [], [], _, _ => rfl
  | [], _ :: _, _, _ => rfl
  | _ :: _, [], _, _ => rfl
  | a :: l, b :: m, h, k => by
    unfold rowsG
    rw [cmp_ord a b (h a (by simp)) (k b (by simp)), rows_cmp_ord l m (fun x hx => h x (by simp [hx])) (fun y hy => k y (by simp [hy]))]
theorem right_all (xs : List V) (h : xs.all rightB = true) : ∀ x ∈ xs, RV x := fun x hx => by
  have := List.all_eq_true.1 h x hx
  exact (RV.of x).1 (by simpa [rightB] using this)
end Go.Proofs.Ytjhcbehnopmnpaa
