/-
  Chapter 3's laws, plainly.
-/
import Derived.Test.YtjhcbehnopmnpaaEv
namespace Go.Proofs.Ytjhcbehnopmnpaa
open Go.RowKit Go.Calm
set_option linter.unusedSimpArgs false
set_option linter.unusedVariables false

theorem k_ranked (n : Int) : (rankedV n).k = 1 ∨ (rankedV n).k = 2 := by
  unfold rankedV truth
  split <;> simp
theorem k_truth (b : Bool) : (truth b).k = 2 := rfl
theorem k_eq (a b : V) : (eqV a b).k = 1 ∨ (eqV a b).k = 2 := by
  unfold eqV truth; split <;> simp
theorem k_less (a b : V) : (lessV a b).k = 1 ∨ (lessV a b).k = 2 := by
  unfold lessV truth; split <;> simp
theorem k_cmp (k : Int) (a b : V) : (comparedV k a b).k = 1 ∨ (comparedV k a b).k = 2 := by
  unfold comparedV
  repeat' split
  all_goals first | exact k_eq _ _ | exact k_less _ _ | exact k_ranked _
theorem k_intV (n : Int) : (intV n).k = 1 ∨ (intV n).k = 3 := by
  unfold intV; split <;> simp
theorem k_reckon (s : Int) (a b : V) : (reckonV s a b).k = 1 ∨ (reckonV s a b).k = 3 := by
  unfold reckonV
  repeat' split
  all_goals first | exact k_intV _ | simp
theorem k_join (a b : V) : (joinV a b).k = 1 ∨ (joinV a b).k = 4 := by
  unfold joinV; split <;> simp

/-- kinds by what they are -/
theorem kinds {k : Int} (h : 0 ≤ kidsN k) : k = 1 ∨ k = 2 ∨ k = 3 ∨ k = 4 ∨ k = 5 ∨ (6 ≤ k ∧ k ≤ 11) ∨ k = 12 ∨ k = 13 ∨ k = 14 ∨ k = 15 ∨ k = 16 ∨ k = 17 ∨ k = 18 := by
  unfold kidsN at h
  repeat' split at h
  all_goals omega

theorem op_cmp {k : Int} (h : 6 ≤ k ∧ k ≤ 11) (a b d : V) : opV k a b d = comparedV k a b := by
  unfold opV
  rw [if_neg (by omega), if_neg (by omega), if_neg (by omega), if_neg (by omega), if_neg (by omega), if_neg (by omega), if_neg (by omega), if_neg (by omega), if_neg (by omega), if_neg (by omega)]

theorem of_ty {cols : List Int} {row : List V} (hf : FitR cols row) (e : E) : ∀ {T : Int}, wt cols e T → (ofE row e).k = 1 ∨ (ofE row e).k = T := by
  induction e with
  | leaf => intro T h; exact h.elim
  | mk k v c A n cap kid ih =>
    intro T h
    simp only [wt] at h
    obtain ⟨h0, hn, ts, h3, h4, h5⟩ := h
    unfold ofE
    unfold tyK at h5
    split
    · rw [if_pos (by assumption)] at h5
      rw [bare_k]; exact .inr h5.2.symm
    · rename_i n1
      rw [if_neg n1] at h5
      split
      · rw [if_pos (by assumption)] at h5
        rw [bare_k]
        obtain ⟨c0, c1, rfl⟩ := h5
        have hl : c.toNat < row.length := by have := hf.1; omega
        rw [List.getD_eq_getElem?_getD, List.getElem?_eq_getElem hl]
        exact (hf.2 c.toNat _ (List.getElem?_eq_getElem hl)).2
      · rename_i n2
        rw [if_neg n2] at h5
        rcases kinds h0 with hk | hk | hk | hk | hk | hk | hk | hk | hk | hk | hk | hk | hk
        · contradiction
        · contradiction
        · subst hk
          have e : T = 2 := by
            rw [if_neg (by decide)] at h5
            unfold kindE at h5
            split at h5
            · split at h5 <;> simp at h5
              exact h5.symm
            · omega
          subst e; exact k_ranked _
        · subst hk
          have e : T = 2 := by
            rw [if_neg (by decide)] at h5
            unfold kindE at h5
            split at h5
            · split at h5 <;> simp at h5
              exact h5.symm
            · omega
          subst e; exact k_ranked _
        · subst hk
          have e : T = 2 := by
            rw [if_neg (by decide)] at h5
            unfold kindE at h5
            split at h5
            · split at h5 <;> simp at h5
              exact h5.symm
            · omega
          subst e; exact k_ranked _
        · rw [op_cmp hk]
          have e : T = 2 := by
            rw [if_neg (by omega)] at h5
            unfold kindE at h5
            rw [if_neg (by omega), if_pos (by omega)] at h5
            split at h5 <;> simp at h5
            exact h5.symm
          subst e; exact k_cmp _ _ _
        · subst hk
          have e : T = 3 := by
            rw [if_neg (by decide)] at h5
            unfold kindE at h5
            rw [if_neg (by decide), if_neg (by decide), if_pos (by decide)] at h5
            split at h5 <;> simp at h5
            exact h5.symm
          subst e; exact k_reckon _ _ _
        · subst hk
          have e : T = 3 := by
            rw [if_neg (by decide)] at h5
            unfold kindE at h5
            rw [if_neg (by decide), if_neg (by decide), if_pos (by decide)] at h5
            split at h5 <;> simp at h5
            exact h5.symm
          subst e; exact k_reckon _ _ _
        · subst hk
          have e : T = 3 := by
            rw [if_neg (by decide)] at h5
            unfold kindE at h5
            rw [if_neg (by decide), if_neg (by decide), if_pos (by decide)] at h5
            split at h5 <;> simp at h5
            exact h5.symm
          subst e; exact k_reckon _ _ _
        · subst hk
          have e : T = 4 := by
            rw [if_neg (by decide)] at h5
            unfold kindE at h5
            rw [if_neg (by decide), if_neg (by decide), if_neg (by decide), if_pos (by decide)] at h5
            split at h5 <;> simp at h5
            exact h5.symm
          subst e; exact k_join _ _
        · subst hk
          rw [if_pos rfl] at h5
          subst h5
          exact .inr rfl
        · subst hk
          have k17 : kidsN 17 = 3 := rfl
          have i1 := ih 1 (h4 1 (by omega))
          have i2 := ih 2 (h4 2 (by omega))
          rw [if_neg (by decide)] at h5
          unfold kindE at h5
          rw [if_neg (by decide), if_neg (by decide), if_neg (by decide), if_neg (by decide), if_pos (by decide)] at h5
          split at h5
          · rename_i hc
            simp only [Prod.mk.injEq, and_true] at h5
            simp only [oneB, Bool.and_eq_true, Bool.or_eq_true, decide_eq_true_eq] at hc
            have hc1 := hc.1
            rw [show opV 17 (ofE row (kid 0)) (ofE row (kid 1)) (ofE row (kid 2)) = (if rankV (ofE row (kid 0)) = 2 then ofE row (kid 1) else ofE row (kid 2)) from rfl]
            unfold oneT at h5
            split <;> split at h5 <;> try split at h5
            all_goals omega
          · simp at h5
        · subst hk
          have k18 : kidsN 18 = 2 := rfl
          have i0 := ih 0 (h4 0 (by omega))
          have i1 := ih 1 (h4 1 (by omega))
          rw [if_neg (by decide)] at h5
          unfold kindE at h5
          rw [if_neg (by decide), if_neg (by decide), if_neg (by decide), if_neg (by decide), if_neg (by decide)] at h5
          split at h5
          · rename_i hc
            simp only [Prod.mk.injEq, and_true] at h5
            simp only [oneB, Bool.or_eq_true, decide_eq_true_eq] at hc
            rw [show opV 18 (ofE row (kid 0)) (ofE row (kid 1)) (ofE row (kid 2)) = (if (ofE row (kid 0)).k = 1 then ofE row (kid 1) else ofE row (kid 0)) from rfl]
            unfold oneT at h5
            split <;> split at h5 <;> try split at h5
            all_goals omega
          · simp at h5

/-- does an expression speak of a column? -/
def usesB (k : Int) : E → Bool
  | .leaf => false
  | .mk kd _ c _ n _ kid => (decide (kd = 2) && decide (c = k)) || (List.range n).any (fun i => usesB k (kid i))
/-- has an expression none of is null, case, coalesce? -/
def plainB : E → Bool
  | .leaf => true
  | .mk kd _ _ _ n _ kid => decide (kd < 16) && (List.range n).all (fun i => plainB (kid i))

theorem op_one (k : Int) (h : kidsN k = 1) (a b d b' d' : V) : opV k a b d = opV k a b' d' := by
  have hk : k = 3 ∨ k = 16 := by
    unfold kidsN at h
    repeat' split at h
    all_goals omega
  rcases hk with rfl | rfl <;> rfl
theorem op_two (k : Int) (h : kidsN k = 2) (a b d d' : V) : opV k a b d = opV k a b d' := by
  have hk : k ≠ 17 := by rintro rfl; revert h; decide
  unfold opV
  simp [hk]
/-- what comes of kids that are the same is the same -/
theorem op_congr {k : Int} (h1 : 1 ≤ kidsN k) {a b d a' b' d' : V} (ha : a = a') (hb : 2 ≤ kidsN k → b = b') (hd : 3 ≤ kidsN k → d = d') : opV k a b d = opV k a' b' d' := by
  subst ha
  by_cases h2 : 2 ≤ kidsN k
  · have := hb h2; subst this
    by_cases h3 : 3 ≤ kidsN k
    · have := hd h3; subst this; rfl
    · exact op_two k (by omega) _ _ _ _
  · exact op_one k (by omega) _ _ _ _ _
theorem of_same (row : List V) (k : Nat) (x : V) (n0 : Nat) (e : E) (hr : RE n0 e) : usesB k e = false → ofE (row.set k x) e = ofE row e := by
  induction hr with
  | @mk kd v c A n cap kid h0 hn hv hc hk ih =>
    intro hu
    simp only [usesB, Bool.or_eq_false_iff] at hu
    obtain ⟨hu1, hu2⟩ := hu
    have hu3 : ∀ i, i < n → usesB k (kid i) = false := fun i hi => by
      cases h : usesB k (kid i)
      · rfl
      · rw [List.any_eq_false] at hu2
        exact absurd h (by simpa using hu2 i (List.mem_range.2 hi))
    unfold ofE
    split
    · rfl
    · split
      · rename_i hk2
        have hne : k ≠ c.toNat := by
          have := hc hk2
          simp [hk2] at hu1
          omega
        simp [List.getD_eq_getElem?_getD, List.getElem?_set, hne]
      · rename_i n1 n2
        have hz : kidsN kd ≠ 0 := fun hz => by rcases kids_zero hz with h8 | h8 <;> contradiction
        exact op_congr (by omega) (ih 0 (by omega) (hu3 0 (by omega))) (fun h => ih 1 (by omega) (hu3 1 (by omega))) (fun h => ih 2 (by omega) (hu3 2 (by omega)))

/-- not known, or the same -/
def Le (a b : V) : Prop := a.k = 1 ∨ a = b
theorem Le.refl (a : V) : Le a a := .inr rfl
theorem rank_k1 {a : V} (h : a.k = 1) : rankV a = 1 := by simp [rankV, h]
theorem alike_l {a : V} (h : a.k = 1) (b : V) : alikeB a b = false := by simp [alikeB, h]
theorem alike_r {b : V} (h : b.k = 1) (a : V) : alikeB a b = false := by
  simp only [alikeB, decide_eq_false_iff_not, h]; omega
theorem k_null {a : V} (h : a.k = 1 ∨ False) : a.k = 1 := by simpa using h
theorem le_not {a a' : V} (h : Le a a') : Le (notV a) (notV a') := by
  rcases h with h | rfl
  · left; simp [notV, rank_k1 h, rankedV]
  · exact .refl _
theorem le_and {a a' b b' : V} (ra : RV a) (ra' : RV a') (rb : RV b) (rb' : RV b') (ha : Le a a') (hb : Le b b') : Le (andV a b) (andV a' b') := by
  have r1 := rank_vals a' ra'.rb
  have r2 := rank_vals b' rb'.rb
  have r3 := rank_vals a ra.rb
  have r4 := rank_vals b rb.rb
  unfold andV
  rcases ha with ha | rfl <;> rcases hb with hb | rfl
  · left; rw [rank_k1 ha, rank_k1 hb]; rfl
  · rw [rank_k1 ha]
    rcases r4 with r4 | r4 | r4 <;> rcases r1 with r1 | r1 | r1 <;> rw [r4, r1] <;> first | (right; rfl) | (left; rfl)
  · rw [rank_k1 hb]
    rcases r3 with r3 | r3 | r3 <;> rcases r2 with r2 | r2 | r2 <;> rw [r3, r2] <;> first | (right; rfl) | (left; rfl)
  · exact .refl _
theorem le_or {a a' b b' : V} (ra : RV a) (ra' : RV a') (rb : RV b) (rb' : RV b') (ha : Le a a') (hb : Le b b') : Le (orV a b) (orV a' b') := by
  have r1 := rank_vals a' ra'.rb
  have r2 := rank_vals b' rb'.rb
  have r3 := rank_vals a ra.rb
  have r4 := rank_vals b rb.rb
  unfold orV
  rcases ha with ha | rfl <;> rcases hb with hb | rfl
  · left; rw [rank_k1 ha, rank_k1 hb]; rfl
  · rw [rank_k1 ha]
    rcases r4 with r4 | r4 | r4 <;> rcases r1 with r1 | r1 | r1 <;> rw [r4, r1] <;> first | (right; rfl) | (left; rfl)
  · rw [rank_k1 hb]
    rcases r3 with r3 | r3 | r3 <;> rcases r2 with r2 | r2 | r2 <;> rw [r3, r2] <;> first | (right; rfl) | (left; rfl)
  · exact .refl _
theorem le_eq {a a' b b' : V} (ha : Le a a') (hb : Le b b') : Le (eqV a b) (eqV a' b') := by
  rcases ha with ha | rfl
  · left; simp [eqV, alike_l ha]
  · rcases hb with hb | rfl
    · left; simp [eqV, alike_r hb]
    · exact .refl _
theorem le_less {a a' b b' : V} (ha : Le a a') (hb : Le b b') : Le (lessV a b) (lessV a' b') := by
  rcases ha with ha | rfl
  · left; simp [lessV, alike_l ha]
  · rcases hb with hb | rfl
    · left; simp [lessV, alike_r hb]
    · exact .refl _
theorem le_reckon (s : Int) {a a' b b' : V} (ha : Le a a') (hb : Le b b') : Le (reckonV s a b) (reckonV s a' b') := by
  rcases ha with ha | rfl
  · left; simp [reckonV, ha]
  · rcases hb with hb | rfl
    · left; simp [reckonV, hb]
    · exact .refl _
theorem le_join {a a' b b' : V} (ha : Le a a') (hb : Le b b') : Le (joinV a b) (joinV a' b') := by
  rcases ha with ha | rfl
  · left; simp [joinV, ha]
  · rcases hb with hb | rfl
    · left; simp [joinV, hb]
    · exact .refl _
theorem le_cmp (k : Int) {a a' b b' : V} (ha : Le a a') (hb : Le b b') : Le (comparedV k a b) (comparedV k a' b') := by
  unfold comparedV
  repeat' split
  all_goals first | exact le_eq ha hb | exact le_not (le_eq ha hb) | exact le_less ha hb | exact le_not (le_less hb ha) | exact le_less hb ha | exact le_not (le_less ha hb)
theorem of_know (row : List V) (k : Nat) (x : V) (hrow : ∀ y ∈ row, RV y) (hrow' : ∀ y ∈ row.set k x, RV y) (h1 : ∀ y, row[k]? = some y → y.k = 1) (e : E) (hr : RE row.length e) : plainB e = true → Le (ofE row e) (ofE (row.set k x) e) := by
  induction hr with
  | @mk kd v c A n cap kid h0 hn hv hc hk ih =>
    intro hu
    simp only [plainB, Bool.and_eq_true, decide_eq_true_eq, List.all_eq_true, List.mem_range] at hu
    obtain ⟨hu1, hu2⟩ := hu
    have L : ∀ i, i < n → Le (ofE row (kid i)) (ofE (row.set k x) (kid i)) := fun i hi => ih i hi (hu2 i hi)
    have R : ∀ i, i < n → RV (ofE row (kid i)) := fun i hi => rv_of row hrow _ (hk i hi)
    have R' : ∀ i, i < n → RV (ofE (row.set k x) (kid i)) := fun i hi => rv_of _ hrow' _ (by simpa using hk i hi)
    unfold ofE
    split
    · exact .refl _
    · split
      · rename_i hk2
        have := hc hk2
        have hl : c.toNat < row.length := by omega
        by_cases hne : k = c.toNat
        · left
          rw [bare_k, List.getD_eq_getElem?_getD, List.getElem?_eq_getElem hl]
          exact h1 _ (by rw [hne]; exact List.getElem?_eq_getElem hl)
        · right
          simp [List.getD_eq_getElem?_getD, List.getElem?_set, hne]
      · rename_i n1 n2
        rcases kinds h0 with hk | hk | hk | hk | hk | hk | hk | hk | hk | hk | hk | hk | hk
        · contradiction
        · contradiction
        · subst hk
          have : kidsN 3 = 1 := rfl
          exact le_not (L 0 (by omega))
        · subst hk
          have : kidsN 4 = 2 := rfl
          exact le_and (R 0 (by omega)) (R' 0 (by omega)) (R 1 (by omega)) (R' 1 (by omega)) (L 0 (by omega)) (L 1 (by omega))
        · subst hk
          have : kidsN 5 = 2 := rfl
          exact le_or (R 0 (by omega)) (R' 0 (by omega)) (R 1 (by omega)) (R' 1 (by omega)) (L 0 (by omega)) (L 1 (by omega))
        · have : kidsN kd = 2 := by
            unfold kidsN
            rw [if_neg (by omega), if_neg (by omega), if_pos (by omega)]
          rw [op_cmp hk, op_cmp hk]
          exact le_cmp _ (L 0 (by omega)) (L 1 (by omega))
        · subst hk
          have : kidsN 12 = 2 := rfl
          exact le_reckon _ (L 0 (by omega)) (L 1 (by omega))
        · subst hk
          have : kidsN 13 = 2 := rfl
          exact le_reckon _ (L 0 (by omega)) (L 1 (by omega))
        · subst hk
          have : kidsN 14 = 2 := rfl
          exact le_reckon _ (L 0 (by omega)) (L 1 (by omega))
        · subst hk
          have : kidsN 15 = 2 := rfl
          exact le_join (L 0 (by omega)) (L 1 (by omega))
        · omega
        · omega
        · omega
end Go.Proofs.Ytjhcbehnopmnpaa
