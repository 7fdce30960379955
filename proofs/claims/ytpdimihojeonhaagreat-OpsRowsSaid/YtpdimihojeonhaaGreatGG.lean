/-
  Joined texts of this claim: Ev, EvL, EvT. What each proves its own head says; no condition beside those that each theorem names.
-/
import Derived.Test.YtpdimihojeonhaaGreatGD
import Derived.Test.YtpdimihojeonhaaGreatGC
namespace Go.Proofs.YtpdimihojeonhaaGreat
open Go.RowKit Go.Calm
set_option linter.unusedSimpArgs false
set_option linter.unusedVariables false

def comparedV (k : Int) (a b : V) : V :=
  if k = 6 then eqV a b else if k = 7 then notV (eqV a b) else if k = 8 then lessV a b else if k = 9 then notV (lessV b a) else if k = 10 then lessV b a else notV (lessV a b)
def opV (k : Int) (a b d : V) : V :=
  if k = 3 then notV a
  else if k = 4 then andV a b
  else if k = 5 then orV a b
  else if k = 12 then reckonV 43 a b
  else if k = 13 then reckonV 45 a b
  else if k = 14 then reckonV 42 a b
  else if k = 15 then joinV a b
  else if k = 16 then truth (decide (a.k = 1))
  else if k = 17 then (if rankV a = 2 then b else d)
  else if k = 18 then (if a.k = 1 then b else a)
  else comparedV k a b
def ofE (row : List V) : E → V
  | .leaf => nullV'
  | .mk k v c _ _ _ kid =>
    if k = 1 then bare v
    else if k = 2 then bare (row.getD c.toNat nullV')
    else opV k (ofE row (kid 0)) (ofE row (kid 1)) (ofE row (kid 2))

inductive RE (n0 : Nat) : E → Prop
  | mk {k : Int} {v : V} {c : Int} {A : Option Addr} {n cap : Nat} {kid : Nat → E} (h0 : 0 ≤ kidsN k) (hn : (n : Int) = kidsN k) (hv : k = 1 → RV v) (hc : k = 2 → 0 ≤ c ∧ c < (n0 : Int)) (hk : ∀ i, i < n → RE n0 (kid i)) : RE n0 (.mk k v c A n cap kid)

theorem rv_null : RV nullV' := ⟨.inl rfl, fun h => by simp [nullV'] at h, fun h => by simp [nullV'] at h, fun h => by simp [nullV'] at h⟩
theorem rv_truth (b : Bool) : RV (truth b) := ⟨.inr (.inl rfl), fun _ => by cases b <;> simp [truth], fun h => by simp [truth] at h, fun h => by simp [truth] at h⟩
theorem rv_ranked (n : Int) : RV (rankedV n) := by
  unfold rankedV
  split
  · exact rv_null
  · exact rv_truth _
theorem rv_and (a b : V) : RV (andV a b) := rv_ranked _
theorem rv_or (a b : V) : RV (orV a b) := rv_ranked _
theorem rv_not (a : V) : RV (notV a) := rv_ranked _
theorem rv_eq (a b : V) : RV (eqV a b) := by
  unfold eqV; split
  · exact rv_truth _
  · exact rv_null
theorem rv_less (a b : V) : RV (lessV a b) := by
  unfold lessV; split
  · exact rv_truth _
  · exact rv_null
theorem rv_cmp (k : Int) (a b : V) : RV (comparedV k a b) := by
  unfold comparedV
  repeat' split
  all_goals first | exact rv_eq _ _ | exact rv_less _ _ | exact rv_not _
theorem rv_bare {v : V} (h : RV v) : RV (bare v) := by
  obtain ⟨h1, h2, h3, h4⟩ := h
  unfold bare
  split
  · exact rv_null
  · split
    · exact ⟨.inr (.inr (.inr rfl)), fun h => by simp at h, fun h => by simp at h, fun _ => h4 (by assumption)⟩
    · exact ⟨h1, h2, h3, fun h => by simp at h; omega⟩
theorem rv_intV (n : Int) : RV (intV n) := by
  unfold intV
  split
  · exact rv_num _ (by omega) (by omega)
  · exact rv_null
theorem rv_reckon (s : Int) (a b : V) : RV (reckonV s a b) := by
  unfold reckonV
  repeat' split
  all_goals first | exact rv_intV _ | exact rv_null
theorem rv_join (a b : V) : RV (joinV a b) := by
  unfold joinV
  split
  · rename_i h
    exact ⟨.inr (.inr (.inr rfl)), fun h => by simp at h, fun h => by simp at h, fun _ => by simp; omega⟩
  · exact rv_null
theorem rv_op (k : Int) (a b d : V) (ha : RV a) (hb : RV b) (hd : RV d) : RV (opV k a b d) := by
  unfold opV
  repeat' split
  all_goals first | assumption | exact rv_not _ | exact rv_and _ _ | exact rv_or _ _ | exact rv_reckon _ _ _ | exact rv_join _ _ | exact rv_truth _ | exact rv_cmp _ _ _
theorem rv_opn (k : Int) (a b d : V) (h1 : 1 ≤ kidsN k) (ha : RV a) (hb : 2 ≤ kidsN k → RV b) (hd : 3 ≤ kidsN k → RV d) : RV (opV k a b d) := by
  by_cases h2 : 2 ≤ kidsN k
  · by_cases h3 : 3 ≤ kidsN k
    · exact rv_op k a b d ha (hb h2) (hd h3)
    · have hk : k ≠ 17 := by rintro rfl; exact h3 (by decide)
      have : opV k a b d = opV k a b nullV' := by unfold opV; simp [hk]
      rw [this]; exact rv_op k a b _ ha (hb h2) rv_null
  · have hk : k = 3 ∨ k = 16 := by
      unfold kidsN at h1 h2
      repeat' split at h1
      all_goals first | omega | (simp_all; done) | (exfalso; revert h2; simp_all)
    rcases hk with rfl | rfl
    · exact rv_not _
    · exact rv_truth _
theorem rv_of (row : List V) (hr : ∀ x ∈ row, RV x) (e : E) : RE row.length e → RV (ofE row e) := by
  intro h
  induction h with
  | mk h0 hn hv hc hk ih =>
    unfold ofE
    split
    · exact rv_bare (hv (by assumption))
    · split
      · have := hc (by assumption)
        rename_i c _ _ _ _ _ _
        have hl : c.toNat < row.length := by omega
        rw [List.getD_eq_getElem?_getD, List.getElem?_eq_getElem hl]
        exact rv_bare (hr _ (List.getElem_mem hl))
      · rename_i k v c A n cap kid h1 h2
        have hz : kidsN k ≠ 0 := fun hz => by rcases kids_zero hz with h8 | h8 <;> contradiction
        exact rv_opn k _ _ _ (by omega) (ih 0 (by omega)) (fun h => ih 1 (by omega)) (fun h => ih 2 (by omega))

def sumK (f : Nat → Int) : Nat → Int
  | 0 => 0
  | r + 1 => sumK f r + f r
theorem sumK_shift (f : Nat → Int) : ∀ r, sumK f (r + 1) = f 0 + sumK (fun j => f (j + 1)) r
  | 0 => by simp [sumK]
  | r + 1 => by
    have := sumK_shift f r
    conv => lhs; unfold sumK
    rw [this]
    conv => rhs; arg 2; unfold sumK
    omega
theorem sumK_pos {f : Nat → Int} (h : ∀ i, 0 ≤ f i) : ∀ r, 0 ≤ sumK f r
  | 0 => by simp [sumK]
  | r + 1 => by have := sumK_pos h r; have := h r; simp [sumK]; omega
def szE : E → Int
  | .leaf => 1
  | .mk _ _ _ _ n _ kid => 1 + sumK (fun i => szE (kid i)) n
theorem szE_pos (e : E) : 1 ≤ szE e := by
  induction e with
  | leaf => simp [szE]
  | mk k v c A n cap kid ih =>
    have := sumK_pos (f := fun i => szE (kid i)) (fun i => by have := ih i; omega) n
    simp only [szE]; omega
def dOK : E → Int → Prop
  | .leaf, d => d ≤ 20
  | .mk _ _ _ _ n _ kid, d => d ≤ 20 ∧ ∀ i, i < n → dOK (kid i) (d + 1)
theorem dOK_mono (e : E) : ∀ {d d' : Int}, d' ≤ d → dOK e d → dOK e d' := by
  induction e with
  | leaf => intro d d' h h1; simp only [dOK] at h1 ⊢; omega
  | mk k v c A n cap kid ih =>
    intro d d' h h1
    simp only [dOK] at h1 ⊢
    exact ⟨by omega, fun i hi => ih i (by omega) (h1.2 i hi)⟩
def tyK (cols : List Int) (k : Int) (v : V) (c : Int) (ts : List Int) (T : Int) : Prop :=
  if k = 1 then wrongV v = 0 ∧ T = v.k
  else if k = 2 then 0 ≤ c ∧ c < (cols.length : Int) ∧ T = cols.getD c.toNat 0
  else if k = 16 then T = 2
  else kindE k ts = (T, 0)
def wt (cols : List Int) : E → Int → Prop
  | .leaf, _ => False
  | .mk k v c _ n _ kid, T => 0 ≤ kidsN k ∧ (n : Int) = kidsN k ∧ ∃ ts : List Int, ts.length = n ∧ (∀ i, i < n → wt cols (kid i) (ts.getD i 0)) ∧ tyK cols k v c ts T

theorem typKids_iff {f : Nat → Int → Int × Int × Int} {W : Nat → Int → Prop} {D : Nat → Prop} {s : Nat → Int} (hs : ∀ i, 0 ≤ s i)
    (hf : ∀ i m T M, m ≤ 200 → (f i m = (T, 0, M) ↔ W i T ∧ D i ∧ M = m + s i ∧ m + s i ≤ 200)) :
    ∀ (r i : Nat) (m : Int) (ts : List Int) (M : Int) (us : List Int), m ≤ 200 →
      (typKids f r i m ts = (0, M, us) ↔ ∃ qs : List Int, qs.length = r ∧ us = ts ++ qs ∧ (∀ j, j < r → W (i + j) (qs.getD j 0)) ∧ (∀ j, j < r → D (i + j)) ∧ M = m + sumK (fun j => s (i + j)) r ∧ m + sumK (fun j => s (i + j)) r ≤ 200)
  | 0, i, m, ts, M, us, hm => by
    simp only [typKids, sumK]
    constructor
    · rintro h
      cases h
      exact ⟨[], rfl, by simp, fun j hj => by omega, fun j hj => by omega, by omega, by omega⟩
    · rintro ⟨qs, h1, h2, _, _, h3, _⟩
      have : qs = [] := List.length_eq_zero_iff.1 h1
      subst this
      simp at h2 h3
      rw [h2, h3]
  | r + 1, i, m, ts, M, us, hm => by
    unfold typKids
    obtain ⟨T, e, M1, hq⟩ : ∃ T e M1, f i m = (T, e, M1) := ⟨_, _, _, rfl⟩
    rw [hq]
    simp only
    have hsum := sumK_shift (fun j => s (i + j)) r
    have hre : (fun j => s (i + (j + 1))) = (fun j => s (i + 1 + j)) := by funext j; congr 1; omega
    simp only [hre, Nat.add_zero] at hsum
    rw [hsum]
    have hpos : 0 ≤ sumK (fun j => s (i + 1 + j)) r := sumK_pos (fun j => hs _) r
    by_cases he : e = 0
    · subst he
      rw [if_pos rfl]
      obtain ⟨g1, g2, g3, g4⟩ := (hf i m T M1 hm).1 hq
      subst g3
      rw [typKids_iff hs hf r (i + 1) (m + s i) (ts ++ [T]) M us g4]
      constructor
      · rintro ⟨qs, h1, h2, h3, h4, h5, h6⟩
        refine ⟨T :: qs, by simp [h1], by simp [h2], ?_, ?_, by omega, by omega⟩
        · intro j hj
          cases j with
          | zero => simpa using g1
          | succ j =>
            have := h3 j (by omega)
            rw [show i + 1 + j = i + (j + 1) by omega] at this
            simpa using this
        · intro j hj
          cases j with
          | zero => simpa using g2
          | succ j =>
            have := h4 j (by omega)
            rwa [show i + 1 + j = i + (j + 1) by omega] at this
      · rintro ⟨qs, h1, h2, h3, h4, h5, h6⟩
        cases qs with
        | nil => simp at h1
        | cons q qs =>
          have hw := h3 0 (by omega)
          simp only [Nat.add_zero, List.getD_cons_zero] at hw
          have := (hf i m q (m + s i) hm).2 ⟨hw, by simpa using h4 0 (by omega), rfl, g4⟩
          rw [hq] at this
          obtain rfl : T = q := by simpa using this
          refine ⟨qs, by simpa using h1, by simp [h2], ?_, ?_, by omega, by omega⟩
          · intro j hj
            have := h3 (j + 1) (by omega)
            rw [show i + (j + 1) = i + 1 + j by omega] at this
            simpa using this
          · intro j hj
            have := h4 (j + 1) (by omega)
            rwa [show i + (j + 1) = i + 1 + j by omega] at this
    · rw [if_neg he]
      constructor
      · intro h
        simp at h
        exact absurd h.1 he
      · rintro ⟨qs, h1, h2, h3, h4, h5, h6⟩
        exfalso
        have := (hf i m (qs.getD 0 0) (m + s i) hm).2 ⟨by simpa using h3 0 (by omega), by simpa using h4 0 (by omega), rfl, by omega⟩
        rw [hq] at this
        simp at this
        exact he this.2.1

theorem typE_iff (cols : List Int) (e : E) : ∀ (deep m T M : Int), m ≤ 200 → (typE cols e deep m = (T, 0, M) ↔ wt cols e T ∧ dOK e deep ∧ M = m + szE e ∧ m + szE e ≤ 200) := by
  induction e with
  | leaf =>
    intro deep m T M hm
    unfold typE wt
    constructor
    · intro h
      split at h <;> simp at h
    · rintro ⟨h, _⟩; exact h.elim
  | mk k v c A n cap kid ih =>
    intro deep m T M hm
    have hsz := szE_pos (.mk k v c A n cap kid)
    unfold typE
    simp only [wt, dOK, szE]
    have hpos : 0 ≤ sumK (fun i => szE (kid i)) n := sumK_pos (fun i => by have := szE_pos (kid i); omega) n
    by_cases h1 : 200 < m + 1 ∨ 20 < deep
    · rw [if_pos h1]
      constructor
      · intro h; simp at h
      · rintro ⟨_, ⟨h2, _⟩, _, h3⟩; omega
    · rw [if_neg h1]
      by_cases h2 : kidsN k < 0
      · rw [if_pos h2]
        constructor
        · intro h; simp at h
        · rintro ⟨⟨h3, _⟩, _⟩; omega
      · rw [if_neg h2]
        by_cases h3 : (n : Int) ≠ kidsN k
        · rw [if_pos h3]
          constructor
          · intro h; simp at h
          · rintro ⟨⟨_, h4, _⟩, _⟩; omega
        · rw [if_neg h3]
          have key := typKids_iff (f := fun i m' => typE cols (kid i) (deep + 1) m') (W := fun i T => wt cols (kid i) T) (D := fun i => dOK (kid i) (deep + 1)) (s := fun i => szE (kid i)) (fun i => by have := szE_pos (kid i); omega)
            (fun i m T M hm => ih i (deep + 1) m T M hm) n 0 (m + 1)
          obtain ⟨e1, M1, us, hq⟩ : ∃ e1 M1 us, typKids (fun i m' => typE cols (kid i) (deep + 1) m') n 0 (m + 1) [] = (e1, M1, us) := ⟨_, _, _, rfl⟩
          rw [hq]
          simp only
          by_cases he : e1 = 0
          · subst he
            obtain ⟨qs, k1, k2, k3, k4, k5, k6⟩ := (key [] M1 us (by omega)).1 hq
            simp only [List.nil_append, Nat.zero_add] at k2 k3 k4 k5 k6
            subst k2
            rw [if_neg (by simp)]
            have tk : (if k = 1 then (v.k, wrongV v, M1) else if k = 2 then (if c < 0 ∨ (cols.length : Int) ≤ c then (0, 7, M1) else (cols.getD c.toNat 0, 0, M1)) else if k = 16 then (2, 0, M1) else ((kindE k us).1, (kindE k us).2, M1)) = (T, (0 : Int), M) ↔ tyK cols k v c us T ∧ M = M1 := by
              unfold tyK
              split
              · simp; constructor
                · rintro ⟨rfl, h, rfl⟩; exact ⟨⟨h, rfl⟩, rfl⟩
                · rintro ⟨⟨h, rfl⟩, rfl⟩; exact ⟨rfl, h, rfl⟩
              · split
                · split
                  · rename_i h5
                    constructor
                    · intro h; simp at h
                    · rintro ⟨⟨_, _, _⟩, _⟩; omega
                  · rename_i h5
                    simp
                    constructor
                    · rintro ⟨rfl, rfl⟩; exact ⟨⟨by omega, by omega, rfl⟩, rfl⟩
                    · rintro ⟨⟨_, _, rfl⟩, rfl⟩; exact ⟨rfl, rfl⟩
                · split
                  · simp; constructor
                    · rintro ⟨rfl, rfl⟩; exact ⟨rfl, rfl⟩
                    · rintro ⟨rfl, rfl⟩; exact ⟨rfl, rfl⟩
                  · obtain ⟨p, q⟩ := kindE k us
                    simp; constructor
                    · rintro ⟨rfl, rfl, rfl⟩; exact ⟨⟨rfl, rfl⟩, rfl⟩
                    · rintro ⟨⟨rfl, rfl⟩, rfl⟩; exact ⟨rfl, rfl, rfl⟩
            rw [tk]
            constructor
            · rintro ⟨h4, rfl⟩
              exact ⟨⟨by omega, by omega, us, k1, k3, h4⟩, ⟨by omega, k4⟩, by omega, by omega⟩
            · rintro ⟨⟨_, _, ts, g1, g2, g3⟩, ⟨_, g4⟩, g5, g6⟩
              have := (key [] (m + 1 + sumK (fun i => szE (kid i)) n) ts (by omega)).2 ⟨ts, g1, by simp, by simpa using g2, by simpa using g4, by simp, by simp; omega⟩
              rw [hq] at this
              obtain ⟨rfl, rfl⟩ : M1 = m + 1 + sumK (fun i => szE (kid i)) n ∧ us = ts := by simpa using this
              exact ⟨g3, by omega⟩
          · rw [if_pos he]
            constructor
            · intro h; simp at h; exact absurd h.2.1 he
            · rintro ⟨⟨_, _, ts, g1, g2, g3⟩, ⟨_, g4⟩, g5, g6⟩
              exfalso
              have := (key [] (m + 1 + sumK (fun i => szE (kid i)) n) ts (by omega)).2 ⟨ts, g1, by simp, by simpa using g2, by simpa using g4, by simp, by simp; omega⟩
              rw [hq] at this
              simp at this
              exact he this.1

theorem wt_re {cols : List Int} (e : E) : ∀ {T : Int}, wt cols e T → RE cols.length e := by
  induction e with
  | leaf => intro T h; exact h.elim
  | mk k v c A n cap kid ih =>
    intro T h
    simp only [wt] at h
    obtain ⟨h1, h2, ts, h3, h4, h5⟩ := h
    refine .mk h1 h2 (fun hk => ?_) (fun hk => ?_) (fun i hi => ih i (h4 i hi))
    · unfold tyK at h5
      rw [if_pos hk] at h5
      exact (RV.of v).1 h5.1
    · unfold tyK at h5
      rw [if_neg (by omega), if_pos hk] at h5
      exact ⟨h5.1, h5.2.1⟩

theorem typeE_iff (cols : List Int) (e : E) (T : Int) : typeE cols e = (T, 0) ↔ cols.length ≤ 16 ∧ cols.all colB = true ∧ wt cols e T ∧ dOK e 1 ∧ szE e ≤ 200 := by
  unfold typeE
  by_cases h1 : 16 < cols.length
  · rw [if_pos h1]
    constructor
    · intro h; simp at h
    · rintro ⟨h, _⟩; omega
  · rw [if_neg h1]
    cases h2 : cols.all colB
    · rw [if_pos rfl]
      constructor
      · intro h; simp at h
      · rintro ⟨_, h, _⟩; simp at h
    · rw [if_neg (by simp)]
      obtain ⟨q1, q2, q3, hq⟩ : ∃ q1 q2 q3, typE cols e 1 0 = (q1, q2, q3) := ⟨_, _, _, rfl⟩
      rw [hq]
      simp only
      by_cases h3 : q2 = 0
      · subst h3
        rw [if_neg (by simp)]
        obtain ⟨g1, g2, g3, g4⟩ := (typE_iff cols e 1 0 q1 q3 (by omega)).1 hq
        constructor
        · intro h
          obtain rfl : q1 = T := by simpa using h
          exact ⟨by omega, trivial, g1, g2, by omega⟩
        · rintro ⟨_, _, k1, _, _⟩
          have := (typE_iff cols e 1 0 T q3 (by omega)).2 ⟨k1, g2, g3, g4⟩
          rw [hq] at this
          simp at this; simp [this]
      · rw [if_pos h3]
        constructor
        · intro h; simp at h; exact absurd h.2 h3
        · rintro ⟨_, _, k1, k2, k3⟩
          exfalso
          have := (typE_iff cols e 1 0 T (szE e) (by omega)).2 ⟨k1, k2, by omega, by omega⟩
          rw [hq] at this
          simp at this
          exact h3 this.2.1
theorem typeE_err (cols : List Int) (e : E) (h : (typeE cols e).2 ≠ 0) : (typeE cols e).1 = 0 := by
  unfold typeE at h ⊢
  repeat' split
  all_goals simp_all

def fitG : List V → List Int → Int
  | [], _ => 0
  | v :: vs, ts => if wrongV v ≠ 0 then wrongV v else if v.k ≠ 1 ∧ v.k ≠ ts.headD 0 then 9 else fitG vs ts.tail
def fitsE (cols : List Int) (row : List V) : Int := if row.length ≠ cols.length then 8 else fitG row cols
def FitR (cols : List Int) (row : List V) : Prop := row.length = cols.length ∧ ∀ i, ∀ v, row[i]? = some v → RV v ∧ (v.k = 1 ∨ v.k = cols.getD i 0)
theorem fitG_iff : ∀ (row : List V) (ts : List Int), fitG row ts = 0 ↔ ∀ i v, row[i]? = some v → RV v ∧ (v.k = 1 ∨ v.k = ts.getD i 0)
  | [], ts => by simp [fitG]
  | v :: vs, ts => by
    unfold fitG
    by_cases h1 : wrongV v = 0
    · rw [if_neg (by simpa using h1)]
      by_cases h2 : v.k ≠ 1 ∧ v.k ≠ ts.headD 0
      · rw [if_pos h2]
        constructor
        · intro h; simp at h
        · intro h
          have := (h 0 v rfl).2
          cases ts <;> simp_all
      · rw [if_neg h2, fitG_iff vs ts.tail]
        constructor
        · intro h i x hx
          cases i with
          | zero =>
            simp at hx; subst hx
            refine ⟨(RV.of _).1 h1, ?_⟩
            cases ts <;> simp_all <;> omega
          | succ i =>
            have := h i x (by simpa using hx)
            cases ts <;> simpa using this
        · intro h i x hx
          have := h (i + 1) x (by simpa using hx)
          cases ts <;> simpa using this
    · rw [if_pos h1]
      constructor
      · intro h; exact absurd h h1
      · intro h; exact absurd ((RV.of _).2 (h 0 v rfl).1) h1
theorem fits_iff (cols : List Int) (row : List V) : fitsE cols row = 0 ↔ FitR cols row := by
  unfold fitsE FitR
  by_cases h : row.length = cols.length
  · rw [if_neg (by simpa using h), fitG_iff]; simp [h]
  · rw [if_pos h]; simp [h]

def evalE (cols : List Int) (row : List V) (e : E) : V × Int :=
  if (typeE cols e).2 ≠ 0 then (⟨0, 0, es⟩, (typeE cols e).2)
  else if fitsE cols row ≠ 0 then (⟨0, 0, es⟩, fitsE cols row)
  else (ofE row e, 0)
theorem FitR.rv {cols : List Int} {row : List V} (h : FitR cols row) : ∀ x ∈ row, RV x := fun x hx => by
  obtain ⟨i, hi, rfl⟩ := List.getElem_of_mem hx
  exact (h.2 i _ (List.getElem?_eq_getElem hi)).1
end Go.Proofs.YtpdimihojeonhaaGreat

namespace Go.Proofs.YtpdimihojeonhaaGreat
open Go.RowKit Go.Calm
set_option linter.unusedSimpArgs false
set_option linter.unusedVariables false

theorem k_ranked (n : Int) : (rankedV n).k = 1 ∨ (rankedV n).k = 2 := by
  unfold rankedV truth
  split <;> simp
theorem k_truth (b : Bool) : (truth b).k = 2 := rfl
theorem k_eq (a b : V) : (eqV a b).k = 1 ∨ (eqV a b).k = 2 := by
  unfold eqV truth; split <;> simp
theorem k_less (a b : V) : (lessV a b).k = 1 ∨ (lessV a b).k = 2 := by
  unfold lessV truth; split <;> simp
theorem k_cmp (k : Int) (a b : V) : (comparedV k a b).k = 1 ∨ (comparedV k a b).k = 2 := by
  unfold comparedV
  repeat' split
  all_goals first | exact k_eq _ _ | exact k_less _ _ | exact k_ranked _
theorem k_intV (n : Int) : (intV n).k = 1 ∨ (intV n).k = 3 := by
  unfold intV; split <;> simp
theorem k_reckon (s : Int) (a b : V) : (reckonV s a b).k = 1 ∨ (reckonV s a b).k = 3 := by
  unfold reckonV
  repeat' split
  all_goals first | exact k_intV _ | simp
theorem k_join (a b : V) : (joinV a b).k = 1 ∨ (joinV a b).k = 4 := by
  unfold joinV; split <;> simp

theorem kinds {k : Int} (h : 0 ≤ kidsN k) : k = 1 ∨ k = 2 ∨ k = 3 ∨ k = 4 ∨ k = 5 ∨ (6 ≤ k ∧ k ≤ 11) ∨ k = 12 ∨ k = 13 ∨ k = 14 ∨ k = 15 ∨ k = 16 ∨ k = 17 ∨ k = 18 := by
  unfold kidsN at h
  repeat' split at h
  all_goals omega

theorem op_cmp {k : Int} (h : 6 ≤ k ∧ k ≤ 11) (a b d : V) : opV k a b d = comparedV k a b := by
  unfold opV
  rw [if_neg (by omega), if_neg (by omega), if_neg (by omega), if_neg (by omega), if_neg (by omega), if_neg (by omega), if_neg (by omega), if_neg (by omega), if_neg (by omega), if_neg (by omega)]

theorem of_ty {cols : List Int} {row : List V} (hf : FitR cols row) (e : E) : ∀ {T : Int}, wt cols e T → (ofE row e).k = 1 ∨ (ofE row e).k = T := by
  induction e with
  | leaf => intro T h; exact h.elim
  | mk k v c A n cap kid ih =>
    intro T h
    simp only [wt] at h
    obtain ⟨h0, hn, ts, h3, h4, h5⟩ := h
    unfold ofE
    unfold tyK at h5
    split
    · rw [if_pos (by assumption)] at h5
      rw [bare_k]; exact .inr h5.2.symm
    · rename_i n1
      rw [if_neg n1] at h5
      split
      · rw [if_pos (by assumption)] at h5
        rw [bare_k]
        obtain ⟨c0, c1, rfl⟩ := h5
        have hl : c.toNat < row.length := by have := hf.1; omega
        rw [List.getD_eq_getElem?_getD, List.getElem?_eq_getElem hl]
        exact (hf.2 c.toNat _ (List.getElem?_eq_getElem hl)).2
      · rename_i n2
        rw [if_neg n2] at h5
        rcases kinds h0 with hk | hk | hk | hk | hk | hk | hk | hk | hk | hk | hk | hk | hk
        · contradiction
        · contradiction
        · subst hk
          have e : T = 2 := by
            rw [if_neg (by decide)] at h5
            unfold kindE at h5
            split at h5
            · split at h5 <;> simp at h5
              exact h5.symm
            · omega
          subst e; exact k_ranked _
        · subst hk
          have e : T = 2 := by
            rw [if_neg (by decide)] at h5
            unfold kindE at h5
            split at h5
            · split at h5 <;> simp at h5
              exact h5.symm
            · omega
          subst e; exact k_ranked _
        · subst hk
          have e : T = 2 := by
            rw [if_neg (by decide)] at h5
            unfold kindE at h5
            split at h5
            · split at h5 <;> simp at h5
              exact h5.symm
            · omega
          subst e; exact k_ranked _
        · rw [op_cmp hk]
          have e : T = 2 := by
            rw [if_neg (by omega)] at h5
            unfold kindE at h5
            rw [if_neg (by omega), if_pos (by omega)] at h5
            split at h5 <;> simp at h5
            exact h5.symm
          subst e; exact k_cmp _ _ _
        · subst hk
          have e : T = 3 := by
            rw [if_neg (by decide)] at h5
            unfold kindE at h5
            rw [if_neg (by decide), if_neg (by decide), if_pos (by decide)] at h5
            split at h5 <;> simp at h5
            exact h5.symm
          subst e; exact k_reckon _ _ _
        · subst hk
          have e : T = 3 := by
            rw [if_neg (by decide)] at h5
            unfold kindE at h5
            rw [if_neg (by decide), if_neg (by decide), if_pos (by decide)] at h5
            split at h5 <;> simp at h5
            exact h5.symm
          subst e; exact k_reckon _ _ _
        · subst hk
          have e : T = 3 := by
            rw [if_neg (by decide)] at h5
            unfold kindE at h5
            rw [if_neg (by decide), if_neg (by decide), if_pos (by decide)] at h5
            split at h5 <;> simp at h5
            exact h5.symm
          subst e; exact k_reckon _ _ _
        · subst hk
          have e : T = 4 := by
            rw [if_neg (by decide)] at h5
            unfold kindE at h5
            rw [if_neg (by decide), if_neg (by decide), if_neg (by decide), if_pos (by decide)] at h5
            split at h5 <;> simp at h5
            exact h5.symm
          subst e; exact k_join _ _
        · subst hk
          rw [if_pos rfl] at h5
          subst h5
          exact .inr rfl
        · subst hk
          have k17 : kidsN 17 = 3 := rfl
          have i1 := ih 1 (h4 1 (by omega))
          have i2 := ih 2 (h4 2 (by omega))
          rw [if_neg (by decide)] at h5
          unfold kindE at h5
          rw [if_neg (by decide), if_neg (by decide), if_neg (by decide), if_neg (by decide), if_pos (by decide)] at h5
          split at h5
          · rename_i hc
            simp only [Prod.mk.injEq, and_true] at h5
            simp only [oneB, Bool.and_eq_true, Bool.or_eq_true, decide_eq_true_eq] at hc
            have hc1 := hc.1
            rw [show opV 17 (ofE row (kid 0)) (ofE row (kid 1)) (ofE row (kid 2)) = (if rankV (ofE row (kid 0)) = 2 then ofE row (kid 1) else ofE row (kid 2)) from rfl]
            unfold oneT at h5
            split <;> split at h5 <;> try split at h5
            all_goals omega
          · simp at h5
        · subst hk
          have k18 : kidsN 18 = 2 := rfl
          have i0 := ih 0 (h4 0 (by omega))
          have i1 := ih 1 (h4 1 (by omega))
          rw [if_neg (by decide)] at h5
          unfold kindE at h5
          rw [if_neg (by decide), if_neg (by decide), if_neg (by decide), if_neg (by decide), if_neg (by decide)] at h5
          split at h5
          · rename_i hc
            simp only [Prod.mk.injEq, and_true] at h5
            simp only [oneB, Bool.or_eq_true, decide_eq_true_eq] at hc
            rw [show opV 18 (ofE row (kid 0)) (ofE row (kid 1)) (ofE row (kid 2)) = (if (ofE row (kid 0)).k = 1 then ofE row (kid 1) else ofE row (kid 0)) from rfl]
            unfold oneT at h5
            split <;> split at h5 <;> try split at h5
            all_goals omega
          · simp at h5

def usesB (k : Int) : E → Bool
  | .leaf => false
  | .mk kd _ c _ n _ kid => (decide (kd = 2) && decide (c = k)) || (List.range n).any (fun i => usesB k (kid i))
def plainB : E → Bool
  | .leaf => true
  | .mk kd _ _ _ n _ kid => decide (kd < 16) && (List.range n).all (fun i => plainB (kid i))

theorem op_one (k : Int) (h : kidsN k = 1) (a b d b' d' : V) : opV k a b d = opV k a b' d' := by
  have hk : k = 3 ∨ k = 16 := by
    unfold kidsN at h
    repeat' split at h
    all_goals omega
  rcases hk with rfl | rfl <;> rfl
theorem op_two (k : Int) (h : kidsN k = 2) (a b d d' : V) : opV k a b d = opV k a b d' := by
  have hk : k ≠ 17 := by rintro rfl; revert h; decide
  unfold opV
  simp [hk]
theorem op_congr {k : Int} (h1 : 1 ≤ kidsN k) {a b d a' b' d' : V} (ha : a = a') (hb : 2 ≤ kidsN k → b = b') (hd : 3 ≤ kidsN k → d = d') : opV k a b d = opV k a' b' d' := by
  subst ha
  by_cases h2 : 2 ≤ kidsN k
  · have := hb h2; subst this
    by_cases h3 : 3 ≤ kidsN k
    · have := hd h3; subst this; rfl
    · exact op_two k (by omega) _ _ _ _
  · exact op_one k (by omega) _ _ _ _ _
theorem of_same (row : List V) (k : Nat) (x : V) (n0 : Nat) (e : E) (hr : RE n0 e) : usesB k e = false → ofE (row.set k x) e = ofE row e := by
  induction hr with
  | @mk kd v c A n cap kid h0 hn hv hc hk ih =>
    intro hu
    simp only [usesB, Bool.or_eq_false_iff] at hu
    obtain ⟨hu1, hu2⟩ := hu
    have hu3 : ∀ i, i < n → usesB k (kid i) = false := fun i hi => by
      cases h : usesB k (kid i)
      · rfl
      · rw [List.any_eq_false] at hu2
        exact absurd h (by simpa using hu2 i (List.mem_range.2 hi))
    unfold ofE
    split
    · rfl
    · split
      · rename_i hk2
        have hne : k ≠ c.toNat := by
          have := hc hk2
          simp [hk2] at hu1
          omega
        simp [List.getD_eq_getElem?_getD, List.getElem?_set, hne]
      · rename_i n1 n2
        have hz : kidsN kd ≠ 0 := fun hz => by rcases kids_zero hz with h8 | h8 <;> contradiction
        exact op_congr (by omega) (ih 0 (by omega) (hu3 0 (by omega))) (fun h => ih 1 (by omega) (hu3 1 (by omega))) (fun h => ih 2 (by omega) (hu3 2 (by omega)))

def Le (a b : V) : Prop := a.k = 1 ∨ a = b
theorem Le.refl (a : V) : Le a a := .inr rfl
theorem rank_k1 {a : V} (h : a.k = 1) : rankV a = 1 := by simp [rankV, h]
theorem alike_l {a : V} (h : a.k = 1) (b : V) : alikeB a b = false := by simp [alikeB, h]
theorem alike_r {b : V} (h : b.k = 1) (a : V) : alikeB a b = false := by
  simp only [alikeB, decide_eq_false_iff_not, h]; omega
theorem k_null {a : V} (h : a.k = 1 ∨ False) : a.k = 1 := by simpa using h
theorem le_not {a a' : V} (h : Le a a') : Le (notV a) (notV a') := by
  rcases h with h | rfl
  · left; simp [notV, rank_k1 h, rankedV]
  · exact .refl _
theorem le_and {a a' b b' : V} (ra : RV a) (ra' : RV a') (rb : RV b) (rb' : RV b') (ha : Le a a') (hb : Le b b') : Le (andV a b) (andV a' b') := by
  have r1 := rank_vals a' ra'.rb
  have r2 := rank_vals b' rb'.rb
  have r3 := rank_vals a ra.rb
  have r4 := rank_vals b rb.rb
  unfold andV
  rcases ha with ha | rfl <;> rcases hb with hb | rfl
  · left; rw [rank_k1 ha, rank_k1 hb]; rfl
  · rw [rank_k1 ha]
    rcases r4 with r4 | r4 | r4 <;> rcases r1 with r1 | r1 | r1 <;> rw [r4, r1] <;> first | (right; rfl) | (left; rfl)
  · rw [rank_k1 hb]
    rcases r3 with r3 | r3 | r3 <;> rcases r2 with r2 | r2 | r2 <;> rw [r3, r2] <;> first | (right; rfl) | (left; rfl)
  · exact .refl _
theorem le_or {a a' b b' : V} (ra : RV a) (ra' : RV a') (rb : RV b) (rb' : RV b') (ha : Le a a') (hb : Le b b') : Le (orV a b) (orV a' b') := by
  have r1 := rank_vals a' ra'.rb
  have r2 := rank_vals b' rb'.rb
  have r3 := rank_vals a ra.rb
  have r4 := rank_vals b rb.rb
  unfold orV
  rcases ha with ha | rfl <;> rcases hb with hb | rfl
  · left; rw [rank_k1 ha, rank_k1 hb]; rfl
  · rw [rank_k1 ha]
    rcases r4 with r4 | r4 | r4 <;> rcases r1 with r1 | r1 | r1 <;> rw [r4, r1] <;> first | (right; rfl) | (left; rfl)
  · rw [rank_k1 hb]
    rcases r3 with r3 | r3 | r3 <;> rcases r2 with r2 | r2 | r2 <;> rw [r3, r2] <;> first | (right; rfl) | (left; rfl)
  · exact .refl _
theorem le_eq {a a' b b' : V} (ha : Le a a') (hb : Le b b') : Le (eqV a b) (eqV a' b') := by
  rcases ha with ha | rfl
  · left; simp [eqV, alike_l ha]
  · rcases hb with hb | rfl
    · left; simp [eqV, alike_r hb]
    · exact .refl _
theorem le_less {a a' b b' : V} (ha : Le a a') (hb : Le b b') : Le (lessV a b) (lessV a' b') := by
  rcases ha with ha | rfl
  · left; simp [lessV, alike_l ha]
  · rcases hb with hb | rfl
    · left; simp [lessV, alike_r hb]
    · exact .refl _
theorem le_reckon (s : Int) {a a' b b' : V} (ha : Le a a') (hb : Le b b') : Le (reckonV s a b) (reckonV s a' b') := by
  rcases ha with ha | rfl
  · left; simp [reckonV, ha]
  · rcases hb with hb | rfl
    · left; simp [reckonV, hb]
    · exact .refl _
theorem le_join {a a' b b' : V} (ha : Le a a') (hb : Le b b') : Le (joinV a b) (joinV a' b') := by
  rcases ha with ha | rfl
  · left; simp [joinV, ha]
  · rcases hb with hb | rfl
    · left; simp [joinV, hb]
    · exact .refl _
theorem le_cmp (k : Int) {a a' b b' : V} (ha : Le a a') (hb : Le b b') : Le (comparedV k a b) (comparedV k a' b') := by
  unfold comparedV
  repeat' split
  all_goals first | exact le_eq ha hb | exact le_not (le_eq ha hb) | exact le_less ha hb | exact le_not (le_less hb ha) | exact le_less hb ha | exact le_not (le_less ha hb)
theorem of_know (row : List V) (k : Nat) (x : V) (hrow : ∀ y ∈ row, RV y) (hrow' : ∀ y ∈ row.set k x, RV y) (h1 : ∀ y, row[k]? = some y → y.k = 1) (e : E) (hr : RE row.length e) : plainB e = true → Le (ofE row e) (ofE (row.set k x) e) := by
  induction hr with
  | @mk kd v c A n cap kid h0 hn hv hc hk ih =>
    intro hu
    simp only [plainB, Bool.and_eq_true, decide_eq_true_eq, List.all_eq_true, List.mem_range] at hu
    obtain ⟨hu1, hu2⟩ := hu
    have L : ∀ i, i < n → Le (ofE row (kid i)) (ofE (row.set k x) (kid i)) := fun i hi => ih i hi (hu2 i hi)
    have R : ∀ i, i < n → RV (ofE row (kid i)) := fun i hi => rv_of row hrow _ (hk i hi)
    have R' : ∀ i, i < n → RV (ofE (row.set k x) (kid i)) := fun i hi => rv_of _ hrow' _ (by simpa using hk i hi)
    unfold ofE
    split
    · exact .refl _
    · split
      · rename_i hk2
        have := hc hk2
        have hl : c.toNat < row.length := by omega
        by_cases hne : k = c.toNat
        · left
          rw [bare_k, List.getD_eq_getElem?_getD, List.getElem?_eq_getElem hl]
          exact h1 _ (by rw [hne]; exact List.getElem?_eq_getElem hl)
        · right
          simp [List.getD_eq_getElem?_getD, List.getElem?_set, hne]
      · rename_i n1 n2
        rcases kinds h0 with hk | hk | hk | hk | hk | hk | hk | hk | hk | hk | hk | hk | hk
        · contradiction
        · contradiction
        · subst hk
          have : kidsN 3 = 1 := rfl
          exact le_not (L 0 (by omega))
        · subst hk
          have : kidsN 4 = 2 := rfl
          exact le_and (R 0 (by omega)) (R' 0 (by omega)) (R 1 (by omega)) (R' 1 (by omega)) (L 0 (by omega)) (L 1 (by omega))
        · subst hk
          have : kidsN 5 = 2 := rfl
          exact le_or (R 0 (by omega)) (R' 0 (by omega)) (R 1 (by omega)) (R' 1 (by omega)) (L 0 (by omega)) (L 1 (by omega))
        · have : kidsN kd = 2 := by
            unfold kidsN
            rw [if_neg (by omega), if_neg (by omega), if_pos (by omega)]
          rw [op_cmp hk, op_cmp hk]
          exact le_cmp _ (L 0 (by omega)) (L 1 (by omega))
        · subst hk
          have : kidsN 12 = 2 := rfl
          exact le_reckon _ (L 0 (by omega)) (L 1 (by omega))
        · subst hk
          have : kidsN 13 = 2 := rfl
          exact le_reckon _ (L 0 (by omega)) (L 1 (by omega))
        · subst hk
          have : kidsN 14 = 2 := rfl
          exact le_reckon _ (L 0 (by omega)) (L 1 (by omega))
        · subst hk
          have : kidsN 15 = 2 := rfl
          exact le_join (L 0 (by omega)) (L 1 (by omega))
        · omega
        · omega
        · omega
end Go.Proofs.YtpdimihojeonhaaGreat

namespace Go.Proofs.YtpdimihojeonhaaGreat
open Go.RowKit Go.Calm
set_option linter.unusedSimpArgs false
set_option linter.unusedVariables false

def zV : V := ⟨0, 0, es⟩
def oneK (k : Int) (a : E) (A : Option Addr) : E := .mk k zV 0 A 1 1 (fun _ => a)
def twoK (k : Int) (a b : E) (A : Option Addr) : E := .mk k zV 0 A 2 2 (fun i => if i = 0 then a else b)
def threeK (k : Int) (a b c : E) (A : Option Addr) : E := .mk k zV 0 A 3 3 (fun i => if i = 0 then a else if i = 1 then b else c)

theorem sz_one (k : Int) (a : E) (A : Option Addr) : szE (oneK k a A) = 1 + szE a := by simp [oneK, szE, sumK]
theorem sz_two (k : Int) (a b : E) (A : Option Addr) : szE (twoK k a b A) = 1 + (szE a + szE b) := by simp [twoK, szE, sumK]
theorem sz_three (k : Int) (a b c : E) (A : Option Addr) : szE (threeK k a b c A) = 1 + (szE a + szE b + szE c) := by simp [threeK, szE, sumK]
theorem d_one (k : Int) (a : E) (A : Option Addr) (d : Int) : dOK (oneK k a A) d ↔ d ≤ 20 ∧ dOK a (d + 1) := by
  simp only [oneK, dOK]
  constructor
  · rintro ⟨h1, h2⟩; exact ⟨h1, h2 0 (by omega)⟩
  · rintro ⟨h1, h2⟩; exact ⟨h1, fun i hi => h2⟩
theorem d_two (k : Int) (a b : E) (A : Option Addr) (d : Int) : dOK (twoK k a b A) d ↔ d ≤ 20 ∧ dOK a (d + 1) ∧ dOK b (d + 1) := by
  simp only [twoK, dOK]
  constructor
  · rintro ⟨h1, h2⟩; exact ⟨h1, by simpa using h2 0 (by omega), by simpa using h2 1 (by omega)⟩
  · rintro ⟨h1, h2, h3⟩
    refine ⟨h1, fun i hi => ?_⟩
    by_cases h : i = 0
    · simpa [h] using h2
    · simpa [h] using h3
theorem d_three (k : Int) (a b c : E) (A : Option Addr) (d : Int) : dOK (threeK k a b c A) d ↔ d ≤ 20 ∧ dOK a (d + 1) ∧ dOK b (d + 1) ∧ dOK c (d + 1) := by
  simp only [threeK, dOK]
  constructor
  · rintro ⟨h1, h2⟩; exact ⟨h1, by simpa using h2 0 (by omega), by simpa using h2 1 (by omega), by simpa using h2 2 (by omega)⟩
  · rintro ⟨h1, h2, h3, h4⟩
    refine ⟨h1, fun i hi => ?_⟩
    by_cases h : i = 0
    · simpa [h] using h2
    · by_cases h' : i = 1
      · simpa [h'] using h3
      · simpa [h, h'] using h4
theorem ty_ne {cols : List Int} {k : Int} {v : V} {c : Int} {ts : List Int} {T : Int} (h1 : 1 ≤ kidsN k) (h16 : k ≠ 16) : tyK cols k v c ts T ↔ kindE k ts = (T, 0) := by
  have n1 : k ≠ 1 := by rintro rfl; revert h1; decide
  have n2 : k ≠ 2 := by rintro rfl; revert h1; decide
  simp [tyK, n1, n2, h16]
theorem wt_one {cols : List Int} {k : Int} {a : E} {A : Option Addr} {T : Int} (h : kidsN k = 1) (h16 : k ≠ 16) : wt cols (oneK k a A) T ↔ ∃ t, wt cols a t ∧ kindE k [t] = (T, 0) := by
  simp only [oneK, wt]
  rw [h]
  constructor
  · rintro ⟨_, _, ts, h1, h2, h3⟩
    rw [ty_ne (by omega) h16] at h3
    match ts, h1 with
    | [t], _ => exact ⟨t, by simpa using h2 0 (by omega), h3⟩
  · rintro ⟨t, h1, h2⟩
    refine ⟨by omega, by omega, [t], rfl, fun i hi => ?_, (ty_ne (by omega) h16).2 h2⟩
    obtain rfl : i = 0 := by omega
    simpa using h1
theorem wt_null {cols : List Int} {a : E} {A : Option Addr} {T : Int} : wt cols (oneK 16 a A) T ↔ (∃ t, wt cols a t) ∧ T = 2 := by
  have h : kidsN 16 = 1 := rfl
  simp only [oneK, wt]
  rw [h]
  constructor
  · rintro ⟨_, _, ts, h1, h2, h3⟩
    exact ⟨⟨_, h2 0 (by omega)⟩, by simpa [tyK] using h3⟩
  · rintro ⟨⟨t, h1⟩, h2⟩
    refine ⟨by omega, by omega, [t], rfl, fun i hi => ?_, by simpa [tyK] using h2⟩
    obtain rfl : i = 0 := by omega
    simpa using h1
theorem wt_two {cols : List Int} {k : Int} {a b : E} {A : Option Addr} {T : Int} (h : kidsN k = 2) : wt cols (twoK k a b A) T ↔ ∃ t u, wt cols a t ∧ wt cols b u ∧ kindE k [t, u] = (T, 0) := by
  have h16 : k ≠ 16 := by rintro rfl; revert h; decide
  simp only [twoK, wt]
  rw [h]
  constructor
  · rintro ⟨_, _, ts, h1, h2, h3⟩
    rw [ty_ne (by omega) h16] at h3
    match ts, h1 with
    | [t, u], _ => exact ⟨t, u, by simpa using h2 0 (by omega), by simpa using h2 1 (by omega), h3⟩
  · rintro ⟨t, u, h1, h2, h3⟩
    refine ⟨by omega, by omega, [t, u], rfl, fun i hi => ?_, (ty_ne (by omega) h16).2 h3⟩
    match i, hi with
    | 0, _ => simpa using h1
    | 1, _ => simpa using h2
theorem wt_three {cols : List Int} {a b c : E} {A : Option Addr} {T : Int} : wt cols (threeK 17 a b c A) T ↔ ∃ t u s, wt cols a t ∧ wt cols b u ∧ wt cols c s ∧ kindE 17 [t, u, s] = (T, 0) := by
  have h : kidsN 17 = 3 := rfl
  simp only [threeK, wt]
  rw [h]
  constructor
  · rintro ⟨_, _, ts, h1, h2, h3⟩
    rw [ty_ne (by omega) (by decide)] at h3
    match ts, h1 with
    | [t, u, s], _ => exact ⟨t, u, s, by simpa using h2 0 (by omega), by simpa using h2 1 (by omega), by simpa using h2 2 (by omega), h3⟩
  · rintro ⟨t, u, s, h1, h2, h3, h4⟩
    refine ⟨by omega, by omega, [t, u, s], rfl, fun i hi => ?_, (ty_ne (by omega) (by decide)).2 h4⟩
    match i, hi with
    | 0, _ => simpa using h1
    | 1, _ => simpa using h2
    | 2, _ => simpa using h3
theorem of_one {row : List V} {k : Int} {a : E} {A : Option Addr} (h1 : k ≠ 1) (h2 : k ≠ 2) : ofE row (oneK k a A) = opV k (ofE row a) (ofE row a) (ofE row a) := by
  simp [oneK, ofE, h1, h2]
theorem of_two {row : List V} {k : Int} {a b : E} {A : Option Addr} (h1 : k ≠ 1) (h2 : k ≠ 2) : ofE row (twoK k a b A) = opV k (ofE row a) (ofE row b) (ofE row b) := by
  simp [twoK, ofE, h1, h2]
theorem of_three {row : List V} {a b c : E} {A : Option Addr} : ofE row (threeK 17 a b c A) = opV 17 (ofE row a) (ofE row b) (ofE row c) := by
  simp [threeK, ofE]

structure Okay (cols : List Int) (e : E) (T : Int) : Prop where
  len : cols.length ≤ 16
  all : cols.all colB = true
  ty : wt cols e T
  deep : dOK e 1
  size : szE e ≤ 200
theorem okay_iff {cols : List Int} {e : E} {T : Int} : typeE cols e = (T, 0) ↔ Okay cols e T := by
  rw [typeE_iff]
  exact ⟨fun ⟨a, b, c, d, e⟩ => ⟨a, b, c, d, e⟩, fun ⟨a, b, c, d, e⟩ => ⟨a, b, c, d, e⟩⟩
theorem okay_of {cols : List Int} {e : E} (h : (typeE cols e).2 = 0) : ∃ T, Okay cols e T := ⟨(typeE cols e).1, okay_iff.1 (Prod.ext rfl h)⟩
theorem Okay.eval {cols : List Int} {e : E} {T : Int} (h : Okay cols e T) (row : List V) (hf : fitsE cols row = 0) : evalE cols row e = (ofE row e, 0) := by
  have := okay_iff.2 h
  simp [evalE, this, hf]
theorem eval_ok {cols : List Int} {row : List V} {e : E} (h : (evalE cols row e).2 = 0) : (∃ T, Okay cols e T) ∧ FitR cols row ∧ evalE cols row e = (ofE row e, 0) := by
  unfold evalE at h
  split at h
  · rename_i h1; exact absurd h h1
  · rename_i h1
    split at h
    · rename_i h2; exact absurd h h2
    · rename_i h2
      obtain ⟨T, hT⟩ := okay_of (Classical.byContradiction h1)
      have h2' : fitsE cols row = 0 := Classical.byContradiction h2
      exact ⟨⟨T, hT⟩, (fits_iff cols row).1 h2', hT.eval row h2'⟩
theorem eval_err {cols : List Int} {row : List V} {e : E} (h : (evalE cols row e).2 ≠ 0) : (evalE cols row e).1 = zV := by
  unfold evalE at h ⊢
  repeat' split
  all_goals first | rfl | (exfalso; simp_all; done)

def askE (cols : List Int) (row : List V) (e : E) : V := if (evalE cols row e).2 ≠ 0 then ⟨-1, 0, es⟩ else (evalE cols row e).1
theorem Okay.ask {cols : List Int} {e : E} {T : Int} (h : Okay cols e T) (row : List V) : askE cols row e = if fitsE cols row = 0 then ofE row e else ⟨-1, 0, es⟩ := by
  have := okay_iff.2 h
  unfold askE evalE
  rw [this]
  by_cases hf : fitsE cols row = 0 <;> simp [hf]

theorem kind_cmp {k t u : Int} (h : 6 ≤ k ∧ k ≤ 11) : kindE k [t, u] = if oneB t u then (2, 0) else (0, 9) := by
  unfold kindE
  rw [if_neg (by omega), if_pos (by omega)]
  rfl
theorem kids_cmp {k : Int} (h : 6 ≤ k ∧ k ≤ 11) : kidsN k = 2 := by
  unfold kidsN
  rw [if_neg (by omega), if_neg (by omega), if_pos (by omega)]
theorem oneB_comm (a b : Int) : oneB a b = oneB b a := by
  unfold oneB
  by_cases h1 : a = b
  · simp [h1]
  · have h2 : ¬ b = a := fun h => h1 h.symm
    simp [h1, h2]
    cases decide (b = 1) <;> simp

structure Both (cols : List Int) (x y : E) : Prop where
  len : cols.length ≤ 16
  all : cols.all colB = true
  ty : ∃ t u, wt cols x t ∧ wt cols y u ∧ oneB t u = true
  dx : dOK x 3
  dy : dOK y 3
  size : 3 + (szE x + szE y) + (szE x + szE y) ≤ 200
theorem both_of {cols : List Int} {x y : E} {A B C : Option Addr} (h : (typeE cols (twoK 6 (twoK 6 x y A) (twoK 6 x y B) C)).2 = 0) : Both cols x y := by
  obtain ⟨T, h1, h2, h3, h4, h5⟩ := okay_of h
  rw [wt_two (by rfl)] at h3
  obtain ⟨t, u, h3, _, _⟩ := h3
  rw [wt_two (by rfl)] at h3
  obtain ⟨t', u', h3, h3', h6⟩ := h3
  rw [kind_cmp (by omega)] at h6
  rw [d_two, d_two] at h4
  rw [sz_two, sz_two, sz_two] at h5
  refine ⟨h1, h2, ⟨t', u', h3, h3', ?_⟩, h4.2.1.2.1, h4.2.1.2.2, by omega⟩
  cases h7 : oneB t' u'
  · rw [h7] at h6; simp at h6
  · rfl
theorem Both.two {cols : List Int} {x y : E} (h : Both cols x y) {k : Int} (hk : 6 ≤ k ∧ k ≤ 11) (A : Option Addr) : Okay cols (twoK k x y A) 2 := by
  obtain ⟨h1, h2, ⟨t, u, h3, h4, h5⟩, h6, h7, h8⟩ := h
  have := szE_pos x
  have := szE_pos y
  refine ⟨h1, h2, (wt_two (kids_cmp hk)).2 ⟨t, u, h3, h4, by rw [kind_cmp hk, h5]; rfl⟩, (d_two _ _ _ _ _).2 ⟨by omega, dOK_mono x (by omega) h6, dOK_mono y (by omega) h7⟩, by rw [sz_two]; omega⟩
theorem Both.not {cols : List Int} {x y : E} (h : Both cols x y) {k : Int} (hk : 6 ≤ k ∧ k ≤ 11) (A B : Option Addr) : Okay cols (oneK 3 (twoK k x y A) B) 2 := by
  have h0 := h.two hk A
  obtain ⟨h1, h2, ⟨t, u, h3, h4, h5⟩, h6, h7, h8⟩ := h
  have := szE_pos x
  have := szE_pos y
  refine ⟨h1, h2, (wt_one (by rfl) (by decide)).2 ⟨2, h0.ty, rfl⟩, (d_one _ _ _ _).2 ⟨by omega, (d_two _ _ _ _ _).2 ⟨by omega, dOK_mono x (by omega) h6, dOK_mono y (by omega) h7⟩⟩, by rw [sz_one, sz_two]; omega⟩
theorem Both.comm {cols : List Int} {x y : E} (h : Both cols x y) : Both cols y x := by
  obtain ⟨h1, h2, ⟨t, u, h3, h4, h5⟩, h6, h7, h8⟩ := h
  exact ⟨h1, h2, ⟨u, t, h4, h3, by rw [oneB_comm]; exact h5⟩, h7, h6, by omega⟩
theorem Both.or {cols : List Int} {x y : E} (h : Both cols x y) {k l : Int} (hk : 6 ≤ k ∧ k ≤ 11) (hl : 6 ≤ l ∧ l ≤ 11) (A B C : Option Addr) : Okay cols (twoK 5 (twoK k x y A) (twoK l x y B) C) 2 := by
  have h0 := h.two hk A
  have h0' := h.two hl B
  obtain ⟨h1, h2, ⟨t, u, h3, h4, h5⟩, h6, h7, h8⟩ := h
  refine ⟨h1, h2, (wt_two (by rfl)).2 ⟨2, 2, h0.ty, h0'.ty, rfl⟩, (d_two _ _ _ _ _).2 ⟨by omega, (d_two _ _ _ _ _).2 ⟨by omega, dOK_mono x (by omega) h6, dOK_mono y (by omega) h7⟩, (d_two _ _ _ _ _).2 ⟨by omega, dOK_mono x (by omega) h6, dOK_mono y (by omega) h7⟩⟩, by rw [sz_two, sz_two, sz_two]; omega⟩

theorem not_not_less (a b : V) : notV (notV (lessV a b)) = lessV a b := by
  unfold lessV
  split
  · cases decide (cmpV a b < 0) <;> rfl
  · rfl
theorem alike_comm (a b : V) : alikeB a b = alikeB b a := by
  unfold alikeB
  by_cases h : a.k = b.k
  · rw [h]
  · have h' : ¬ b.k = a.k := fun e => h e.symm
    simp [h, h']
theorem cmp_swap (a b : V) (ha : RV a) (hb : RV b) : cmpV b a = - cmpV a b := by
  rw [cmp_ord a b ha hb, cmp_ord b a hb ha]; exact ordV_swap a b
theorem le_or_eq (a b : V) (ha : RV a) (hb : RV b) : notV (lessV b a) = orV (lessV a b) (eqV a b) := by
  unfold lessV eqV
  rw [alike_comm b a]
  cases alikeB a b
  · rfl
  · simp only [if_true]
    rw [cmp_swap a b ha hb]
    have hr := ordV_range a b
    rw [← cmp_ord a b ha hb] at hr
    rcases hr with h | h | h <;> rw [h] <;> rfl

theorem turned {cols : List Int} {x y : E} {A B C : Option Addr} (h : (typeE cols (twoK 6 (twoK 6 x y A) (twoK 6 x y B) C)).2 = 0) (row : List V) :
    (∀ A B C, askE cols row (oneK 3 (twoK 8 x y A) B) = askE cols row (twoK 11 x y C)) ∧
    (∀ A B C, askE cols row (oneK 3 (twoK 9 x y A) B) = askE cols row (twoK 10 x y C)) ∧
    (∀ A B C, askE cols row (oneK 3 (twoK 6 x y A) B) = askE cols row (twoK 7 x y C)) ∧
    (∀ A B, askE cols row (twoK 8 x y A) = askE cols row (twoK 10 y x B)) ∧
    (∀ A B, askE cols row (twoK 9 x y A) = askE cols row (twoK 11 y x B)) ∧
    (∀ A B C D, askE cols row (twoK 9 x y A) = askE cols row (twoK 5 (twoK 8 x y B) (twoK 6 x y C) D)) := by
  have hb := both_of h
  have hc := hb.comm
  have o2 : ∀ k A, 6 ≤ k ∧ k ≤ 11 → ∀ x y, ofE row (twoK k x y A) = comparedV k (ofE row x) (ofE row y) := fun k A hk x y => by
    rw [of_two (by omega) (by omega), op_cmp hk]
  have o1 : ∀ k A B, 6 ≤ k ∧ k ≤ 11 → ofE row (oneK 3 (twoK k x y A) B) = notV (comparedV k (ofE row x) (ofE row y)) := fun k A B hk => by
    rw [of_one (by omega) (by omega), o2 _ _ hk]; rfl
  refine ⟨fun A B C => ?_, fun A B C => ?_, fun A B C => ?_, fun A B => ?_, fun A B => ?_, fun A B C D => ?_⟩
  · rw [(hb.not (by omega) A B).ask, (hb.two (by omega) C).ask, o1 _ _ _ (by omega), o2 _ _ (by omega)]; rfl
  · rw [(hb.not (by omega) A B).ask, (hb.two (by omega) C).ask, o1 _ _ _ (by omega), o2 _ _ (by omega)]
    have : notV (comparedV 9 (ofE row x) (ofE row y)) = comparedV 10 (ofE row x) (ofE row y) := not_not_less _ _
    rw [this]
  · rw [(hb.not (by omega) A B).ask, (hb.two (by omega) C).ask, o1 _ _ _ (by omega), o2 _ _ (by omega)]; rfl
  · rw [(hb.two (by omega) A).ask, (hc.two (by omega) B).ask, o2 _ _ (by omega), o2 _ _ (by omega)]; rfl
  · rw [(hb.two (by omega) A).ask, (hc.two (by omega) B).ask, o2 _ _ (by omega), o2 _ _ (by omega)]; rfl
  · rw [(hb.two (by omega) A).ask, (hb.or (by omega) (by omega) B C D).ask]
    by_cases hf : fitsE cols row = 0
    · rw [if_pos hf, if_pos hf, o2 9 A (by omega) x y, of_two (k := 5) (by omega) (by omega), o2 8 B (by omega) x y, o2 6 C (by omega) x y]
      have hF := (fits_iff cols row).1 hf
      obtain ⟨t, u, h3, h4, h5⟩ := hb.ty
      have rx := rv_of row hF.rv x (by rw [hF.1]; exact wt_re x h3)
      have ry := rv_of row hF.rv y (by rw [hF.1]; exact wt_re y h4)
      exact le_or_eq _ _ rx ry
    · rw [if_neg hf, if_neg hf]

theorem choose {cols : List Int} {row : List V} {c x y : E} {A B C D : Option Addr} (h1 : (evalE cols row (threeK 17 c x y A)).2 = 0) (h2 : (evalE cols row (twoK 18 x y B)).2 = 0) (h3 : (evalE cols row (threeK 17 (oneK 16 x C) y x D)).2 = 0) :
    (evalE cols row c).2 = 0 ∧ (evalE cols row x).2 = 0 ∧ (evalE cols row y).2 = 0 ∧
    (evalE cols row (threeK 17 c x y A)).1 = (if isB (evalE cols row c).1 true then (evalE cols row x).1 else (evalE cols row y).1) ∧
    (evalE cols row (twoK 18 x y B)).1 = (if (evalE cols row x).1.k = 1 then (evalE cols row y).1 else (evalE cols row x).1) ∧
    (evalE cols row (threeK 17 (oneK 16 x C) y x D)).1 = (if (evalE cols row x).1.k = 1 then (evalE cols row y).1 else (evalE cols row x).1) := by
  obtain ⟨⟨T, hT⟩, hf, e1⟩ := eval_ok h1
  obtain ⟨_, _, e2⟩ := eval_ok h2
  obtain ⟨_, _, e3⟩ := eval_ok h3
  have hf0 := (fits_iff cols row).2 hf
  obtain ⟨g1, g2, g3, g4, g5⟩ := hT
  obtain ⟨t, u, s, g6, g7, g8, _⟩ := wt_three.1 g3
  rw [d_three] at g4
  rw [sz_three] at g5
  have := szE_pos c
  have := szE_pos x
  have := szE_pos y
  have oc : Okay cols c t := ⟨g1, g2, g6, dOK_mono c (by omega) g4.2.1, by omega⟩
  have ox : Okay cols x u := ⟨g1, g2, g7, dOK_mono x (by omega) g4.2.2.1, by omega⟩
  have oy : Okay cols y s := ⟨g1, g2, g8, dOK_mono y (by omega) g4.2.2.2, by omega⟩
  rw [e1, e2, e3, oc.eval row hf0, ox.eval row hf0, oy.eval row hf0]
  simp only [true_and]
  have rc := rv_of row hf.rv c (by rw [hf.1]; exact wt_re c g6)
  refine ⟨?_, ?_, ?_⟩
  · rw [of_three]
    show (if rankV (ofE row c) = 2 then ofE row x else ofE row y) = _
    rcases rank_cases (ofE row c) rc with ⟨r1, _, r2⟩ | ⟨r1, _, r2⟩ | ⟨r1, _, r2⟩ <;> rw [r1, r2] <;> rfl
  · rw [of_two (by omega) (by omega)]; rfl
  · rw [of_three, of_one (by omega) (by omega)]
    show (if rankV (truth (decide ((ofE row x).k = 1))) = 2 then ofE row y else ofE row x) = _
    by_cases h : (ofE row x).k = 1 <;> simp [h, truth, rankV]
end Go.Proofs.YtpdimihojeonhaaGreat
