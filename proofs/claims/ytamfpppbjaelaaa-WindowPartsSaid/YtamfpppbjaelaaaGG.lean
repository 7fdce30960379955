/-
  Joined texts of this claim: Ev, EvL, EvT. What each proves its own head says; no condition beside those that each theorem names.
-/
import Derived.Test.YtamfpppbjaelaaaGD
import Derived.Test.YtamfpppbjaelaaaGC
namespace Go.Proofs.Ytamfpppbjaelaaa
open Go.RowKit Go.Calm
set_option linter.unusedSimpArgs false
set_option linter.unusedVariables false
def comparedV (k : Int) (a b : V) : V :=
  if k = 6 then eqV a b else if k = 7 then notV (eqV a b) else if k = 8 then lessV a b else if k = 9 then notV (lessV b a) else if k = 10 then lessV b a else notV (lessV a b)
def opV (k : Int) (a b d : V) : V :=
  if k = 3 then notV a
  else if k = 4 then andV a b
  else if k = 5 then orV a b
  else if k = 12 then reckonV 43 a b
  else if k = 13 then reckonV 45 a b
  else if k = 14 then reckonV 42 a b
  else if k = 15 then joinV a b
  else if k = 16 then truth (decide (a.k = 1))
  else if k = 17 then (if rankV a = 2 then b else d)
  else if k = 18 then (if a.k = 1 then b else a)
  else comparedV k a b
def ofE (row : List V) : E → V
  | .leaf => nullV'
  | .mk k v c _ _ _ kid =>
    if k = 1 then bare v
    else if k = 2 then bare (row.getD c.toNat nullV')
    else opV k (ofE row (kid 0)) (ofE row (kid 1)) (ofE row (kid 2))

inductive RE (n0 : Nat) : E → Prop
  | mk {k : Int} {v : V} {c : Int} {A : Option Addr} {n cap : Nat} {kid : Nat → E} (h0 : 0 ≤ kidsN k) (hn : (n : Int) = kidsN k) (hv : k = 1 → RV v) (hc : k = 2 → 0 ≤ c ∧ c < (n0 : Int)) (hk : ∀ i, i < n → RE n0 (kid i)) : RE n0 (.mk k v c A n cap kid)

theorem rv_null : RV nullV' := ⟨.inl rfl, fun h => by simp [nullV'] at h, fun h => by simp [nullV'] at h, fun h => by simp [nullV'] at h⟩
theorem rv_truth (b : Bool) : RV (truth b) := ⟨.inr (.inl rfl), fun _ => by cases b <;> simp [truth], fun h => by simp [truth] at h, fun h => by simp [truth] at h⟩
theorem rv_ranked (n : Int) : RV (rankedV n) := by
  unfold rankedV
  split
  · exact rv_null
  · exact rv_truth _
theorem rv_and (a b : V) : RV (andV a b) := rv_ranked _
theorem rv_or (a b : V) : RV (orV a b) := rv_ranked _
theorem rv_not (a : V) : RV (notV a) := rv_ranked _
theorem rv_eq (a b : V) : RV (eqV a b) := by
  unfold eqV; split
  · exact rv_truth _
  · exact rv_null
theorem rv_less (a b : V) : RV (lessV a b) := by
  unfold lessV; split
  · exact rv_truth _
  · exact rv_null
theorem rv_cmp (k : Int) (a b : V) : RV (comparedV k a b) := by
  unfold comparedV
  repeat' split
  all_goals first | exact rv_eq _ _ | exact rv_less _ _ | exact rv_not _
theorem rv_bare {v : V} (h : RV v) : RV (bare v) := by
  obtain ⟨h1, h2, h3, h4⟩ := h
  unfold bare
  split
  · exact rv_null
  · split
    · exact ⟨.inr (.inr (.inr rfl)), fun h => by simp at h, fun h => by simp at h, fun _ => h4 (by assumption)⟩
    · exact ⟨h1, h2, h3, fun h => by simp at h; omega⟩
theorem rv_intV (n : Int) : RV (intV n) := by
  unfold intV
  split
  · exact rv_num _ (by omega) (by omega)
  · exact rv_null
theorem rv_reckon (s : Int) (a b : V) : RV (reckonV s a b) := by
  unfold reckonV
  repeat' split
  all_goals first | exact rv_intV _ | exact rv_null
theorem rv_join (a b : V) : RV (joinV a b) := by
  unfold joinV
  split
  · rename_i h
    exact ⟨.inr (.inr (.inr rfl)), fun h => by simp at h, fun h => by simp at h, fun _ => by simp; omega⟩
  · exact rv_null
theorem rv_op (k : Int) (a b d : V) (ha : RV a) (hb : RV b) (hd : RV d) : RV (opV k a b d) := by
  unfold opV
  repeat' split
  all_goals first | assumption | exact rv_not _ | exact rv_and _ _ | exact rv_or _ _ | exact rv_reckon _ _ _ | exact rv_join _ _ | exact rv_truth _ | exact rv_cmp _ _ _
theorem rv_opn (k : Int) (a b d : V) (h1 : 1 ≤ kidsN k) (ha : RV a) (hb : 2 ≤ kidsN k → RV b) (hd : 3 ≤ kidsN k → RV d) : RV (opV k a b d) := by
  by_cases h2 : 2 ≤ kidsN k
  · by_cases h3 : 3 ≤ kidsN k
    · exact rv_op k a b d ha (hb h2) (hd h3)
    · have hk : k ≠ 17 := by rintro rfl; exact h3 (by decide)
      have : opV k a b d = opV k a b nullV' := by unfold opV; simp [hk]
      rw [this]; exact rv_op k a b _ ha (hb h2) rv_null
  · have hk : k = 3 ∨ k = 16 := by
      unfold kidsN at h1 h2
      repeat' split at h1
      all_goals first | omega | (simp_all; done) | (exfalso; revert h2; simp_all)
    rcases hk with rfl | rfl
    · exact rv_not _
    · exact rv_truth _
theorem rv_of (row : List V) (hr : ∀ x ∈ row, RV x) (e : E) : RE row.length e → RV (ofE row e) := by
  intro h
  induction h with
  | mk h0 hn hv hc hk ih =>
    unfold ofE
    split
    · exact rv_bare (hv (by assumption))
    · split
      · have := hc (by assumption)
        rename_i c _ _ _ _ _ _
        have hl : c.toNat < row.length := by omega
        rw [List.getD_eq_getElem?_getD, List.getElem?_eq_getElem hl]
        exact rv_bare (hr _ (List.getElem_mem hl))
      · rename_i k v c A n cap kid h1 h2
        have hz : kidsN k ≠ 0 := fun hz => by rcases kids_zero hz with h8 | h8 <;> contradiction
        exact rv_opn k _ _ _ (by omega) (ih 0 (by omega)) (fun h => ih 1 (by omega)) (fun h => ih 2 (by omega))

def sumK (f : Nat → Int) : Nat → Int
  | 0 => 0
  | r + 1 => sumK f r + f r
theorem sumK_shift (f : Nat → Int) : ∀ r, sumK f (r + 1) = f 0 + sumK (fun j => f (j + 1)) r
  | 0 => by simp [sumK]
  | r + 1 => by
    have := sumK_shift f r
    conv => lhs; unfold sumK
    rw [this]
    conv => rhs; arg 2; unfold sumK
    omega
theorem sumK_pos {f : Nat → Int} (h : ∀ i, 0 ≤ f i) : ∀ r, 0 ≤ sumK f r
  | 0 => by simp [sumK]
  | r + 1 => by have := sumK_pos h r; have := h r; simp [sumK]; omega
def szE : E → Int
  | .leaf => 1
  | .mk _ _ _ _ n _ kid => 1 + sumK (fun i => szE (kid i)) n
theorem szE_pos (e : E) : 1 ≤ szE e := by
  induction e with
  | leaf => simp [szE]
  | mk k v c A n cap kid ih =>
    have := sumK_pos (f := fun i => szE (kid i)) (fun i => by have := ih i; omega) n
    simp only [szE]; omega
def dOK : E → Int → Prop
  | .leaf, d => d ≤ 20
  | .mk _ _ _ _ n _ kid, d => d ≤ 20 ∧ ∀ i, i < n → dOK (kid i) (d + 1)
theorem dOK_mono (e : E) : ∀ {d d' : Int}, d' ≤ d → dOK e d → dOK e d' := by
  induction e with
  | leaf => intro d d' h h1; simp only [dOK] at h1 ⊢; omega
  | mk k v c A n cap kid ih =>
    intro d d' h h1
    simp only [dOK] at h1 ⊢
    exact ⟨by omega, fun i hi => ih i (by omega) (h1.2 i hi)⟩
def tyK (cols : List Int) (k : Int) (v : V) (c : Int) (ts : List Int) (T : Int) : Prop :=
  if k = 1 then wrongV v = 0 ∧ T = v.k
  else if k = 2 then 0 ≤ c ∧ c < (cols.length : Int) ∧ T = cols.getD c.toNat 0
  else if k = 16 then T = 2
  else kindE k ts = (T, 0)
def wt (cols : List Int) : E → Int → Prop
  | .leaf, _ => False
  | .mk k v c _ n _ kid, T => 0 ≤ kidsN k ∧ (n : Int) = kidsN k ∧ ∃ ts : List Int, ts.length = n ∧ (∀ i, i < n → wt cols (kid i) (ts.getD i 0)) ∧ tyK cols k v c ts T

theorem typKids_iff {f : Nat → Int → Int × Int × Int} {W : Nat → Int → Prop} {D : Nat → Prop} {s : Nat → Int} (hs : ∀ i, 0 ≤ s i)
    (hf : ∀ i m T M, m ≤ 200 → (f i m = (T, 0, M) ↔ W i T ∧ D i ∧ M = m + s i ∧ m + s i ≤ 200)) :
    ∀ (r i : Nat) (m : Int) (ts : List Int) (M : Int) (us : List Int), m ≤ 200 →
      (typKids f r i m ts = (0, M, us) ↔ ∃ qs : List Int, qs.length = r ∧ us = ts ++ qs ∧ (∀ j, j < r → W (i + j) (qs.getD j 0)) ∧ (∀ j, j < r → D (i + j)) ∧ M = m + sumK (fun j => s (i + j)) r ∧ m + sumK (fun j => s (i + j)) r ≤ 200)
  | 0, i, m, ts, M, us, hm => by
    simp only [typKids, sumK]
    constructor
    · rintro h
      cases h
      exact ⟨[], rfl, by simp, fun j hj => by omega, fun j hj => by omega, by omega, by omega⟩
    · rintro ⟨qs, h1, h2, _, _, h3, _⟩
      have : qs = [] := List.length_eq_zero_iff.1 h1
      subst this
      simp at h2 h3
      rw [h2, h3]
  | r + 1, i, m, ts, M, us, hm => by
    unfold typKids
    obtain ⟨T, e, M1, hq⟩ : ∃ T e M1, f i m = (T, e, M1) := ⟨_, _, _, rfl⟩
    rw [hq]
    simp only
    have hsum := sumK_shift (fun j => s (i + j)) r
    have hre : (fun j => s (i + (j + 1))) = (fun j => s (i + 1 + j)) := by funext j; congr 1; omega
    simp only [hre, Nat.add_zero] at hsum
    rw [hsum]
    have hpos : 0 ≤ sumK (fun j => s (i + 1 + j)) r := sumK_pos (fun j => hs _) r
    by_cases he : e = 0
    · subst he
      rw [if_pos rfl]
      obtain ⟨g1, g2, g3, g4⟩ := (hf i m T M1 hm).1 hq
      subst g3
      rw [typKids_iff hs hf r (i + 1) (m + s i) (ts ++ [T]) M us g4]
      constructor
      · rintro ⟨qs, h1, h2, h3, h4, h5, h6⟩
        refine ⟨T :: qs, by simp [h1], by simp [h2], ?_, ?_, by omega, by omega⟩
        · intro j hj
          cases j with
          | zero => simpa using g1
          | succ j =>
            have := h3 j (by omega)
            rw [show i + 1 + j = i + (j + 1) by omega] at this
            simpa using this
        · intro j hj
          cases j with
          | zero => simpa using g2
          | succ j =>
            have := h4 j (by omega)
            rwa [show i + 1 + j = i + (j + 1) by omega] at this
      · rintro ⟨qs, h1, h2, h3, h4, h5, h6⟩
        cases qs with
        | nil => simp at h1
        | cons q qs =>
          have hw := h3 0 (by omega)
          simp only [Nat.add_zero, List.getD_cons_zero] at hw
          have := (hf i m q (m + s i) hm).2 ⟨hw, by simpa using h4 0 (by omega), rfl, g4⟩
          rw [hq] at this
          obtain rfl : T = q := by simpa using this
          refine ⟨qs, by simpa using h1, by simp [h2], ?_, ?_, by omega, by omega⟩
          · intro j hj
            have := h3 (j + 1) (by omega)
            rw [show i + (j + 1) = i + 1 + j by omega] at this
            simpa using this
          · intro j hj
            have := h4 (j + 1) (by omega)
            rwa [show i + (j + 1) = i + 1 + j by omega] at this
    · rw [if_neg he]
      constructor
      · intro h
        simp at h
        exact absurd h.1 he
      · rintro ⟨qs, h1, h2, h3, h4, h5, h6⟩
        exfalso
        have := (hf i m (qs.getD 0 0) (m + s i) hm).2 ⟨by simpa using h3 0 (by omega), by simpa using h4 0 (by omega), rfl, by omega⟩
        rw [hq] at this
        simp at this
        exact he this.2.1

theorem typE_iff (cols : List Int) (e : E) : ∀ (deep m T M : Int), m ≤ 200 → (typE cols e deep m = (T, 0, M) ↔ wt cols e T ∧ dOK e deep ∧ M = m + szE e ∧ m + szE e ≤ 200) := by
  induction e with
  | leaf =>
    intro deep m T M hm
    unfold typE wt
    constructor
    · intro h
      split at h <;> simp at h
    · rintro ⟨h, _⟩; exact h.elim
  | mk k v c A n cap kid ih =>
    intro deep m T M hm
    have hsz := szE_pos (.mk k v c A n cap kid)
    unfold typE
    simp only [wt, dOK, szE]
    have hpos : 0 ≤ sumK (fun i => szE (kid i)) n := sumK_pos (fun i => by have := szE_pos (kid i); omega) n
    by_cases h1 : 200 < m + 1 ∨ 20 < deep
    · rw [if_pos h1]
      constructor
      · intro h; simp at h
      · rintro ⟨_, ⟨h2, _⟩, _, h3⟩; omega
    · rw [if_neg h1]
      by_cases h2 : kidsN k < 0
      · rw [if_pos h2]
        constructor
        · intro h; simp at h
        · rintro ⟨⟨h3, _⟩, _⟩; omega
      · rw [if_neg h2]
        by_cases h3 : (n : Int) ≠ kidsN k
        · rw [if_pos h3]
          constructor
          · intro h; simp at h
          · rintro ⟨⟨_, h4, _⟩, _⟩; omega
        · rw [if_neg h3]
          have key := typKids_iff (f := fun i m' => typE cols (kid i) (deep + 1) m') (W := fun i T => wt cols (kid i) T) (D := fun i => dOK (kid i) (deep + 1)) (s := fun i => szE (kid i)) (fun i => by have := szE_pos (kid i); omega)
            (fun i m T M hm => ih i (deep + 1) m T M hm) n 0 (m + 1)
          obtain ⟨e1, M1, us, hq⟩ : ∃ e1 M1 us, typKids (fun i m' => typE cols (kid i) (deep + 1) m') n 0 (m + 1) [] = (e1, M1, us) := ⟨_, _, _, rfl⟩
          rw [hq]
          simp only
          by_cases he : e1 = 0
          · subst he
            obtain ⟨qs, k1, k2, k3, k4, k5, k6⟩ := (key [] M1 us (by omega)).1 hq
            simp only [List.nil_append, Nat.zero_add] at k2 k3 k4 k5 k6
            subst k2
            rw [if_neg (by simp)]
            have tk : (if k = 1 then (v.k, wrongV v, M1) else if k = 2 then (if c < 0 ∨ (cols.length : Int) ≤ c then (0, 7, M1) else (cols.getD c.toNat 0, 0, M1)) else if k = 16 then (2, 0, M1) else ((kindE k us).1, (kindE k us).2, M1)) = (T, (0 : Int), M) ↔ tyK cols k v c us T ∧ M = M1 := by
              unfold tyK
              split
              · simp; constructor
                · rintro ⟨rfl, h, rfl⟩; exact ⟨⟨h, rfl⟩, rfl⟩
                · rintro ⟨⟨h, rfl⟩, rfl⟩; exact ⟨rfl, h, rfl⟩
              · split
                · split
                  · rename_i h5
                    constructor
                    · intro h; simp at h
                    · rintro ⟨⟨_, _, _⟩, _⟩; omega
                  · rename_i h5
                    simp
                    constructor
                    · rintro ⟨rfl, rfl⟩; exact ⟨⟨by omega, by omega, rfl⟩, rfl⟩
                    · rintro ⟨⟨_, _, rfl⟩, rfl⟩; exact ⟨rfl, rfl⟩
                · split
                  · simp; constructor
                    · rintro ⟨rfl, rfl⟩; exact ⟨rfl, rfl⟩
                    · rintro ⟨rfl, rfl⟩; exact ⟨rfl, rfl⟩
                  · obtain ⟨p, q⟩ := kindE k us
                    simp; constructor
                    · rintro ⟨rfl, rfl, rfl⟩; exact ⟨⟨rfl, rfl⟩, rfl⟩
                    · rintro ⟨⟨rfl, rfl⟩, rfl⟩; exact ⟨rfl, rfl, rfl⟩
            rw [tk]
            constructor
            · rintro ⟨h4, rfl⟩
              exact ⟨⟨by omega, by omega, us, k1, k3, h4⟩, ⟨by omega, k4⟩, by omega, by omega⟩
            · rintro ⟨⟨_, _, ts, g1, g2, g3⟩, ⟨_, g4⟩, g5, g6⟩
              have := (key [] (m + 1 + sumK (fun i => szE (kid i)) n) ts (by omega)).2 ⟨ts, g1, by simp, by simpa using g2, by simpa using g4, by simp, by simp; omega⟩
              rw [hq] at this
              obtain ⟨rfl, rfl⟩ : M1 = m + 1 + sumK (fun i => szE (kid i)) n ∧ us = ts := by simpa using this
              exact ⟨g3, by omega⟩
          · rw [if_pos he]
            constructor
            · intro h; simp at h; exact absurd h.2.1 he
            · rintro ⟨⟨_, _, ts, g1, g2, g3⟩, ⟨_, g4⟩, g5, g6⟩
              exfalso
              have := (key [] (m + 1 + sumK (fun i => szE (kid i)) n) ts (by omega)).2 ⟨ts, g1, by simp, by simpa using g2, by simpa using g4, by simp, by simp; omega⟩
              rw [hq] at this
              simp at this
              exact he this.1

theorem wt_re {cols : List Int} (e : E) : ∀ {T : Int}, wt cols e T → RE cols.length e := by
  induction e with
  | leaf => intro T h; exact h.elim
  | mk k v c A n cap kid ih =>
    intro T h
    simp only [wt] at h
    obtain ⟨h1, h2, ts, h3, h4, h5⟩ := h
    refine .mk h1 h2 (fun hk => ?_) (fun hk => ?_) (fun i hi => ih i (h4 i hi))
    · unfold tyK at h5
      rw [if_pos hk] at h5
      exact (RV.of v).1 h5.1
    · unfold tyK at h5
      rw [if_neg (by omega), if_pos hk] at h5
      exact ⟨h5.1, h5.2.1⟩

theorem typeE_iff (cols : List Int) (e : E) (T : Int) : typeE cols e = (T, 0) ↔ cols.length ≤ 16 ∧ cols.all colB = true ∧ wt cols e T ∧ dOK e 1 ∧ szE e ≤ 200 := by
  unfold typeE
  by_cases h1 : 16 < cols.length
  · rw [if_pos h1]
    constructor
    · intro h; simp at h
    · rintro ⟨h, _⟩; omega
  · rw [if_neg h1]
    cases h2 : cols.all colB
    · rw [if_pos rfl]
      constructor
      · intro h; simp at h
      · rintro ⟨_, h, _⟩; simp at h
    · rw [if_neg (by simp)]
      obtain ⟨q1, q2, q3, hq⟩ : ∃ q1 q2 q3, typE cols e 1 0 = (q1, q2, q3) := ⟨_, _, _, rfl⟩
      rw [hq]
      simp only
      by_cases h3 : q2 = 0
      · subst h3
        rw [if_neg (by simp)]
        obtain ⟨g1, g2, g3, g4⟩ := (typE_iff cols e 1 0 q1 q3 (by omega)).1 hq
        constructor
        · intro h
          obtain rfl : q1 = T := by simpa using h
          exact ⟨by omega, trivial, g1, g2, by omega⟩
        · rintro ⟨_, _, k1, _, _⟩
          have := (typE_iff cols e 1 0 T q3 (by omega)).2 ⟨k1, g2, g3, g4⟩
          rw [hq] at this
          simp at this; simp [this]
      · rw [if_pos h3]
        constructor
        · intro h; simp at h; exact absurd h.2 h3
        · rintro ⟨_, _, k1, k2, k3⟩
          exfalso
          have := (typE_iff cols e 1 0 T (szE e) (by omega)).2 ⟨k1, k2, by omega, by omega⟩
          rw [hq] at this
          simp at this
          exact h3 this.2.1
def fitG : List V → List Int → Int
  | [], _ => 0
  | v :: vs, ts => if wrongV v ≠ 0 then wrongV v else if v.k ≠ 1 ∧ v.k ≠ ts.headD 0 then 9 else fitG vs ts.tail
def fitsE (cols : List Int) (row : List V) : Int := if row.length ≠ cols.length then 8 else fitG row cols
def FitR (cols : List Int) (row : List V) : Prop := row.length = cols.length ∧ ∀ i, ∀ v, row[i]? = some v → RV v ∧ (v.k = 1 ∨ v.k = cols.getD i 0)
theorem fitG_iff : ∀ (row : List V) (ts : List Int), fitG row ts = 0 ↔ ∀ i v, row[i]? = some v → RV v ∧ (v.k = 1 ∨ v.k = ts.getD i 0)
  | [], ts => by simp [fitG]
  | v :: vs, ts => by
    unfold fitG
    by_cases h1 : wrongV v = 0
    · rw [if_neg (by simpa using h1)]
      by_cases h2 : v.k ≠ 1 ∧ v.k ≠ ts.headD 0
      · rw [if_pos h2]
        constructor
        · intro h; simp at h
        · intro h
          have := (h 0 v rfl).2
          cases ts <;> simp_all
      · rw [if_neg h2, fitG_iff vs ts.tail]
        constructor
        · intro h i x hx
          cases i with
          | zero =>
            simp at hx; subst hx
            refine ⟨(RV.of _).1 h1, ?_⟩
            cases ts <;> simp_all <;> omega
          | succ i =>
            have := h i x (by simpa using hx)
            cases ts <;> simpa using this
        · intro h i x hx
          have := h (i + 1) x (by simpa using hx)
          cases ts <;> simpa using this
    · rw [if_pos h1]
      constructor
      · intro h; exact absurd h h1
      · intro h; exact absurd ((RV.of _).2 (h 0 v rfl).1) h1
theorem fits_iff (cols : List Int) (row : List V) : fitsE cols row = 0 ↔ FitR cols row := by
  unfold fitsE FitR
  by_cases h : row.length = cols.length
  · rw [if_neg (by simpa using h), fitG_iff]; simp [h]
  · rw [if_pos h]; simp [h]

def evalE (cols : List Int) (row : List V) (e : E) : V × Int :=
  if (typeE cols e).2 ≠ 0 then (⟨0, 0, es⟩, (typeE cols e).2)
  else if fitsE cols row ≠ 0 then (⟨0, 0, es⟩, fitsE cols row)
  else (ofE row e, 0)
theorem FitR.rv {cols : List Int} {row : List V} (h : FitR cols row) : ∀ x ∈ row, RV x := fun x hx => by
  obtain ⟨i, hi, rfl⟩ := List.getElem_of_mem hx
  exact (h.2 i _ (List.getElem?_eq_getElem hi)).1
theorem k_ranked (n : Int) : (rankedV n).k = 1 ∨ (rankedV n).k = 2 := by
  unfold rankedV truth
  split <;> simp
theorem k_eq (a b : V) : (eqV a b).k = 1 ∨ (eqV a b).k = 2 := by
  unfold eqV truth; split <;> simp
theorem k_less (a b : V) : (lessV a b).k = 1 ∨ (lessV a b).k = 2 := by
  unfold lessV truth; split <;> simp
theorem k_cmp (k : Int) (a b : V) : (comparedV k a b).k = 1 ∨ (comparedV k a b).k = 2 := by
  unfold comparedV
  repeat' split
  all_goals first | exact k_eq _ _ | exact k_less _ _ | exact k_ranked _
theorem k_intV (n : Int) : (intV n).k = 1 ∨ (intV n).k = 3 := by
  unfold intV; split <;> simp
theorem k_reckon (s : Int) (a b : V) : (reckonV s a b).k = 1 ∨ (reckonV s a b).k = 3 := by
  unfold reckonV
  repeat' split
  all_goals first | exact k_intV _ | simp
theorem k_join (a b : V) : (joinV a b).k = 1 ∨ (joinV a b).k = 4 := by
  unfold joinV; split <;> simp

theorem kinds {k : Int} (h : 0 ≤ kidsN k) : k = 1 ∨ k = 2 ∨ k = 3 ∨ k = 4 ∨ k = 5 ∨ (6 ≤ k ∧ k ≤ 11) ∨ k = 12 ∨ k = 13 ∨ k = 14 ∨ k = 15 ∨ k = 16 ∨ k = 17 ∨ k = 18 := by
  unfold kidsN at h
  repeat' split at h
  all_goals omega

theorem op_cmp {k : Int} (h : 6 ≤ k ∧ k ≤ 11) (a b d : V) : opV k a b d = comparedV k a b := by
  unfold opV
  rw [if_neg (by omega), if_neg (by omega), if_neg (by omega), if_neg (by omega), if_neg (by omega), if_neg (by omega), if_neg (by omega), if_neg (by omega), if_neg (by omega), if_neg (by omega)]

theorem of_ty {cols : List Int} {row : List V} (hf : FitR cols row) (e : E) : ∀ {T : Int}, wt cols e T → (ofE row e).k = 1 ∨ (ofE row e).k = T := by
  induction e with
  | leaf => intro T h; exact h.elim
  | mk k v c A n cap kid ih =>
    intro T h
    simp only [wt] at h
    obtain ⟨h0, hn, ts, h3, h4, h5⟩ := h
    unfold ofE
    unfold tyK at h5
    split
    · rw [if_pos (by assumption)] at h5
      rw [bare_k]; exact .inr h5.2.symm
    · rename_i n1
      rw [if_neg n1] at h5
      split
      · rw [if_pos (by assumption)] at h5
        rw [bare_k]
        obtain ⟨c0, c1, rfl⟩ := h5
        have hl : c.toNat < row.length := by have := hf.1; omega
        rw [List.getD_eq_getElem?_getD, List.getElem?_eq_getElem hl]
        exact (hf.2 c.toNat _ (List.getElem?_eq_getElem hl)).2
      · rename_i n2
        rw [if_neg n2] at h5
        rcases kinds h0 with hk | hk | hk | hk | hk | hk | hk | hk | hk | hk | hk | hk | hk
        · contradiction
        · contradiction
        · subst hk
          have e : T = 2 := by
            rw [if_neg (by decide)] at h5
            unfold kindE at h5
            split at h5
            · split at h5 <;> simp at h5
              exact h5.symm
            · omega
          subst e; exact k_ranked _
        · subst hk
          have e : T = 2 := by
            rw [if_neg (by decide)] at h5
            unfold kindE at h5
            split at h5
            · split at h5 <;> simp at h5
              exact h5.symm
            · omega
          subst e; exact k_ranked _
        · subst hk
          have e : T = 2 := by
            rw [if_neg (by decide)] at h5
            unfold kindE at h5
            split at h5
            · split at h5 <;> simp at h5
              exact h5.symm
            · omega
          subst e; exact k_ranked _
        · rw [op_cmp hk]
          have e : T = 2 := by
            rw [if_neg (by omega)] at h5
            unfold kindE at h5
            rw [if_neg (by omega), if_pos (by omega)] at h5
            split at h5 <;> simp at h5
            exact h5.symm
          subst e; exact k_cmp _ _ _
        · subst hk
          have e : T = 3 := by
            rw [if_neg (by decide)] at h5
            unfold kindE at h5
            rw [if_neg (by decide), if_neg (by decide), if_pos (by decide)] at h5
            split at h5 <;> simp at h5
            exact h5.symm
          subst e; exact k_reckon _ _ _
        · subst hk
          have e : T = 3 := by
            rw [if_neg (by decide)] at h5
            unfold kindE at h5
            rw [if_neg (by decide), if_neg (by decide), if_pos (by decide)] at h5
            split at h5 <;> simp at h5
            exact h5.symm
          subst e; exact k_reckon _ _ _
        · subst hk
          have e : T = 3 := by
            rw [if_neg (by decide)] at h5
            unfold kindE at h5
            rw [if_neg (by decide), if_neg (by decide), if_pos (by decide)] at h5
            split at h5 <;> simp at h5
            exact h5.symm
          subst e; exact k_reckon _ _ _
        · subst hk
          have e : T = 4 := by
            rw [if_neg (by decide)] at h5
            unfold kindE at h5
            rw [if_neg (by decide), if_neg (by decide), if_neg (by decide), if_pos (by decide)] at h5
            split at h5 <;> simp at h5
            exact h5.symm
          subst e; exact k_join _ _
        · subst hk
          rw [if_pos rfl] at h5
          subst h5
          exact .inr rfl
        · subst hk
          have k17 : kidsN 17 = 3 := rfl
          have i1 := ih 1 (h4 1 (by omega))
          have i2 := ih 2 (h4 2 (by omega))
          rw [if_neg (by decide)] at h5
          unfold kindE at h5
          rw [if_neg (by decide), if_neg (by decide), if_neg (by decide), if_neg (by decide), if_pos (by decide)] at h5
          split at h5
          · rename_i hc
            simp only [Prod.mk.injEq, and_true] at h5
            simp only [oneB, Bool.and_eq_true, Bool.or_eq_true, decide_eq_true_eq] at hc
            have hc1 := hc.1
            rw [show opV 17 (ofE row (kid 0)) (ofE row (kid 1)) (ofE row (kid 2)) = (if rankV (ofE row (kid 0)) = 2 then ofE row (kid 1) else ofE row (kid 2)) from rfl]
            unfold oneT at h5
            split <;> split at h5 <;> try split at h5
            all_goals omega
          · simp at h5
        · subst hk
          have k18 : kidsN 18 = 2 := rfl
          have i0 := ih 0 (h4 0 (by omega))
          have i1 := ih 1 (h4 1 (by omega))
          rw [if_neg (by decide)] at h5
          unfold kindE at h5
          rw [if_neg (by decide), if_neg (by decide), if_neg (by decide), if_neg (by decide), if_neg (by decide)] at h5
          split at h5
          · rename_i hc
            simp only [Prod.mk.injEq, and_true] at h5
            simp only [oneB, Bool.or_eq_true, decide_eq_true_eq] at hc
            rw [show opV 18 (ofE row (kid 0)) (ofE row (kid 1)) (ofE row (kid 2)) = (if (ofE row (kid 0)).k = 1 then ofE row (kid 1) else ofE row (kid 0)) from rfl]
            unfold oneT at h5
            split <;> split at h5 <;> try split at h5
            all_goals omega
          · simp at h5

def Le (a b : V) : Prop := a.k = 1 ∨ a = b
theorem Le.refl (a : V) : Le a a := .inr rfl
def zV : V := ⟨0, 0, es⟩
def oneK (k : Int) (a : E) (A : Option Addr) : E := .mk k zV 0 A 1 1 (fun _ => a)
def twoK (k : Int) (a b : E) (A : Option Addr) : E := .mk k zV 0 A 2 2 (fun i => if i = 0 then a else b)
theorem sz_one (k : Int) (a : E) (A : Option Addr) : szE (oneK k a A) = 1 + szE a := by simp [oneK, szE, sumK]
theorem sz_two (k : Int) (a b : E) (A : Option Addr) : szE (twoK k a b A) = 1 + (szE a + szE b) := by simp [twoK, szE, sumK]
theorem d_one (k : Int) (a : E) (A : Option Addr) (d : Int) : dOK (oneK k a A) d ↔ d ≤ 20 ∧ dOK a (d + 1) := by
  simp only [oneK, dOK]
  constructor
  · rintro ⟨h1, h2⟩; exact ⟨h1, h2 0 (by omega)⟩
  · rintro ⟨h1, h2⟩; exact ⟨h1, fun i hi => h2⟩
theorem d_two (k : Int) (a b : E) (A : Option Addr) (d : Int) : dOK (twoK k a b A) d ↔ d ≤ 20 ∧ dOK a (d + 1) ∧ dOK b (d + 1) := by
  simp only [twoK, dOK]
  constructor
  · rintro ⟨h1, h2⟩; exact ⟨h1, by simpa using h2 0 (by omega), by simpa using h2 1 (by omega)⟩
  · rintro ⟨h1, h2, h3⟩
    refine ⟨h1, fun i hi => ?_⟩
    by_cases h : i = 0
    · simpa [h] using h2
    · simpa [h] using h3
theorem ty_ne {cols : List Int} {k : Int} {v : V} {c : Int} {ts : List Int} {T : Int} (h1 : 1 ≤ kidsN k) (h16 : k ≠ 16) : tyK cols k v c ts T ↔ kindE k ts = (T, 0) := by
  have n1 : k ≠ 1 := by rintro rfl; revert h1; decide
  have n2 : k ≠ 2 := by rintro rfl; revert h1; decide
  simp [tyK, n1, n2, h16]
theorem wt_one {cols : List Int} {k : Int} {a : E} {A : Option Addr} {T : Int} (h : kidsN k = 1) (h16 : k ≠ 16) : wt cols (oneK k a A) T ↔ ∃ t, wt cols a t ∧ kindE k [t] = (T, 0) := by
  simp only [oneK, wt]
  rw [h]
  constructor
  · rintro ⟨_, _, ts, h1, h2, h3⟩
    rw [ty_ne (by omega) h16] at h3
    match ts, h1 with
    | [t], _ => exact ⟨t, by simpa using h2 0 (by omega), h3⟩
  · rintro ⟨t, h1, h2⟩
    refine ⟨by omega, by omega, [t], rfl, fun i hi => ?_, (ty_ne (by omega) h16).2 h2⟩
    obtain rfl : i = 0 := by omega
    simpa using h1
theorem wt_two {cols : List Int} {k : Int} {a b : E} {A : Option Addr} {T : Int} (h : kidsN k = 2) : wt cols (twoK k a b A) T ↔ ∃ t u, wt cols a t ∧ wt cols b u ∧ kindE k [t, u] = (T, 0) := by
  have h16 : k ≠ 16 := by rintro rfl; revert h; decide
  simp only [twoK, wt]
  rw [h]
  constructor
  · rintro ⟨_, _, ts, h1, h2, h3⟩
    rw [ty_ne (by omega) h16] at h3
    match ts, h1 with
    | [t, u], _ => exact ⟨t, u, by simpa using h2 0 (by omega), by simpa using h2 1 (by omega), h3⟩
  · rintro ⟨t, u, h1, h2, h3⟩
    refine ⟨by omega, by omega, [t, u], rfl, fun i hi => ?_, (ty_ne (by omega) h16).2 h3⟩
    match i, hi with
    | 0, _ => simpa using h1
    | 1, _ => simpa using h2
theorem of_two {row : List V} {k : Int} {a b : E} {A : Option Addr} (h1 : k ≠ 1) (h2 : k ≠ 2) : ofE row (twoK k a b A) = opV k (ofE row a) (ofE row b) (ofE row b) := by
  simp [twoK, ofE, h1, h2]
structure Okay (cols : List Int) (e : E) (T : Int) : Prop where
  len : cols.length ≤ 16
  all : cols.all colB = true
  ty : wt cols e T
  deep : dOK e 1
  size : szE e ≤ 200
theorem okay_iff {cols : List Int} {e : E} {T : Int} : typeE cols e = (T, 0) ↔ Okay cols e T := by
  rw [typeE_iff]
  exact ⟨fun ⟨a, b, c, d, e⟩ => ⟨a, b, c, d, e⟩, fun ⟨a, b, c, d, e⟩ => ⟨a, b, c, d, e⟩⟩
theorem okay_of {cols : List Int} {e : E} (h : (typeE cols e).2 = 0) : ∃ T, Okay cols e T := ⟨(typeE cols e).1, okay_iff.1 (Prod.ext rfl h)⟩
theorem Okay.eval {cols : List Int} {e : E} {T : Int} (h : Okay cols e T) (row : List V) (hf : fitsE cols row = 0) : evalE cols row e = (ofE row e, 0) := by
  have := okay_iff.2 h
  simp [evalE, this, hf]
theorem kind_cmp {k t u : Int} (h : 6 ≤ k ∧ k ≤ 11) : kindE k [t, u] = if oneB t u then (2, 0) else (0, 9) := by
  unfold kindE
  rw [if_neg (by omega), if_pos (by omega)]
  rfl
theorem kids_cmp {k : Int} (h : 6 ≤ k ∧ k ≤ 11) : kidsN k = 2 := by
  unfold kidsN
  rw [if_neg (by omega), if_neg (by omega), if_pos (by omega)]
structure Both (cols : List Int) (x y : E) : Prop where
  len : cols.length ≤ 16
  all : cols.all colB = true
  ty : ∃ t u, wt cols x t ∧ wt cols y u ∧ oneB t u = true
  dx : dOK x 3
  dy : dOK y 3
  size : 3 + (szE x + szE y) + (szE x + szE y) ≤ 200
theorem Both.two {cols : List Int} {x y : E} (h : Both cols x y) {k : Int} (hk : 6 ≤ k ∧ k ≤ 11) (A : Option Addr) : Okay cols (twoK k x y A) 2 := by
  obtain ⟨h1, h2, ⟨t, u, h3, h4, h5⟩, h6, h7, h8⟩ := h
  have := szE_pos x
  have := szE_pos y
  refine ⟨h1, h2, (wt_two (kids_cmp hk)).2 ⟨t, u, h3, h4, by rw [kind_cmp hk, h5]; rfl⟩, (d_two _ _ _ _ _).2 ⟨by omega, dOK_mono x (by omega) h6, dOK_mono y (by omega) h7⟩, by rw [sz_two]; omega⟩
theorem Both.not {cols : List Int} {x y : E} (h : Both cols x y) {k : Int} (hk : 6 ≤ k ∧ k ≤ 11) (A B : Option Addr) : Okay cols (oneK 3 (twoK k x y A) B) 2 := by
  have h0 := h.two hk A
  obtain ⟨h1, h2, ⟨t, u, h3, h4, h5⟩, h6, h7, h8⟩ := h
  have := szE_pos x
  have := szE_pos y
  refine ⟨h1, h2, (wt_one (by rfl) (by decide)).2 ⟨2, h0.ty, rfl⟩, (d_one _ _ _ _).2 ⟨by omega, (d_two _ _ _ _ _).2 ⟨by omega, dOK_mono x (by omega) h6, dOK_mono y (by omega) h7⟩⟩, by rw [sz_one, sz_two]; omega⟩
end Go.Proofs.Ytamfpppbjaelaaa
