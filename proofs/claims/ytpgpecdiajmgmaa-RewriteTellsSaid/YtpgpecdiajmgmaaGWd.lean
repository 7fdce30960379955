/-
  Joined texts of this claim: Nf, RwA, RwB0. What each proves its own head says; no condition beside those that each theorem names.
-/
import Derived.Test.YtpgpecdiajmgmaaGWc
namespace Go.Proofs.Ytpgpecdiajmgmaa
open Go.RowKit Go.Calm
set_option linter.unusedSimpArgs false
set_option linter.unusedVariables false

theorem and_more {cols : List Int} {a y x : E} (h : (typeE cols (andE a (andE y x))).2 = 0) : (typeE cols (andE a y)).2 = 0 := by
  have h1 := (typeE_iff cols (andE a (andE y x)) (typeE cols (andE a (andE y x))).1).1 (by rw [← h])
  obtain ⟨c1, c2, w1, d1, s1⟩ := h1
  generalize (typeE cols (andE a (andE y x))).1 = T at w1
  have w2 : 0 ≤ kidsN 4 ∧ ((2 : Nat) : Int) = kidsN 4 ∧ ∃ ts : List Int, ts.length = 2 ∧ (∀ i, i < 2 → wt cols ((fun i => if i = 0 then a else if i = 1 then andE y x else .leaf) i) (ts.getD i 0)) ∧ tyK cols 4 ⟨0, 0, es⟩ 0 ts T := w1
  obtain ⟨k0, k1, ts, hl, hw, ht⟩ := w2
  have wa := hw 0 (by omega)
  have wz := hw 1 (by omega)
  simp only [if_pos, if_neg (show ¬ ((1 : Nat) = 0) by omega)] at wa wz
  have w3 : 0 ≤ kidsN 4 ∧ ((2 : Nat) : Int) = kidsN 4 ∧ ∃ us : List Int, us.length = 2 ∧ (∀ i, i < 2 → wt cols ((fun i => if i = 0 then y else if i = 1 then x else .leaf) i) (us.getD i 0)) ∧ tyK cols 4 ⟨0, 0, es⟩ 0 us (ts.getD 1 0) := wz
  obtain ⟨_, _, us, hl2, hw2, ht2⟩ := w3
  have wy := hw2 0 (by omega)
  simp only [if_pos] at wy
  have ka : oneB (ts.getD 0 0) 2 = true := by
    match ts, hl with
    | [p, q], _ =>
      unfold tyK kindE at ht
      simp at ht
      split at ht
      · rename_i hh; simpa using hh.1
      · simp at ht
  have ky : oneB (us.getD 0 0) 2 = true := by
    match us, hl2 with
    | [p, q], _ =>
      unfold tyK kindE at ht2
      simp at ht2
      split at ht2
      · rename_i hh; simpa using hh.1
      · simp at ht2
  have d2 : (1 : Int) ≤ 20 ∧ ∀ i, i < 2 → dOK ((fun i => if i = 0 then a else if i = 1 then andE y x else .leaf) i) (1 + 1) := d1
  have da := d2.2 0 (by omega)
  have dz := d2.2 1 (by omega)
  simp only [if_pos, if_neg (show ¬ ((1 : Nat) = 0) by omega)] at da dz
  have d3 : (2 : Int) ≤ 20 ∧ ∀ i, i < 2 → dOK ((fun i => if i = 0 then y else if i = 1 then x else .leaf) i) (1 + 1 + 1) := dz
  have dy := d3.2 0 (by omega)
  simp only [if_pos] at dy
  have s2 : szE (andE a (andE y x)) = 1 + (0 + szE a + (1 + (0 + szE y + szE x))) := rfl
  have s3 : szE (andE a y) = 1 + (0 + szE a + szE y) := rfl
  have px := szE_pos x
  have T9 : tyK cols 4 ⟨0, 0, es⟩ 0 [ts.getD 0 0, us.getD 0 0] 2 := by
    generalize ts.getD 0 0 = p at ka ⊢
    generalize us.getD 0 0 = q at ky ⊢
    unfold tyK kindE
    simp [ka, ky]
  have : typeE cols (andE a y) = (2, 0) := (typeE_iff cols (andE a y) 2).2 ⟨c1, c2, ⟨by decide, by decide, [ts.getD 0 0, us.getD 0 0], rfl, fun i hi => by
    rcases (show i = 0 ∨ i = 1 by omega) with rfl | rfl
    · exact wa
    · exact wy, T9⟩, ⟨by decide, fun i hi => by
    rcases (show i = 0 ∨ i = 1 by omega) with rfl | rfl
    · exact da
    · exact dOK_mono y (by omega) dy⟩, by omega⟩
  rw [this]
theorem colsAll_and (f : Int → Bool) (x y : E) : colsAll f (andE x y) = (colsAll f x && colsAll f y) := by
  unfold andE
  rw [colsAll_mk, range_all, range_all]
  simp
theorem litT_and (x y : E) : litT (andE x y) = false := by unfold andE litT; simp [E.kind]
theorem kid_ne (p : PL) : p.kid 0 = p → p = .leaf := by
  induction p with
  | leaf => intro _; rfl
  | mk k n y xs ag A m cap kid ih =>
    intro h
    have e : kid 0 = .mk k n y xs ag A m cap kid := h
    have h2 := ih 0 (by rw [e]; exact h)
    rw [h2] at e
    cases e
theorem fltP_kid (x : E) (p : PL) : (fltP x p).kid 0 = p := rfl
theorem fltP_ne (x : E) (p : PL) : p ≠ fltP x p := fun h => by
  have := kid_ne p (by conv => lhs; rw [h]
                       exact fltP_kid x p)
  rw [this] at h
  cases h
section
variable {ts : List (List Int)}
theorem push_true {p : PL} {x : E} (h : litT x = true) : pushP ts p x = p := by
  cases p with
  | leaf => unfold pushP; rw [if_pos h]
  | mk k n y xs ag A m cap kid => unfold pushP; rw [if_pos h]
theorem push_k (p : PL) (x : E) : (pushP ts p x).k = p.k ∨ (pushP ts p x).k = 2 := by
  cases p with
  | leaf => unfold pushP; split; exact .inl rfl; exact .inr rfl
  | mk k n y xs ag A m cap kid =>
    unfold pushP
    repeat' split
    all_goals first | exact .inr rfl | exact .inl rfl
theorem stuck_and (p : PL) (y x : E) (h : pushP ts p y = fltP y p) : pushP ts p (andE y x) = fltP (andE y x) p := by
  cases p with
  | leaf => unfold pushP; rw [litT_and]; rfl
  | mk k n z xs ag A m cap kid =>
    unfold pushP at h ⊢
    rw [litT_and]
    split at h
    · exact absurd h (fltP_ne _ _)
    · split at h
      · rename_i hk
        split at h
        · have h2 := congrArg (fun p => p.kid 0) h
          simp only [fltP_kid] at h2
          have := kid_ne (PL.mk k n z xs ag A m cap kid) h2
          cases this
        · rename_i h3
          have h4 : ¬ (typeE (colsE ts (kid 0)).1 (andE z (andE y x))).2 = 0 := fun h5 => h3 (and_more h5)
          simp only [if_pos hk, if_neg h4]
          rfl
      · rename_i hk
        simp only [if_neg hk]
        split at h
        · rename_i hk; have := congrArg PL.k h; simp only [mkP, fltP, PL.k] at this; omega
        · rename_i hk8
          simp only [if_neg hk8]
          split at h
          · rename_i hk; have := congrArg PL.k h; simp only [mkP, fltP, PL.k] at this; omega
          · rename_i hk10
            simp only [if_neg hk10]
            split at h
            · rename_i hk; have := congrArg PL.k h; simp only [mkP, fltP, PL.k] at this; omega
            · rename_i hk5
              simp only [if_neg hk5]
              split at h
              · rename_i hk4
                simp only [if_pos hk4]
                split at h
                · have := congrArg PL.k h; simp only [mkP, fltP, PL.k] at this; omega
                · rename_i c1
                  split at h
                  · have := congrArg PL.k h; simp only [mkP, fltP, PL.k] at this; omega
                  · rename_i c2
                    split at h
                    · have := congrArg PL.k h; simp only [mkP, fltP, PL.k] at this; omega
                    · rename_i c3
                      rw [colsAll_and, colsAll_and]
                      simp only [Bool.not_eq_true] at c1 c2
                      rw [c1, c2]
                      rw [if_neg (fun h5 => c3 (and_more h5))]
                      rfl
              · rename_i hk4
                simp only [if_neg hk4]
                rfl
def NF (ts : List (List Int)) : PL → Prop
  | .leaf => True
  | .mk k n y xs ag A m cap kid => PL.mk k n y xs ag A m cap kid = mkP k n y xs.l ag.l m kid ∧ (∀ i, i < m → NF ts (kid i)) ∧ (k = 2 → PL.mk k n y xs ag A m cap kid = fltP y (kid 0) ∧ pushP ts (kid 0) y = fltP y (kid 0)) ∧ (k = 10 ∨ k = 11 → (kid 0).k ≠ 10 ∧ (kid 0).k ≠ 11)
theorem mkP_cut (k n : Int) (x : E) (xs : List E) (ag : List Ag) (m : Nat) (kid : Nat → PL) : mkP k n x xs ag m (fun i => if i < m then kid i else .leaf) = mkP k n x xs ag m kid := mkP_congr (fun i hi => by rw [if_pos hi])
theorem NF.kid {p : PL} (h : NF ts p) (i : Nat) : NF ts (p.kid i) := by
  cases p with
  | leaf => exact trivial
  | mk k n y xs ag A m cap kid =>
    obtain ⟨h1, h2, _⟩ := h
    by_cases hi : i < m
    · exact h2 i hi
    · have := congrArg (fun p => p.kid i) h1
      simp only [mkP, PL.kid] at this
      rw [if_neg hi] at this
      show NF ts (kid i)
      rw [this]; exact trivial
theorem nf_mkP {k n : Int} {y : E} {xs : List E} {ag : List Ag} {m : Nat} {kid : Nat → PL} (hk : ∀ i, i < m → NF ts (kid i)) (h2 : k ≠ 2) (h10 : k = 10 ∨ k = 11 → 0 < m → (kid 0).k ≠ 10 ∧ (kid 0).k ≠ 11) : NF ts (mkP k n y xs ag m kid) := by
  unfold mkP
  refine ⟨(mkP_cut k n y xs ag m kid).symm, fun i hi => by simp only [if_pos hi]; exact hk i hi, fun h => absurd h h2, fun h => ?_⟩
  by_cases hm : 0 < m
  · simp only [if_pos hm]; exact h10 h hm
  · simp only [if_neg hm]; exact ⟨by simp [PL.k], by simp [PL.k]⟩
theorem nf_flt {x : E} {p : PL} (hp : NF ts p) (hs : pushP ts p x = fltP x p) : NF ts (fltP x p) := by
  unfold fltP mkP
  refine ⟨(mkP_cut 2 0 x [] [] 1 (fun _ => p)).symm, fun i hi => by simp only [if_pos hi]; exact hp, fun _ => ⟨rfl, hs⟩, fun h => by omega⟩
theorem nf_push (p : PL) : ∀ x, NF ts p → NF ts (pushP ts p x) := by
  induction p with
  | leaf =>
    intro x h
    unfold pushP
    split
    · exact trivial
    · rename_i hl; exact nf_flt trivial (by unfold pushP; rw [if_neg hl])
  | mk k n y xs ag A m cap kid ih =>
    intro x h
    have hk := fun i => h.kid i
    have hk : ∀ i, NF ts (kid i) := fun i => h.kid i
    obtain ⟨h1, _, h2, h10⟩ := h
    by_cases hl : litT x = true
    · rw [push_true hl]; exact ⟨h1, fun i _ => hk i, h2, h10⟩
    · have hp : NF ts (.mk k n y xs ag A m cap kid) := ⟨h1, fun i _ => hk i, h2, h10⟩
      by_cases k2 : k = 2
      · by_cases ht : (typeE (colsE ts (kid 0)).1 (andE y x)).2 = 0
        · have e : pushP ts (.mk k n y xs ag A m cap kid) x = fltP (andE y x) (kid 0) := by unfold pushP; rw [if_neg hl, if_pos k2, if_pos ht]
          rw [e]
          exact nf_flt (hk 0) (stuck_and _ _ _ (h2 k2).2)
        · have e : pushP ts (.mk k n y xs ag A m cap kid) x = fltP x (.mk k n y xs ag A m cap kid) := by unfold pushP; rw [if_neg hl, if_pos k2, if_neg ht]
          rw [e]
          exact nf_flt hp e
      · by_cases k8 : k = 8 ∨ k = 9
        · have e : pushP ts (.mk k n y xs ag A m cap kid) x = mkP k 0 .leaf [] [] 2 (fun i => if i = 0 then pushP ts (kid 0) x else pushP ts (kid 1) x) := by
            conv => lhs; unfold pushP
            rw [if_neg hl, if_neg k2, if_pos k8]
          rw [e]
          exact nf_mkP (fun i _ => by split; exact ih 0 x (hk 0); exact ih 1 x (hk 1)) k2 (fun h => by omega)
        · by_cases k10 : k = 10 ∨ k = 11
          · have e : pushP ts (.mk k n y xs ag A m cap kid) x = mkP k 0 .leaf [] [] 1 (fun _ => pushP ts (kid 0) x) := by
              conv => lhs; unfold pushP
              rw [if_neg hl, if_neg k2, if_neg k8, if_pos k10]
            rw [e]
            refine nf_mkP (fun i _ => ih 0 x (hk 0)) k2 (fun h _ => ?_)
            have := h10 h
            rcases push_k (ts := ts) (kid 0) x with h3 | h3
            · rw [h3]; exact this
            · rw [h3]; exact ⟨by decide, by decide⟩
          · by_cases k5 : k = 5 ∨ k = 6
            · have e : pushP ts (.mk k n y xs ag A m cap kid) x = mkP k n y xs.l ag.l 2 (fun i => if i = 0 then pushP ts (kid 0) x else kid 1) := by
                conv => lhs; unfold pushP
                rw [if_neg hl, if_neg k2, if_neg k8, if_neg k10, if_pos k5]
              rw [e]
              exact nf_mkP (fun i _ => by split; exact ih 0 x (hk 0); exact hk 1) k2 (fun h => by omega)
            · by_cases k4 : k = 4
              · by_cases c1 : colsAll (fun c => decide (c < ((colsE ts (kid 0)).1.length : Int))) x = true
                · have e : pushP ts (.mk k n y xs ag A m cap kid) x = mkP k n y xs.l ag.l 2 (fun i => if i = 0 then pushP ts (kid 0) x else kid 1) := by
                    conv => lhs; unfold pushP
                    rw [if_neg hl, if_neg k2, if_neg k8, if_neg k10, if_neg k5, if_pos k4, if_pos c1]
                  rw [e]
                  exact nf_mkP (fun i _ => by split; exact ih 0 x (hk 0); exact hk 1) k2 (fun h => by omega)
                · by_cases c2 : colsAll (fun c => decide (((colsE ts (kid 0)).1.length : Int) ≤ c)) x = true
                  · have e : pushP ts (.mk k n y xs ag A m cap kid) x = mkP k n y xs.l ag.l 2 (fun i => if i = 0 then kid 0 else pushP ts (kid 1) (movE (-((colsE ts (kid 0)).1.length : Int)) x)) := by
                      conv => lhs; unfold pushP
                      rw [if_neg hl, if_neg k2, if_neg k8, if_neg k10, if_neg k5, if_pos k4, if_neg c1, if_pos c2]
                    rw [e]
                    exact nf_mkP (fun i _ => by split; exact hk 0; exact ih 1 _ (hk 1)) k2 (fun h => by omega)
                  · by_cases c3 : (typeE (colsE ts (.mk k n y xs ag A m cap kid)).1 (andE y x)).2 = 0
                    · have e : pushP ts (.mk k n y xs ag A m cap kid) x = mkP k n (andE y x) xs.l ag.l m kid := by
                        conv => lhs; unfold pushP
                        rw [if_neg hl, if_neg k2, if_neg k8, if_neg k10, if_neg k5, if_pos k4, if_neg c1, if_neg c2, if_pos c3]
                      rw [e]
                      exact nf_mkP (fun i _ => hk i) k2 (fun h => by omega)
                    · have e : pushP ts (.mk k n y xs ag A m cap kid) x = fltP x (.mk k n y xs ag A m cap kid) := by
                        conv => lhs; unfold pushP
                        rw [if_neg hl, if_neg k2, if_neg k8, if_neg k10, if_neg k5, if_pos k4, if_neg c1, if_neg c2, if_neg c3]
                      rw [e]
                      exact nf_flt hp e
              · have e : pushP ts (.mk k n y xs ag A m cap kid) x = fltP x (.mk k n y xs ag A m cap kid) := by
                  conv => lhs; unfold pushP
                  rw [if_neg hl, if_neg k2, if_neg k8, if_neg k10, if_neg k5, if_neg k4]
                rw [e]
                exact nf_flt hp e
theorem nf_plan (p : PL) : NF ts (planP ts p) := by
  induction p with
  | leaf => exact trivial
  | mk k n y xs ag A m cap kid ih =>
    unfold planP
    split
    · exact nf_push _ _ (ih 0)
    · rename_i k2
      split
      · rename_i k10
        split
        · exact ih 0
        · rename_i hn
          split
          · rename_i h10
            refine nf_mkP (fun i _ => (ih 0).kid 0) k2 (fun _ _ => ?_)
            have h0 := ih 0
            revert h0 h10
            generalize planP ts (kid 0) = q
            intro h10 h0
            cases q with
            | leaf => simp [PL.k] at h10
            | mk k' n' y' xs' ag' A' m' cap' kid' => exact h0.2.2.2 (.inl h10)
          · rename_i h10
            exact nf_mkP (fun i _ => ih i) k2 (fun _ _ => ⟨h10, fun h => hn (.inl h)⟩)
      · rename_i k10
        exact nf_mkP (fun i _ => ih i) k2 (fun h => absurd h k10)
theorem nf_fix (p : PL) : NF ts p → planP ts p = p := by
  induction p with
  | leaf => intro _; rfl
  | mk k n y xs ag A m cap kid ih =>
    intro h
    have hk : ∀ i, NF ts (kid i) := fun i => h.kid i
    have he : ∀ i, planP ts (kid i) = kid i := fun i => ih i (hk i)
    obtain ⟨h1, _, h2, h10⟩ := h
    unfold planP
    simp only [he]
    by_cases k2 : k = 2
    · rw [if_pos k2, (h2 k2).2, ← (h2 k2).1]
    · rw [if_neg k2]
      by_cases k10 : k = 10 ∨ k = 11
      · have := h10 k10
        rw [if_pos k10, if_neg (by omega), if_neg this.1, ← h1]
      · rw [if_neg k10, ← h1]
theorem plan_idem (p : PL) : planP ts (planP ts p) = planP ts p := nf_fix _ (nf_plan p)
end
def KP : PL → Prop
  | .leaf => False
  | .mk k n y xs ag A m cap kid => (m : Int) = kidsP k ∧ ∀ i, i < m → KP (kid i)
def clsP (ts : List (List Int)) : PL → List Int
  | .leaf => []
  | .mk k n x xs ag _ m _ kid => (colT ts k n x xs.l ag.l ((List.range m).map (fun i => clsP ts (kid i)))).1
section
variable {ts : List (List Int)}
theorem kids_cls {f : Nat → Int → List Int × Int × Int} {g : Nat → List Int} (hf : ∀ i m, (f i m).2.1 = 0 → (f i m).1 = g i) : ∀ (r i : Nat) (m : Int) (l : List (List Int)), (kidsGo f r i m l).1 = 0 → (kidsGo f r i m l).2.2 = l ++ (List.range r).map (fun j => g (i + j))
  | 0, i, m, l, _ => by simp [kidsGo]
  | r + 1, i, m, l, h => by
    unfold kidsGo at h ⊢
    split at h
    · rename_i h0
      rw [if_pos h0, kids_cls hf r (i + 1) _ _ h, hf i m h0, List.range_succ_eq_map, List.map_cons, List.map_map, List.append_assoc]
      congr 1
      simp only [List.singleton_append, Nat.add_zero]
      congr 1
      apply List.map_congr_left
      intro j _
      simp only [Function.comp]
      congr 1
      omega
    · rename_i h0; exact absurd h h0
theorem colP_cls (p : PL) : ∀ deep m, (colP ts p deep m).2.1 = 0 → (colP ts p deep m).1 = clsP ts p ∧ KP p := by
  induction p with
  | leaf => intro deep m h; unfold colP at h; split at h <;> simp at h
  | mk k n x xs ag A mm cap kid ih =>
    intro deep m
    by_cases h1 : 60 < m + 1 ∨ 15 < deep
    · unfold colP; rw [if_pos h1]; simp
    · by_cases h2 : kidsP k < 0
      · unfold colP; rw [if_neg h1, if_pos h2]; simp
      · by_cases h3 : (mm : Int) = kidsP k
        · rw [colP_kids ts k n x xs ag A mm cap kid deep m h1 (by omega) h3]
          unfold colOf
          split
          · rename_i h0; exact fun h' => absurd h' h0
          · rename_i h0
            intro _
            have h0 : (kidsGo (fun i m' => colP ts (kid i) (deep + 1) m') mm 0 (m + 1) []).1 = 0 := by simpa using h0
            have e := kids_cls (g := fun i => clsP ts (kid i)) (fun i m' h => (ih i (deep + 1) m' h).1) mm 0 (m + 1) [] h0
            refine ⟨?_, h3, fun i hi => ?_⟩
            · simp only [e, List.nil_append, Nat.zero_add]
              conv => rhs; unfold clsP
            · have : ∀ (r j : Nat) (m : Int) (l : List (List Int)), (kidsGo (fun i m' => colP ts (kid i) (deep + 1) m') r j m l).1 = 0 → ∀ i, j ≤ i → i < j + r → KP (kid i) := fun r => by
                induction r with
                | zero => intro j m l _ i h1 h2; omega
                | succ r ihr =>
                  intro j m l hz i h1 h2
                  unfold kidsGo at hz
                  split at hz
                  · rename_i h5
                    by_cases hij : i = j
                    · subst hij; exact (ih i _ _ h5).2
                    · exact ihr (j + 1) _ _ hz i (by omega) (by omega)
                  · rename_i h5; exact absurd hz h5
              exact this mm 0 (m + 1) [] h0 i (Nat.zero_le _) (by omega)
        · unfold colP; rw [if_neg h1, if_neg h2, if_pos h3]; simp
theorem colsE_cls {p : PL} (h : (colsE ts p).2 = 0) : (colsE ts p).1 = clsP ts p ∧ KP p := by
  unfold colsE at h ⊢
  split at h
  · simp at h
  · split at h
    · rename_i h1 h2; simp at h; omega
    · rename_i h1 h2
      rw [if_neg h1, if_neg h2]
      split at h
      · rename_i h3; simp at h; omega
      · rename_i h3
        rw [if_neg h3]
        exact colP_cls p 1 0 (by simpa using h3)
theorem colT_x (k n : Int) (x x' : E) (xs : List E) (ag : List Ag) (cs : List (List Int)) : (colT ts k n x xs ag cs).1 = (colT ts k n x' xs ag cs).1 := by
  unfold colT
  repeat' split
  all_goals rfl
theorem colT_8 {k : Int} (hk : k = 8 ∨ k = 9 ∨ k = 10 ∨ k = 11) (n n' : Int) (x x' : E) (xs xs' : List E) (ag ag' : List Ag) (cs : List (List Int)) : (colT ts k n x xs ag cs).1 = (colT ts k n' x' xs' ag' cs).1 := by
  rcases hk with rfl | rfl | rfl | rfl <;> simp [colT]
theorem cls_mkP (k n : Int) (y : E) (xs : List E) (ag : List Ag) (m : Nat) (kid : Nat → PL) : clsP ts (mkP k n y xs ag m kid) = (colT ts k n y xs ag ((List.range m).map (fun i => clsP ts (kid i)))).1 := by
  unfold mkP
  conv => lhs; unfold clsP
  congr 2
  apply List.map_congr_left
  intro i hi
  simp only [if_pos (List.mem_range.1 hi)]
theorem cls_mk (k n : Int) (y : E) (xs : XsS) (ag : AgS) (A : Option Addr) (m cap : Nat) (kid : Nat → PL) : clsP ts (.mk k n y xs ag A m cap kid) = (colT ts k n y xs.l ag.l ((List.range m).map (fun i => clsP ts (kid i)))).1 := by
  conv => lhs; unfold clsP
theorem colT_2 (n : Int) (x : E) (xs : List E) (ag : List Ag) (cs : List (List Int)) : (colT ts 2 n x xs ag cs).1 = cs.getD 0 [] := by
  unfold colT
  rw [if_neg (by decide), if_pos rfl]
theorem colT_10 {k : Int} (hk : k = 10 ∨ k = 11) (n : Int) (x : E) (xs : List E) (ag : List Ag) (cs : List (List Int)) : (colT ts k n x xs ag cs).1 = cs.getD 0 [] := by
  unfold colT
  rw [if_neg (by omega), if_neg (by omega), if_neg (by omega), if_neg (by omega), if_pos hk]
theorem cls_flt (x : E) (p : PL) : clsP ts (fltP x p) = clsP ts p := by
  unfold fltP
  rw [cls_mkP, colT_2]
  rfl
theorem kp_mkP {k n : Int} {y : E} {xs : List E} {ag : List Ag} {m : Nat} {kid : Nat → PL} (h : (m : Int) = kidsP k) (hk : ∀ i, i < m → KP (kid i)) : KP (mkP k n y xs ag m kid) := ⟨h, fun i hi => by simp only [if_pos hi]; exact hk i hi⟩
theorem kp_flt {x : E} {p : PL} (h : KP p) : KP (fltP x p) := kp_mkP (by decide) (fun _ _ => h)
theorem kids8 {k : Int} (h : 4 ≤ k ∧ k ≤ 9) : kidsP k = 2 := by unfold kidsP; rw [if_neg (by omega), if_pos h]
theorem kids1 {k : Int} (h : k = 2 ∨ k = 10 ∨ k = 11) : kidsP k = 1 := by unfold kidsP; rw [if_neg (by omega), if_neg (by omega), if_pos (by omega)]
theorem map2 (f : Nat → List Int) : (List.range 2).map f = [f 0, f 1] := rfl
theorem map1 (f : Nat → List Int) : (List.range 1).map f = [f 0] := rfl
theorem push_cls (p : PL) : ∀ x, KP p → KP (pushP ts p x) ∧ clsP ts (pushP ts p x) = clsP ts p := by
  induction p with
  | leaf => intro x h; exact absurd h id
  | mk k n y xs ag A m cap kid ih =>
    intro x h
    by_cases hl : litT x = true
    · rw [push_true hl]; exact ⟨h, rfl⟩
    · have hm := h.1
      have hk := h.2
      unfold pushP
      rw [if_neg hl]
      split
      · rename_i k2
        subst k2
        have m1 : m = 1 := by rw [kids1 (.inl rfl)] at hm; omega
        subst m1
        split
        · refine ⟨kp_flt (hk 0 (by omega)), ?_⟩
          rw [cls_flt, cls_mk, colT_2]
          rfl
        · exact ⟨kp_flt h, cls_flt _ _⟩
      · rename_i k2
        split
        · rename_i k8
          have m2 : m = 2 := by rw [kids8 (by omega)] at hm; omega
          subst m2
          refine ⟨kp_mkP hm (fun i _ => by split; exact (ih 0 x (hk 0 (by omega))).1; exact (ih 1 x (hk 1 (by omega))).1), ?_⟩
          rw [cls_mkP, cls_mk, map2, map2, if_pos rfl, if_neg (by decide), (ih 0 x (hk 0 (by omega))).2, (ih 1 x (hk 1 (by omega))).2]
          exact colT_8 (by omega) _ _ _ _ _ _ _ _ _
        · split
          · rename_i k10
            have m1 : m = 1 := by rw [kids1 (by omega)] at hm; omega
            subst m1
            refine ⟨kp_mkP hm (fun i _ => (ih 0 x (hk 0 (by omega))).1), ?_⟩
            rw [cls_mkP, cls_mk, map1, map1, (ih 0 x (hk 0 (by omega))).2]
            exact colT_8 (by omega) _ _ _ _ _ _ _ _ _
          · split
            · rename_i k5
              have m2 : m = 2 := by rw [kids8 (by omega)] at hm; omega
              subst m2
              refine ⟨kp_mkP hm (fun i _ => by split; exact (ih 0 x (hk 0 (by omega))).1; exact hk 1 (by omega)), ?_⟩
              rw [cls_mkP, cls_mk, map2, map2, if_pos rfl, if_neg (by decide), (ih 0 x (hk 0 (by omega))).2]
            · split
              · rename_i k4
                have m2 : m = 2 := by rw [kids8 (by omega)] at hm; omega
                subst m2
                split
                · refine ⟨kp_mkP hm (fun i _ => by split; exact (ih 0 x (hk 0 (by omega))).1; exact hk 1 (by omega)), ?_⟩
                  rw [cls_mkP, cls_mk, map2, map2, if_pos rfl, if_neg (by decide), (ih 0 x (hk 0 (by omega))).2]
                · split
                  · refine ⟨kp_mkP hm (fun i _ => by split; exact hk 0 (by omega); exact (ih 1 _ (hk 1 (by omega))).1), ?_⟩
                    rw [cls_mkP, cls_mk, map2, map2, if_pos rfl, if_neg (by decide), (ih 1 _ (hk 1 (by omega))).2]
                  · split
                    · refine ⟨kp_mkP hm (fun i hi => hk i hi), ?_⟩
                      rw [cls_mkP, cls_mk]
                      exact colT_x _ _ _ _ _ _ _
                    · exact ⟨kp_flt h, cls_flt _ _⟩
              · exact ⟨kp_flt h, cls_flt _ _⟩
theorem plan_cls (p : PL) : KP p → KP (planP ts p) ∧ clsP ts (planP ts p) = clsP ts p := by
  induction p with
  | leaf => intro h; exact absurd h id
  | mk k n y xs ag A m cap kid ih =>
    intro h
    have hm := h.1
    have hk := h.2
    have all : KP (mkP k n y xs.l ag.l m (fun i => planP ts (kid i))) ∧ clsP ts (mkP k n y xs.l ag.l m (fun i => planP ts (kid i))) = clsP ts (.mk k n y xs ag A m cap kid) := by
      refine ⟨kp_mkP hm (fun i hi => (ih i (hk i hi)).1), ?_⟩
      rw [cls_mkP, cls_mk]
      congr 2
      apply List.map_congr_left
      intro i hi
      exact (ih i (hk i (List.mem_range.1 hi))).2
    unfold planP
    split
    · rename_i k2
      have m1 : m = 1 := by rw [kids1 (by omega)] at hm; omega
      subst m1 k2
      have h0 := ih 0 (hk 0 (by omega))
      have h1 := push_cls (ts := ts) (planP ts (kid 0)) y h0.1
      refine ⟨h1.1, ?_⟩
      rw [h1.2, h0.2, cls_mk, colT_2]
      rfl
    · split
      · rename_i k10
        have m1 : m = 1 := by rw [kids1 (by omega)] at hm; omega
        subst m1
        have h0 := ih 0 (hk 0 (by omega))
        have e : clsP ts (.mk k n y xs ag A 1 cap kid) = clsP ts (planP ts (kid 0)) := by
          rw [cls_mk, colT_10 k10, h0.2]
          rfl
        split
        · exact ⟨h0.1, e.symm⟩
        · split
          · rename_i h10
            revert h0 e h10
            generalize planP ts (kid 0) = q
            intro h0 e h10
            cases q with
            | leaf => simp [PL.k] at h10
            | mk k' n' y' xs' ag' A' m' cap' kid' =>
              have k10' : k' = 10 := h10
              subst k10'
              have hm' := h0.1.1
              have m1' : m' = 1 := by rw [kids1 (by omega)] at hm'; omega
              subst m1'
              refine ⟨kp_mkP (by rw [kids1 (by omega)]; rfl) (fun _ _ => h0.1.2 0 (by omega)), ?_⟩
              rw [e, cls_mkP, cls_mk, colT_10 k10, colT_10 (.inl rfl)]
              rfl
          · exact all
      · exact all
end
theorem pxs_x {S : Nat → Prop} {w : World} {k n : Int} {y z : E} {xs : XsS} {ag : AgS} {A : Option Addr} {m cap : Nat} {kid : Nat → PL} (h : PXs S w (.mk k n y xs ag A m cap kid)) (hz : EXs S w z) : PXs S w (.mk k n z xs ag A m cap kid) := fun W a => by
  cases h W a with
  | mk hm hc hk hx hs ha hl hi => exact .mk hm hc hk (hz W a) hs ha hl hi
theorem wfE_nE (e : E) : WfE (nE e) ↔ WfE e := by
  induction e with
  | leaf => exact Iff.rfl
  | mk k v c A n cap kid ih =>
    rw [nE_mk]
    show (n ≤ 3 ∧ (k = 2 → n = 0 ∧ 0 ≤ c ∧ c ≤ 16) ∧ ∀ i, i < n → WfE (if i < n then nE (kid i) else .leaf)) ↔ (n ≤ 3 ∧ (k = 2 → n = 0 ∧ 0 ≤ c ∧ c ≤ 16) ∧ ∀ i, i < n → WfE (kid i))
    refine and_congr_right fun _ => and_congr_right fun _ => ⟨fun h i hi => ?_, fun h i hi => ?_⟩
    · have := h i hi; rw [if_pos hi] at this; exact (ih i).1 this
    · rw [if_pos hi]; exact (ih i).2 (h i hi)
theorem wfE_mov (n0 : Int) (h0 : 0 ≤ n0) (e : E) : WfE e → colsAll (fun c => decide (n0 ≤ c)) e = true → WfE (movE (-n0) e) := by
  induction e with
  | leaf => intro h _; exact h
  | mk k v c A n cap kid ih =>
    intro h hc
    refine ⟨h.1, fun hk => ?_, fun i hi => ?_⟩
    · have h2 := h.2.1 hk
      rw [colsAll_mk, if_pos hk, Bool.and_eq_true] at hc
      have h3 := of_decide_eq_true hc.1
      rw [if_pos hk]
      exact ⟨h2.1, by omega, by omega⟩
    · simp only [if_pos hi]; exact ih i (h.2.2 i hi) (colsAll_kid hc hi)
theorem wfP_nP (p : PL) : WfP (nP p) ↔ WfP p := by
  induction p with
  | leaf => exact Iff.rfl
  | mk k n x xs ag A m cap kid ih =>
    show ((m : Int) = kidsP k ∧ 0 ≤ kidsP k ∧ (k = 2 ∨ (4 ≤ k ∧ k ≤ 7) → WfE (nE x)) ∧ ∀ i, i < m → WfP (if i < m then nP (kid i) else .leaf)) ↔ ((m : Int) = kidsP k ∧ 0 ≤ kidsP k ∧ (k = 2 ∨ (4 ≤ k ∧ k ≤ 7) → WfE x) ∧ ∀ i, i < m → WfP (kid i))
    rw [wfE_nE]
    refine and_congr_right fun _ => and_congr_right fun _ => and_congr_right fun _ => ⟨fun h i hi => ?_, fun h i hi => ?_⟩
    · have := h i hi; rw [if_pos hi] at this; exact (ih i).1 this
    · rw [if_pos hi]; exact (ih i).2 (h i hi)
theorem wfE_and {x y : E} (hx : WfE x) (hy : WfE y) : WfE (andE x y) := ⟨by decide, fun h => absurd h (by decide), fun i hi => by
  rcases (show i = 0 ∨ i = 1 by omega) with rfl | rfl
  · exact hx
  · exact hy⟩
theorem wfP_mk {k n : Int} {y : E} {xs : List E} {ag : List Ag} {m : Nat} {kid : Nat → PL} (h : (m : Int) = kidsP k) (hx : k = 2 ∨ (4 ≤ k ∧ k ≤ 7) → WfE y) (hk : ∀ i, i < m → WfP (kid i)) : WfP (mkP k n y xs ag m kid) := ⟨h, by omega, hx, fun i hi => by simp only [if_pos hi]; exact hk i hi⟩
theorem wfP_flt {x : E} {p : PL} (hx : WfE x) (h : WfP p) : WfP (fltP x p) := wfP_mk (by decide) (fun _ => hx) (fun _ _ => h)
section
variable {ts : List (List Int)}
theorem wfP_push (p : PL) : ∀ x, WfP p → WfE x → WfP (pushP ts p x) := by
  induction p with
  | leaf => intro x h; exact absurd h id
  | mk k n y xs ag A m cap kid ih =>
    intro x h hx
    by_cases hl : litT x = true
    · rw [push_true hl]; exact h
    · have hm := h.1
      have hy := h.2.2.1
      have hk := h.2.2.2
      unfold pushP
      rw [if_neg hl]
      split
      · rename_i k2
        have m1 : m = 1 := by rw [kids1 (.inl k2)] at hm; omega
        split
        · exact wfP_flt (wfE_and (hy (.inl k2)) hx) (hk 0 (by omega))
        · exact wfP_flt hx h
      · rename_i k2
        split
        · rename_i k8
          have m2 : m = 2 := by rw [kids8 (by omega)] at hm; omega
          subst m2
          exact wfP_mk hm (fun h => by omega) (fun i _ => by split; exact ih 0 x (hk 0 (by omega)) hx; exact ih 1 x (hk 1 (by omega)) hx)
        · split
          · rename_i k10
            have m1 : m = 1 := by rw [kids1 (by omega)] at hm; omega
            subst m1
            exact wfP_mk hm (fun h => by omega) (fun i _ => ih 0 x (hk 0 (by omega)) hx)
          · split
            · rename_i k5
              have m2 : m = 2 := by rw [kids8 (by omega)] at hm; omega
              subst m2
              exact wfP_mk hm hy (fun i _ => by split; exact ih 0 x (hk 0 (by omega)) hx; exact hk 1 (by omega))
            · split
              · rename_i k4
                have m2 : m = 2 := by rw [kids8 (by omega)] at hm; omega
                subst m2
                split
                · exact wfP_mk hm hy (fun i _ => by split; exact ih 0 x (hk 0 (by omega)) hx; exact hk 1 (by omega))
                · split
                  · rename_i c2
                    exact wfP_mk hm hy (fun i _ => by split; exact hk 0 (by omega); exact ih 1 _ (hk 1 (by omega)) (wfE_mov _ (by omega) x hx c2))
                  · split
                    · exact wfP_mk hm (fun _ => wfE_and (hy (by omega)) hx) (fun i hi => hk i hi)
                    · exact wfP_flt hx h
              · exact wfP_flt hx h
theorem wfP_plan (p : PL) : WfP p → WfP (planP ts p) := by
  induction p with
  | leaf => intro h; exact absurd h id
  | mk k n y xs ag A m cap kid ih =>
    intro h
    have hm := h.1
    have hy := h.2.2.1
    have hk := h.2.2.2
    have all : WfP (mkP k n y xs.l ag.l m (fun i => planP ts (kid i))) := wfP_mk hm hy (fun i hi => ih i (hk i hi))
    unfold planP
    split
    · rename_i k2
      have m1 : m = 1 := by rw [kids1 (by omega)] at hm; omega
      exact wfP_push _ _ (ih 0 (hk 0 (by omega))) (hy (.inl k2))
    · split
      · rename_i k10
        have m1 : m = 1 := by rw [kids1 (by omega)] at hm; omega
        have h0 := ih 0 (hk 0 (by omega))
        split
        · exact h0
        · split
          · rename_i h10
            revert h0 h10
            generalize planP ts (kid 0) = q
            intro h0 h10
            cases q with
            | leaf => simp [PL.k] at h10
            | mk k' n' y' xs' ag' A' m' cap' kid' =>
              have k10' : k' = 10 := h10
              subst k10'
              have hm' := h0.1
              have m1' : m' = 1 := by rw [kids1 (by omega)] at hm'; omega
              exact wfP_mk (by rw [kids1 (by omega)]; rfl) (fun h => by omega) (fun _ _ => h0.2.2.2 0 (by omega))
          · exact all
      · exact all
theorem wt_wf {cols : List Int} (hc : cols.length ≤ 16) (e : E) : ∀ {T : Int}, wt cols e T → WfE e := by
  induction e with
  | leaf => intro T h; exact absurd h id
  | mk k v c A n cap kid ih =>
    intro T h
    obtain ⟨h0, h1, us, h2, h3, h4⟩ := h
    refine ⟨?_, fun hk => ?_, fun i hi => ih i (h3 i hi)⟩
    · have : kidsN k ≤ 3 := by unfold kidsN; repeat' split
                               all_goals omega
      omega
    · subst hk
      unfold tyK at h4
      rw [if_neg (by decide), if_pos rfl] at h4
      have : kidsN 2 = 0 := by decide
      exact ⟨by omega, h4.1, by omega⟩
theorem cond_wf {cols : List Int} {x : E} (h : condE cols x = 0) : WfE x := by
  have h2 := (condE_zero h).1
  have h1 := (typeE_iff cols x (typeE cols x).1).1 (by rw [← h2])
  exact wt_wf h1.1 x h1.2.2.1
theorem colP_wf (p : PL) : ∀ deep m, (colP ts p deep m).2.1 = 0 → WfP p := by
  induction p with
  | leaf => intro deep m h; unfold colP at h; split at h <;> simp at h
  | mk k n x xs ag A mm cap kid ih =>
    intro deep m
    by_cases h1 : 60 < m + 1 ∨ 15 < deep
    · unfold colP; rw [if_pos h1]; simp
    · by_cases h2 : kidsP k < 0
      · unfold colP; rw [if_neg h1, if_pos h2]; simp
      · by_cases h3 : (mm : Int) = kidsP k
        · rw [colP_kids ts k n x xs ag A mm cap kid deep m h1 (by omega) h3]
          unfold colOf
          split
          · rename_i h0; exact fun h' => absurd h' h0
          · rename_i h0
            intro hc
            have h0 : (kidsGo (fun i m' => colP ts (kid i) (deep + 1) m') mm 0 (m + 1) []).1 = 0 := by simpa using h0
            refine ⟨h3, by omega, fun hk => ?_, fun i hi => ?_⟩
            · simp only at hc
              unfold colT at hc
              rcases hk with hk | hk
              · rw [if_neg (by omega), if_pos hk] at hc
                exact cond_wf hc
              · rw [if_neg (by omega), if_neg (by omega), if_neg (by omega), if_neg (by omega), if_neg (by omega), if_neg (by omega)] at hc
                split at hc
                · simp at hc
                · split at hc
                  · exact cond_wf hc
                  · exact cond_wf hc
            · have : ∀ (r j : Nat) (m : Int) (l : List (List Int)), (kidsGo (fun i m' => colP ts (kid i) (deep + 1) m') r j m l).1 = 0 → ∀ i, j ≤ i → i < j + r → WfP (kid i) := fun r => by
                induction r with
                | zero => intro j m l _ i h1 h2; omega
                | succ r ihr =>
                  intro j m l hz i h1 h2
                  unfold kidsGo at hz
                  split at hz
                  · rename_i h5
                    by_cases hij : i = j
                    · subst hij; exact ih i _ _ h5
                    · exact ihr (j + 1) _ _ hz i (by omega) (by omega)
                  · rename_i h5; exact absurd hz h5
              exact this mm 0 (m + 1) [] h0 i (Nat.zero_le _) (by omega)
        · unfold colP; rw [if_neg h1, if_neg h2, if_pos h3]; simp
theorem colsE_wf {p : PL} (h : (colsE ts p).2 = 0) : WfP p := by
  unfold colsE at h
  split at h
  · simp at h
  · split at h
    · rename_i h1 h2; simp at h; omega
    · split at h
      · rename_i h3; simp at h; omega
      · rename_i h3; exact colP_wf p 1 0 (by simpa using h3)
end
end Go.Proofs.Ytpgpecdiajmgmaa

namespace Go.Proofs.Ytpgpecdiajmgmaa
open Go.RowKit Go.Calm
set_option linter.unusedSimpArgs false
set_option linter.unusedVariables false

abbrev st6x (w : World) (g : Nat) (r : E) : World := (((((w.setCell ⟨g, 2, none⟩ (.int .i64 r.kind)).setCell ⟨g, 3, none⟩ (.int .i64 r.v.k)).setCell ⟨g, 4, none⟩ (.int .i64 r.v.n)).setCell ⟨g, 5, none⟩ (.string r.v.s)).setCell ⟨g, 6, none⟩ (.int .i64 r.col)).setCell ⟨g, 7, none⟩ (.slice r.A r.n r.cap)
theorem st6x_heap (w : World) (g : Nat) (r : E) {q : Nat} (hq : q ≠ g) : (st6x w g r).heap[q]? = w.heap[q]? := by
  unfold st6x
  iterate 6 rw [Below.heap_setCell _ ⟨g, _, none⟩ _ q hq]
theorem st6x_size (w : World) (g : Nat) (r : E) : (st6x w g r).heap.size = w.heap.size := by simp [st6x]
theorem st6x_grow {w0 w : World} {g : Nat} (hg : Grow w0 w) (h : w0.heap.size ≤ g) (r : E) : Grow w0 (st6x w g r) := Grow.set (Grow.set (Grow.set (Grow.set (Grow.set (Grow.set hg h _) h _) h _) h _) h _) h _
theorem st6x_blk {w : World} {g : Nat} {t : TypeId} {a0 a1 a2 a3 a4 a5 a6 a7 a8 a9 a10 : Value} (r : E) (h : Blk w g t #[a0, a1, a2, a3, a4, a5, a6, a7, a8, a9, a10]) : Blk (st6x w g r) g t #[a0, a1, .int .i64 r.kind, .int .i64 r.v.k, .int .i64 r.v.n, .string r.v.s, .int .i64 r.col, .slice r.A r.n r.cap, a8, a9, a10] := by
  have B := (((((h.set 2 (.int .i64 r.kind)).set 3 (.int .i64 r.v.k)).set 4 (.int .i64 r.v.n)).set 5 (.string r.v.s)).set 6 (.int .i64 r.col)).set 7 (.slice r.A r.n r.cap)
  simp only [List.setIfInBounds_toArray, List.set_cons_zero, List.set_cons_succ] at B
  exact B
theorem st6x_far {w : World} {g q : Nat} {t : TypeId} {cs : Array Value} (r : E) (hne : q ≠ g) (h : Blk w g t cs) : Blk (st6x w q r) g t cs := by
  unfold Blk at h ⊢
  rw [st6x_heap w q r (Ne.symm hne)]
  exact h
set_option maxRecDepth 100000 in
set_option maxHeartbeats 16000000 in
theorem join_mk (ts : List (L2 Int)) (At : Option Addr) (nt : Nat) (k n : Int) (y : E) (xs : XsS) (ag : AgS) (A : Option Addr) (m cap : Nat) (kid : Nat → PL) (ih : ∀ i, i < m → PushC ts At nt (kid i)) : JoinC ts At nt (.mk k n y xs ag A m cap kid) := by
  intro S gw x w hW hp hx hP hX hk4 hlit
  have HW := Lib.hid hW
  have HP := Lib.hid hP
  have HX := Lib.hid hX
  have HWp := Lib.hid hp
  have HWx := Lib.hid hx
  have IH := Lib.hid ih
  have HL := Lib.hid hlit
  have c0 := hW.c
  obtain rfl : k = 4 := hk4
  obtain ⟨hm, hk0, hwy, hwk⟩ : (m : Int) = kidsP 4 ∧ 0 ≤ kidsP 4 ∧ (4 = 2 ∨ ((4 : Int) ≤ 4 ∧ (4 : Int) ≤ 7) → WfE y) ∧ ∀ i, i < m → WfP (kid i) := hp
  have hkc : ∀ i, i < m → ∃ g o, A = some ⟨g, o, none⟩ ∧ PCells w g (o + i * 11) (kid i) := by
    cases hP.px with
    | mk hm hc => exact hc
  have HM := Lib.hid (show m = 2 by unfold kidsP at hm; simp at hm; omega)
  have Hwk := Lib.hid hwk
  have Hkc := Lib.hid hkc
  unfold E.val PL.val
  simp only [PL.k, PL.n, PL.x, PL.xs, PL.ag, PL.A, PL.m, PL.cap]
  clear hW hx hP hX ih hm hk0 hwy hwk hkc hlit
  go_enter Try.func94, Try.ntmps94
  go_upto_region 1 with fail
  refine wp_forget (fun X => Blk X w.heap.size 27 #[.int .i64 x.kind, .int .i64 x.v.k, .int .i64 x.v.n, .string x.v.s, .int .i64 x.col, .slice x.A x.n x.cap] ∧ Blk X (w.heap.size + 1) 31 #[.int .i64 4, .int .i64 n, .int .i64 y.kind, .int .i64 y.v.k, .int .i64 y.v.n, .string y.v.s, .int .i64 y.col, .slice y.A y.n y.cap, .slice xs.A xs.l.length xs.c, .slice ag.A ag.l.length ag.c, .slice A m cap] ∧ Blk X (w.heap.size + 1 + 1) 31 #[.int .i64 0, .int .i64 0, .int .i64 0, .int .i64 0, .int .i64 0, .string ⟨#[]⟩, .int .i64 0, .slice none 0 0, .slice none 0 0, .slice none 0 0, .slice none 0 0] ∧ Grow w X) ⟨((Blk.new _ _ _).al _).al _, (Blk.new' _ _ _ (by simp)).al _, Blk.new' _ _ _ (by simp), (by repeat (first | (with_reducible exact Grow.refl _) | (with_reducible assumption) | (with_reducible refine Grow.set ?_ (by first | (simp; done) | (simp; omega)) _) | (with_reducible refine Grow.al ?_ _) | (with_reducible refine Grow.drew ?_) | (with_reducible refine Grow.drewN ?_ _) | (with_reducible refine Grow.trans ?_ (by assumption))))⟩ ?_
  rintro X ⟨BX0, BP0, BR0, G⟩
  obtain ⟨gx, hgx⟩ : ∃ gx, w.heap.size = gx := ⟨_, rfl⟩
  have hge : w.heap.size ≤ gx := by omega
  rw [hgx] at BX0 BP0 BR0 ⊢
  have BX := Lib.hid BX0
  have BP := Lib.hid BP0
  have BR := Lib.hid BR0
  have HGE := Lib.hid hge
  have sz := BR0.lt
  have SZ := Lib.hid sz
  have n1 : gx ≠ gx + 1 := by omega
  have n2 : gx ≠ gx + 1 + 1 := by omega
  have n3 : gx + 1 ≠ gx + 1 + 1 := by omega
  have lx := BX0.lt
  have lp := BP0.lt
  obtain ⟨bx, fx⟩ := BX0.rules
  obtain ⟨bp, fp⟩ := BP0.rules
  have NN := Lib.hid (And.intro n1 (And.intro n2 n3))
  have c1 := G.cell c0
  have p0 : PXs (Sown S w.heap.size gx) X (.mk 4 n y xs ag A m cap kid) := (HP.out.mono (T := Sown S w.heap.size gx) (fun q hq hs => .inl ⟨hs, hq⟩)).grow G
  have x0 : EXs (Sown S w.heap.size gx) X x := (HX.out.mono (T := Sown S w.heap.size gx) (fun q hq hs => .inl ⟨hs, hq⟩)).grow G
  have P0 := Lib.hid p0
  have X0 := Lib.hid x0
  have Ts : ∀ (W : World), X.heap.size ≤ W.heap.size → ∀ q, Snew (Sown S w.heap.size gx) W.heap.size q → Sown S w.heap.size gx q := fun W hW q hq => by
    rcases hq with h | h
    · exact h
    · exact .inr ⟨by omega, by omega, by omega, by omega⟩
  have TS := Lib.hid Ts
  have cp := fun i (hi : i < m) W (h : Grow X W) => (IH.out i hi (Sown S w.heap.size gx) gw x W (HW.out.grow (G.trans h)) (Hwk.out i hi) HWx.out ((P0.out.kid hi).grow h) (X0.out.grow h)).mono (fun en w' ⟨r, h1, h2, h3, h4⟩ => (⟨r, h1, h2.mono (fun q _ hq => Ts W h.size q hq), h3, h4⟩ : ∃ r : PL, en = Ending.returned (pV r) ∧ PXs (Sown S w.heap.size gx) w' r ∧ nP r = pushP (tabs ts) (nP (kid i)) (nE x) ∧ Grow W w'))
  have cf := fun W (h : Grow X W) => (filterS_any (Sown S w.heap.size gx) x (.mk 4 n y xs ag A m cap kid) W (X0.out.grow h) (P0.out.grow h)).mono (fun en w' ⟨r, h1, h2, h3, h4⟩ => (⟨r, h1, h2.mono (fun q _ hq => Ts W h.size q hq), h3, h4⟩ : ∃ r : PL, en = Ending.returned (pV r) ∧ PXs (Sown S w.heap.size gx) w' r ∧ nP r = fltP (nE x) (nP (.mk 4 n y xs ag A m cap kid)) ∧ Grow W w'))
  unfold E.val at cp cf
  unfold PL.val at cp cf
  simp only [PL.k, PL.n, PL.x, PL.xs, PL.ag, PL.A, PL.m, PL.cap] at cf
  have CP := Lib.hid cp
  have CF := Lib.hid cf
  clear BX0 BP0 BR0 hge sz p0 x0 Ts cp cf
  obtain ⟨ga, oa, hA, K0⟩ := Hkc.out 0 (by have := HM.out; omega)
  subst hA
  simp only [Nat.zero_mul, Nat.add_zero] at K0
  have K0 := Lib.hid K0
  obtain ⟨ga', oa', hA, K1⟩ := Hkc.out 1 (by have := HM.out; omega)
  cases hA
  simp only [Nat.one_mul] at K1
  have K1 := Lib.hid K1
  have h0m : 0 < m := by have := HM.out; omega
  have h0i : (0 : Int) < (m : Int) := by omega
  obtain ⟨CE, hCE⟩ : ∃ CE, colsE (tabs ts) (kid 0) = CE := ⟨_, rfl⟩
  have lCE : CE.1.length ≤ 8 := by rw [← hCE]; exact colsE_len _ _
  have cc := fun W (h : Grow X W) => wcols_any ts At nt gw (kid 0) W (HW.out.grow (G.trans h)) ((P0.out.kid h0m).grow h).px
  rw [hCE] at cc
  unfold PL.val at cc
  have CC := Lib.hid cc
  have HCE := Lib.hid hCE
  have LCE := Lib.hid lCE
  clear cc hCE lCE
  obtain ⟨k0, k1, k2, k3, k4, k5, k6, k7, k8, k9, k10⟩ := K0.out.grow G
  go_upto_region 3 with (go_at_call 92; ((with_reducible refine (CC.out _ (by repeat (first | (with_reducible exact Grow.refl _) | (with_reducible assumption) | (with_reducible refine Grow.set ?_ (by first | (simp; done) | (simp; omega)) _) | (with_reducible refine Grow.al ?_ _) | (with_reducible refine Grow.drew ?_) | (with_reducible refine Grow.drewN ?_ _) | (with_reducible refine Grow.trans ?_ (by assumption))))).mono ?_); rintro e w7 ⟨B7, c7, rfl, hi7, hg7⟩; have G7 : Grow X w7 := Grow.trans (by repeat (first | (with_reducible exact Grow.refl _) | (with_reducible assumption) | (with_reducible refine Grow.set ?_ (by first | (simp; done) | (simp; omega)) _) | (with_reducible refine Grow.al ?_ _) | (with_reducible refine Grow.drew ?_) | (with_reducible refine Grow.drewN ?_ _) | (with_reducible refine Grow.trans ?_ (by assumption)))) hg7; obtain ⟨bx7, fx7⟩ := (BX.out.grow G7).rules; obtain ⟨bp7, fp7⟩ := (BP.out.grow G7).rules; have lx7 := (BX.out.grow G7).lt; have lp7 := (BP.out.grow G7).lt))
  refine wp_forget (fun Y => ∃ w0, Grow X w0 ∧ LRn w0 Y (w7.heap.size + 1) w7.heap.size (w7.heap.size + 1 + 1) (CE.1.length : Int) true true ∧ X.heap.size ≤ w7.heap.size) ⟨w7.alloc (.cells #[.int .i64 (CE.1.length : Int)] 3), G7.al _, ⟨(Blk.new' _ _ _ (by simp)).al _, Blk.new' _ _ _ (by simp), (Blk.new w7 _ _).cells (i := 0) rfl, by simp, by simp, by omega, (by repeat (first | (with_reducible exact Grow.refl _) | (with_reducible assumption) | (with_reducible refine Grow.set ?_ (by first | (simp; done) | (simp; omega)) _) | (with_reducible refine Grow.al ?_ _) | (with_reducible refine Grow.drew ?_) | (with_reducible refine Grow.drewN ?_ _) | (with_reducible refine Grow.trans ?_ (by assumption))))⟩, G7.size⟩ ?_
  rintro Y ⟨w0, G0, LR, hs7⟩
  obtain ⟨gn, hgn⟩ : ∃ gn, w7.heap.size = gn := ⟨_, rfl⟩
  rw [hgn] at LR hs7 ⊢
  clear bx7 fx7 bp7 fp7 lx7 lp7 hi7 hg7 G7 k0 k1 k2 k3 k4 k5 k6 k7 k8 k9 k10 bx fx bp fp lx lp hgn CC
  obtain ⟨ba, hba⟩ : ∃ ba, colsAll (fun c => decide (c < (CE.1.length : Int))) x = ba := ⟨_, rfl⟩
  obtain ⟨bb, hbb⟩ : ∃ bb, colsAll (fun c => decide ((CE.1.length : Int) ≤ c)) x = bb := ⟨_, rfl⟩
  have HAB := Lib.hid (And.intro hba hbb)
  have cl := columns_any w0 (gn + 1) gn (gn + 1 + 1) (CE.1.length : Int) x gx 0 true true Y (X0.out.grow G0).ex ⟨(BX.out.grow G0).cells (i := 0) rfl, (BX.out.grow G0).cells (i := 1) rfl, (BX.out.grow G0).cells (i := 2) rfl, (BX.out.grow G0).cells (i := 3) rfl, (BX.out.grow G0).cells (i := 4) rfl, (BX.out.grow G0).cells (i := 5) rfl⟩ LR
  rw [hba, hbb] at cl
  have GY := G0.trans LR.g
  have bl0 := LR.bl.lt
  clear LR hba hbb
  go_upto_region 4 with (go_at_call 124; ((with_reducible refine cl.mono ?_); rintro e w9 ⟨rfl, lr9⟩))
  simp only [Bool.true_and] at lr9
  have g9 := G0.trans lr9.g
  obtain ⟨b1, f1⟩ := lr9.bl.rules
  obtain ⟨b2, f2⟩ := lr9.br.rules
  have cn9 := lr9.g.cell lr9.cn
  refine wp_forget (fun Z => Grow X Z ∧ (∀ i, Z.cell? ⟨gn + 1, i, none⟩ = #[Value.bool ba][i]?) ∧ (∀ i, Z.cell? ⟨gn + 1 + 1, i, none⟩ = #[Value.bool bb][i]?) ∧ Z.cell? ⟨gn, 0, none⟩ = some (.int .i64 (CE.1.length : Int))) ⟨g9, b1, b2, cn9⟩ ?_
  clear lr9 g9 b1 f1 b2 f2 cn9 GY cl bl0 G0
  rintro Z ⟨GZ, b1, b2, cn9⟩
  cases ba
  · cases bb
    · obtain ⟨CE2, hCE2⟩ : ∃ CE, colsE (tabs ts) (.mk 4 n y xs ag (some ⟨ga, oa, none⟩) m cap kid) = CE := ⟨_, rfl⟩
      have lCE2 : CE2.1.length ≤ 8 := by rw [← hCE2]; exact colsE_len _ _
      have cc := fun W (h : Grow X W) => wcols_any ts At nt gw (.mk 4 n y xs ag (some ⟨ga, oa, none⟩) m cap kid) W (HW.out.grow (G.trans h)) ((P0.out).grow h).px
      rw [hCE2] at cc
      have cb := fun (B : Option Addr) (c9 : Nat) W (h : Grow X W) (hi : ISl W B CE2.1) => both_anyE CE2.1 B c9 y x W (by omega) hi ((P0.out.nx.x).grow h).ex (X0.out.grow h).ex
      obtain ⟨bb, hbb⟩ : ∃ bb, decide ((typeE CE2.1 (andE (nE y) (nE x))).2 = 0) = bb := ⟨_, rfl⟩
      rw [hbb] at cb
      unfold E.val at cb
      unfold PL.val at cc
      simp only [PL.k, PL.n, PL.x, PL.xs, PL.ag, PL.A, PL.m, PL.cap] at cc
      have CC := Lib.hid cc
      have CB := Lib.hid cb
      have HCE2 := Lib.hid (And.intro hCE2 hbb)
      clear cc cb hCE2 hbb
      have Y0 := Lib.hid (P0.out.nx.x)
      obtain ⟨bx, fx⟩ := (BX.out.grow GZ).rules
      obtain ⟨bp, fp⟩ := (BP.out.grow GZ).rules
      go_wp2
      go_cut [10, 11] (fun a b wx => ∃ (gz : Nat) (z : E), a = .pointer (some ⟨gz, 0, none⟩) ∧ b = .bool bb ∧ Blk wx gz 27 (eC z) ∧ EXs (Sown S w.heap.size gx) wx z ∧ nE z = andE (nE y) (nE x) ∧ Grow X wx)
      case first =>
        apply wp_hang 11 9 (by kernel_rfl) (by kernel_rfl) (still_extract rfl rfl rfl)
        case h' =>
          intro Q0 hQ0
          simp only [List.take_succ_cons, List.take_zero]
          repeat (
            first
              | (apply calm_p rfl; case h1 => (intro w1 hw1 hF K hK; obtain ⟨bx, fx⟩ := (BX.out.grow (GZ.trans hw1)).rules; obtain ⟨bp, fp⟩ := (BP.out.grow (GZ.trans hw1)).rules; go_simp; first | exact hK _ (Grow.refl _) | fail))
              | (apply calm_y rfl rfl rfl; case h1 => (intro w1 hw1 hF K hK; obtain ⟨bx, fx⟩ := (BX.out.grow (GZ.trans hw1)).rules; obtain ⟨bp, fp⟩ := (BP.out.grow (GZ.trans hw1)).rules; go_simp; first | exact hK _ (Grow.refl _) | fail))
              | apply calm_n rfl rfl rfl rfl
            intro K hK
            go_simp
            apply hK
            clear hK K)
          apply calm_fp (PSI CE2.1) rfl
          case h1 =>
            intro w1 hw1 hF K hK
            obtain ⟨bx, fx⟩ := (BX.out.grow (GZ.trans hw1)).rules 
            obtain ⟨bp, fp⟩ := (BP.out.grow (GZ.trans hw1)).rules
            go_simp
            go_at_call 92
            refine (CC.out w1 (GZ.trans hw1)).mono ?_
            rintro en w' ⟨B7, c7, rfl, hi7, hg'⟩
            exact ⟨_, rfl, hK _ _ hg' ⟨B7, c7, rfl, hi7⟩⟩
          intro v35 K hK
          go_simp
          apply hK
          clear hK K
          repeat (
            first
              | (apply calm_p rfl; case h1 => (intro w1 hw1 hF K hK; obtain ⟨bx, fx⟩ := (BX.out.grow (GZ.trans hw1)).rules; obtain ⟨bp, fp⟩ := (BP.out.grow (GZ.trans hw1)).rules; go_simp; first | exact hK _ (Grow.refl _) | fail))
              | (apply calm_y rfl rfl rfl; case h1 => (intro w1 hw1 hF K hK; obtain ⟨bx, fx⟩ := (BX.out.grow (GZ.trans hw1)).rules; obtain ⟨bp, fp⟩ := (BP.out.grow (GZ.trans hw1)).rules; go_simp; first | exact hK _ (Grow.refl _) | fail))
              | apply calm_n rfl rfl rfl rfl
            intro K hK
            go_simp
            apply hK
            clear hK K)
          apply calm_fp (VA y x bb X.heap.size) rfl
          case h1 =>
            intro w1 hw1 hF K hK
            obtain ⟨B7, c7, hv, hi7⟩ := hF _ (List.mem_cons_self ..) ⟨_, rfl, by decide⟩
            subst hv
            go_simp
            go_at_call 91
            refine (CB.out B7 c7 w1 (GZ.trans hw1) hi7).mono ?_
            rintro en w' ⟨g, rfl, hge9, hb9, hg'⟩
            exact ⟨_, rfl, hK _ _ hg' ⟨g, rfl, Nat.le_trans (GZ.trans hw1).size hge9, hb9⟩⟩
          intro v39 K hK
          go_simp
          apply hK
          clear hK K
          apply calm_fp (VA y x bb X.heap.size) rfl
          case h1 =>
            intro w1 hw1 hF K hK
            have D9 := hF _ (List.mem_cons_self ..) ⟨_, rfl, by decide⟩
            go_simp
            exact hK _ _ (Grow.refl _) D9
          intro v29 K hK
          go_simp
          apply hK
          clear hK K
          apply calm_fp (VA1 y x X.heap.size) rfl
          case h1 =>
            intro w1 hw1 hF K hK
            obtain ⟨g, hv, hg1, hb1⟩ := hF _ (List.mem_cons_self ..) ⟨_, rfl, by decide⟩
            subst hv
            go_simp
            exact hK _ _ (Grow.refl _) ⟨g, rfl, hg1, hb1⟩
          intro v40 K hK
          go_simp
          apply hK
          clear hK K
          apply calm_fp (VBo bb) rfl
          case h1 =>
            intro w1 hw1 hF K hK
            obtain ⟨g, hv, hg1, hb1⟩ := hF _ (List.mem_cons_of_mem _ (List.mem_cons_self ..)) ⟨_, rfl, by decide⟩
            subst hv
            go_simp
            exact hK _ _ (Grow.refl _) rfl
          intro v41 K hK
          go_simp
          apply hK
          clear hK K
          apply calm_fp (VZ X.heap.size) rfl
          case h1 =>
            intro w1 hw1 hF K hK
            go_simp
            exact hK _ _ ((Grow.refl _).al _) ⟨w1.heap.size, rfl, (GZ.trans hw1).size, Blk.new _ _ _⟩
          intro v7 K hK
          go_simp
          apply hK
          clear hK K
          refine calm_nil ?_
          intro w1 hw1 hF
          apply hQ0
          clear hQ0
          simp only [List.drop_succ_cons, List.drop_zero]
          obtain ⟨gz, hv, hgz, BZ⟩ := hF _ (List.mem_cons_self ..)
          subst hv
          have hv := hF _ (List.mem_cons_of_mem _ (List.mem_cons_self ..))
          unfold VBo at hv
          subst hv
          obtain ⟨g, hv, hg1, hb1⟩ := hF _ (List.mem_cons_of_mem _ (List.mem_cons_of_mem _ (List.mem_cons_self ..)))
          subst hv
          clear hF
          have hne : g ≠ gz := fun h => by
            subst h
            have e := (hb1.cell 11).symm.trans (BZ.cell 11)
            simp at e
          have hw1 := GZ.trans hw1
          have hz1 : EXs (fun q => (Sown S w.heap.size gx q ∧ q < X.heap.size) ∨ q = g) w1 (twoK 4 y x (some ⟨g, 0, none⟩)) := fun W a => ex_two y x (blk_agr hb1 a (.inr rfl)) (((Y0.out.mono (T := fun q => Sown S w.heap.size gx q ∧ q < X.heap.size) (fun q a b => ⟨b, a⟩)).grow hw1) W (a.mono (fun q _ h => .inl h))) (((X0.out.mono (T := fun q => Sown S w.heap.size gx q ∧ q < X.heap.size) (fun q a b => ⟨b, a⟩)).grow hw1) W (a.mono (fun q _ h => .inl h))) ⟨by decide, by decide⟩
          have ZZ := Lib.hid (zput (T := Sown S w.heap.size gx) hz1 (Grow.refl w1) BZ (fun q _ hq => by
            rcases hq with ⟨h1, h2⟩ | h
            · exact ⟨h1, by omega⟩
            · subst h; exact ⟨TS.out X (Nat.le_refl _) _ (.inr hg1), hne⟩) hw1 hgz)
          have lgz := BZ.lt
          obtain ⟨bz, fz⟩ := BZ.rules
          clear hz1 hb1 hne hg1 hgz BZ b1 b2 cn9
          go_wp2_with fail
          go_meet
          exact ⟨gz, _, rfl, rfl, ZZ.out.1, ZZ.out.2.1, by rw [nE_twoK]; rfl, ZZ.out.2.2⟩
        case hp' => exact ⟨PSI.pers _, VA.pers _ _ _ _, VA.pers _ _ _ _, VA1.pers _ _ _, VBo.pers _, VZ.pers _, trivial⟩
      case rest =>
        obtain ⟨gz, z, rfl, rfl, BZ, hzY, hnz, GY⟩ := hcut
        rename World => Y
        have BZ' := Lib.hid BZ
        have HZ := Lib.hid (And.intro hzY hnz)
        clear BZ hzY hnz b1 b2 cn9
        cases bb
        · obtain ⟨bx, fx⟩ := (BX.out.grow GY).rules
          obtain ⟨bp, fp⟩ := (BP.out.grow GY).rules
          go_wp2_with (go_at_call 93; ((with_reducible refine (CF.out _ GY).mono ?_); rintro en w5 ⟨r, rfl, hr, hn, hg5⟩; obtain ⟨br, fr⟩ := ((BR.out.grow GY).grow hg5).rules; have lr := ((BR.out.grow GY).grow hg5).lt))
          have B3 := st11_blk r (BR.out.grow (GY.trans hg5))
          simp only [st11, PL.k, PL.n, PL.x, PL.xs, PL.ag, PL.A, PL.m, PL.cap] at B3
          obtain ⟨b3, f3⟩ := B3.rules
          refine bodyPost_ret (v := (r).val) (by simp [results, Try.results94, go_sem, b3, PL.val, PL.k, PL.n, PL.x, PL.xs, PL.ag, PL.A, PL.m, PL.cap]) rfl ?_
          exact RP.put (r := r) hr (hn.trans (by rw [push_4 HL.out HM.out, HCE.out, if_neg (by simp [HAB.out.1]), if_neg (by simp [HAB.out.2]), HCE2.out.1, if_neg (of_decide_eq_false HCE2.out.2)])) (G.trans (GY.trans hg5)) HGE.out
        · obtain ⟨bz, fz⟩ := (BZ'.out).rules
          have lz := BZ'.out.lt
          obtain ⟨bp, fp⟩ := (BP.out.grow GY).rules
          have lp := (BP.out.grow GY).lt
          go_upto_region 14 with fail
          have n12 := NN.out.2.2
          refine wp_forget (fun V => Blk V (gx + 1) 31 #[.int .i64 4, .int .i64 n, .int .i64 z.kind, .int .i64 z.v.k, .int .i64 z.v.n, .string z.v.s, .int .i64 z.col, .slice z.A z.n z.cap, .slice xs.A xs.l.length xs.c, .slice ag.A ag.l.length ag.c, .slice (some ⟨ga, oa, none⟩) m cap] ∧ Blk V (gx + 1 + 1) 31 #[.int .i64 0, .int .i64 0, .int .i64 0, .int .i64 0, .int .i64 0, .string ⟨#[]⟩, .int .i64 0, .slice none 0 0, .slice none 0 0, .slice none 0 0, .slice none 0 0] ∧ PXs (Sown S w.heap.size gx) V (.mk 4 n z xs ag (some ⟨ga, oa, none⟩) m cap kid) ∧ Grow w V) ⟨st6x_blk z (BP.out.grow GY), st6x_far z n12 (BR.out.grow GY), (pxs_x (P0.out.grow GY) HZ.out.1).move (fun q hq _ => st6x_heap Y (gx + 1) z (by have := HGE.out; rcases hq with h | h; omega; exact h.2.2.1)) (by rw [st6x_size]; exact Nat.le_refl _), st6x_grow (G.trans GY) (by have := HGE.out; omega) z⟩ ?_
          clear bz fz lz bp fp lp n12
          rintro V ⟨BPV, BRV, hrr, GV⟩
          have nrr : nP (.mk 4 n z xs ag (some ⟨ga, oa, none⟩) m cap kid) = pushP (tabs ts) (nP (.mk 4 n y xs ag (some ⟨ga, oa, none⟩) m cap kid)) (nE x) := by
            have e : nP (.mk 4 n z xs ag (some ⟨ga, oa, none⟩) m cap kid) = mkP 4 n (nE z) (xs.l.map nE) (ag.l.map nA) m (fun i => nP (kid i)) := rfl
            rw [e, push_4 HL.out HM.out, HCE.out, if_neg (by simp [HAB.out.1]), if_neg (by simp [HAB.out.2]), HCE2.out.1, if_pos (of_decide_eq_true HCE2.out.2), HZ.out.2, HM.out]
          have B3 := Lib.hid (st11_blk (.mk 4 n z xs ag (some ⟨ga, oa, none⟩) m cap kid) BRV)
          have RR := Lib.hid (And.intro hrr (And.intro nrr GV))
          obtain ⟨bp, fp⟩ := BPV.rules
          have lp := BPV.lt
          obtain ⟨br, fr⟩ := BRV.rules
          have lr := BRV.lt
          clear hrr nrr GV BPV BRV
          go_wp2
          have B3 := B3.out
          simp only [st11, PL.k, PL.n, PL.x, PL.xs, PL.ag, PL.A, PL.m, PL.cap] at B3
          obtain ⟨b3, f3⟩ := B3.rules
          refine bodyPost_ret (v := (PL.mk 4 n z xs ag (some ⟨ga, oa, none⟩) m cap kid).val) (by simp [results, Try.results94, go_sem, b3, PL.val, PL.k, PL.n, PL.x, PL.xs, PL.ag, PL.A, PL.m, PL.cap]) rfl ?_
          exact RP.put (r := PL.mk 4 n z xs ag (some ⟨ga, oa, none⟩) m cap kid) RR.out.1 RR.out.2.1 RR.out.2.2 HGE.out
    · obtain ⟨nn, hnn⟩ : ∃ nn : Int, (CE.1.length : Int) = nn := ⟨_, rfl⟩
      have n8 : 0 ≤ nn ∧ nn ≤ 8 := by have := LCE.out; omega
      have hneg : IntKind.i64.wrap (-nn) = -nn := by rw [IntKind.wrap_i64]; omega
      rw [hnn] at cn9
      have cm := fun W (h : Grow X W) => moved_any (-nn) (by omega) (by omega) x (Sown S w.heap.size gx) W HWx.out (X0.out.grow h) (by rw [Int.neg_neg, ← hnn]; exact HAB.out.2)
      unfold ME E.val at cm
      have CM := Lib.hid cm
      have wfm : ∀ r : E, nE r = movE (-nn) x → WfE r := fun r hr => (wfE_nE r).1 (by rw [hr]; exact wfE_mov nn n8.1 x HWx.out (by rw [← hnn]; exact HAB.out.2))
      have WFM := Lib.hid wfm
      have cq := fun (x' : E) (hx' : nE x' = movE (-nn) x) W (h : Grow X W) (hE : EXs (Sown S w.heap.size gx) W x') => (IH.out 1 (by have := HM.out; omega) (Sown S w.heap.size gx) gw x' W (HW.out.grow (G.trans h)) (Hwk.out 1 (by have := HM.out; omega)) (wfm x' hx') ((P0.out.kid (by have := HM.out; omega)).grow h) hE).mono (fun en w' ⟨r, h1, h2, h3, h4⟩ => (⟨r, h1, h2.mono (fun q _ hq => TS.out W h.size q hq), h3, h4⟩ : ∃ r : PL, en = Ending.returned (pV r) ∧ PXs (Sown S w.heap.size gx) w' r ∧ nP r = pushP (tabs ts) (nP (kid 1)) (nE x') ∧ Grow W w'))
      unfold E.val PL.val at cq
      have CQ := Lib.hid cq
      have N8 := Lib.hid (And.intro hnn n8)
      clear cm wfm cq hnn n8
      obtain ⟨bx, fx⟩ := (BX.out.grow GZ).rules
      obtain ⟨bp, fp⟩ := (BP.out.grow GZ).rules
      have h1i : (1 : Int) < (m : Int) := by have := HM.out; omega
      go_wp2
      apply wp_region_calm 16 (by kernel_rfl) (by kernel_rfl)
      case h' =>
        intro Q0 hQ0
        simp only [List.take_succ_cons, List.take_zero]
        repeat (
          first
            | (apply calm_p rfl; case h1 => (intro w1 hw1 hF K hK; obtain ⟨bx, fx⟩ := (BX.out.grow (GZ.trans hw1)).rules; obtain ⟨bp, fp⟩ := (BP.out.grow (GZ.trans hw1)).rules; obtain ⟨k0, k1, k2, k3, k4, k5, k6, k7, k8, k9, k10⟩ := K0.out.grow (G.trans (GZ.trans hw1)); obtain ⟨j0, j1, j2, j3, j4, j5, j6, j7, j8, j9, j10⟩ := K1.out.grow (G.trans (GZ.trans hw1)); have cn2 := hw1.cell cn9; go_simp; first | exact hK _ (Grow.refl _) | fail))
            | (apply calm_y rfl rfl rfl; case h1 => (intro w1 hw1 hF K hK; obtain ⟨bx, fx⟩ := (BX.out.grow (GZ.trans hw1)).rules; obtain ⟨bp, fp⟩ := (BP.out.grow (GZ.trans hw1)).rules; obtain ⟨k0, k1, k2, k3, k4, k5, k6, k7, k8, k9, k10⟩ := K0.out.grow (G.trans (GZ.trans hw1)); obtain ⟨j0, j1, j2, j3, j4, j5, j6, j7, j8, j9, j10⟩ := K1.out.grow (G.trans (GZ.trans hw1)); have cn2 := hw1.cell cn9; go_simp; first | exact hK _ (Grow.refl _) | fail))
            | apply calm_n rfl rfl rfl rfl
          intro K hK
          go_simp
          apply hK
          clear hK K)
        apply calm_fp (VE (Sown S w.heap.size gx) (movE (-nn) x)) rfl
        case h1 =>
          intro w1 hw1 hF K hK
          obtain ⟨bx, fx⟩ := (BX.out.grow (GZ.trans hw1)).rules 
          obtain ⟨bp, fp⟩ := (BP.out.grow (GZ.trans hw1)).rules 
          obtain ⟨k0, k1, k2, k3, k4, k5, k6, k7, k8, k9, k10⟩ := K0.out.grow (G.trans (GZ.trans hw1)) 
          obtain ⟨j0, j1, j2, j3, j4, j5, j6, j7, j8, j9, j10⟩ := K1.out.grow (G.trans (GZ.trans hw1)) 
          have cn2 := hw1.cell cn9
          go_simp
          go_at_call 126
          refine (CM.out w1 (GZ.trans hw1)).mono ?_
          rintro en w' ⟨r, rfl, hr, hn, hg'⟩
          exact ⟨_, rfl, hK _ _ hg' ⟨r, rfl, hr.mono (fun q _ hq => TS.out w1 (GZ.trans hw1).size q hq), hn⟩⟩
        intro v47 K hK
        go_simp
        apply hK
        clear hK K
        repeat (
          first
            | (apply calm_p rfl; case h1 => (intro w1 hw1 hF K hK; obtain ⟨bx, fx⟩ := (BX.out.grow (GZ.trans hw1)).rules; obtain ⟨bp, fp⟩ := (BP.out.grow (GZ.trans hw1)).rules; obtain ⟨k0, k1, k2, k3, k4, k5, k6, k7, k8, k9, k10⟩ := K0.out.grow (G.trans (GZ.trans hw1)); obtain ⟨j0, j1, j2, j3, j4, j5, j6, j7, j8, j9, j10⟩ := K1.out.grow (G.trans (GZ.trans hw1)); have cn2 := hw1.cell cn9; go_simp; first | exact hK _ (Grow.refl _) | fail))
            | (apply calm_y rfl rfl rfl; case h1 => (intro w1 hw1 hF K hK; obtain ⟨bx, fx⟩ := (BX.out.grow (GZ.trans hw1)).rules; obtain ⟨bp, fp⟩ := (BP.out.grow (GZ.trans hw1)).rules; obtain ⟨k0, k1, k2, k3, k4, k5, k6, k7, k8, k9, k10⟩ := K0.out.grow (G.trans (GZ.trans hw1)); obtain ⟨j0, j1, j2, j3, j4, j5, j6, j7, j8, j9, j10⟩ := K1.out.grow (G.trans (GZ.trans hw1)); have cn2 := hw1.cell cn9; go_simp; first | exact hK _ (Grow.refl _) | fail))
            | apply calm_n rfl rfl rfl rfl
          intro K hK
          go_simp
          apply hK
          clear hK K)
        apply calm_fp (VP (Sown S w.heap.size gx) (pushP (tabs ts) (nP (kid 1)) (movE (-nn) x))) rfl
        case h1 =>
          intro w1 hw1 hF K hK
          obtain ⟨r0, hv, hr, hn⟩ := hF _ (List.mem_cons_self ..) ⟨_, rfl, by decide⟩
          subst hv
          go_simp
          go_at_call 54
          refine (CQ.out r0 hn w1 (GZ.trans hw1) hr).mono ?_
          rintro en w' ⟨r, rfl, hr', hn', hg'⟩
          exact ⟨_, rfl, hK _ _ hg' ⟨r, rfl, hr', hn'.trans (by rw [hn])⟩⟩
        intro v52 K hK
        go_simp
        apply hK
        clear hK K
        apply calm_fp (VK2 (Sown S w.heap.size gx) (nP (kid 0)) (pushP (tabs ts) (nP (kid 1)) (movE (-nn) x))) rfl
        case h1 =>
          intro w1 hw1 hF K hK
          obtain ⟨r, hv, hr, hn⟩ := hF _ (List.mem_cons_self ..) ⟨_, rfl, by decide⟩
          subst hv
          go_simp
          exact hK _ _ ((Grow.refl _).al _) ⟨w1.heap.size, kid 0, r, rfl, (.inr ⟨by have := HGE.out; have := SZ.out; have := GZ.size; have := hw1.size; omega, by have := SZ.out; have := GZ.size; have := hw1.size; omega, by have := SZ.out; have := GZ.size; have := hw1.size; omega, by have := SZ.out; have := GZ.size; have := hw1.size; omega⟩), Blk.new _ _ _, (P0.out.kid (by have := HM.out; omega)).grow ((GZ.trans hw1).al _), hr.grow ((Grow.refl _).al _), rfl, hn⟩
        intro v53 K hK
        go_simp
        apply hK
        clear hK K
        repeat (
          first
            | (apply calm_p rfl; case h1 => (intro w1 hw1 hF K hK; obtain ⟨bx, fx⟩ := (BX.out.grow (GZ.trans hw1)).rules; obtain ⟨bp, fp⟩ := (BP.out.grow (GZ.trans hw1)).rules; go_simp; first | exact hK _ (Grow.refl _) | fail))
            | (apply calm_y rfl rfl rfl; case h1 => (intro w1 hw1 hF K hK; obtain ⟨bx, fx⟩ := (BX.out.grow (GZ.trans hw1)).rules; obtain ⟨bp, fp⟩ := (BP.out.grow (GZ.trans hw1)).rules; go_simp; first | exact hK _ (Grow.refl _) | fail))
            | apply calm_n rfl rfl rfl rfl
          intro K hK
          go_simp
          apply hK
          clear hK K)
        refine calm_nil ?_
        intro w1 hw1 hF
        apply hQ0
        clear hQ0
        simp only [List.drop_succ_cons, List.drop_zero]
        obtain ⟨g2, r, r', hv, hT, hB, hr, hr', hn, hn'⟩ := hF _ (List.mem_cons_self ..)
        subst hv
        clear hF
        have GW1 := GZ.trans hw1
        obtain ⟨br, fr⟩ := (BR.out.grow GW1).rules
        have lr := (BR.out.grow GW1).lt
        obtain ⟨bp, fp⟩ := (BP.out.grow GW1).rules
        have lp := (BP.out.grow GW1).lt
        go_wp2
        have hh : ∀ q, q ≠ gx + 1 → (w1.setCell ⟨gx + 1, 10, none⟩ (.slice (some ⟨g2, 0, none⟩) 2 2)).heap[q]? = w1.heap[q]? := fun q hq => Below.heap_setCell w1 ⟨gx + 1, 10, none⟩ _ q hq
        have ag9 : Agr (Sown S w.heap.size gx) w1 (w1.setCell ⟨gx + 1, 10, none⟩ (.slice (some ⟨g2, 0, none⟩) 2 2)) := fun q hq _ => hh q (by have := HGE.out; rcases hq with h | h; omega; exact h.2.2.1)
        have hrr : PXs (Sown S w.heap.size gx) (w1.setCell ⟨gx + 1, 10, none⟩ (.slice (some ⟨g2, 0, none⟩) 2 2)) (two2 4 n y xs ag g2 2 r r') := (pxs_two 2 hB hT ((P0.out.nx).grow GW1) hr hr').move ag9 (by simp)
        have nrr : nP (two2 4 n y xs ag g2 2 r r') = pushP (tabs ts) (nP (.mk 4 n y xs ag (some ⟨ga, oa, none⟩) m cap kid)) (nE x) := by rw [nP_two, hn, hn', push_4 HL.out HM.out, HCE.out, if_neg (by simp [HAB.out.1]), if_pos HAB.out.2, N8.out.1]
        have BRW : Blk (w1.setCell ⟨gx + 1, 10, none⟩ (.slice (some ⟨g2, 0, none⟩) 2 2)) (gx + 1 + 1) 31 #[.int .i64 0, .int .i64 0, .int .i64 0, .int .i64 0, .int .i64 0, .string ⟨#[]⟩, .int .i64 0, .slice none 0 0, .slice none 0 0, .slice none 0 0, .slice none 0 0] := Blk.other (BR.out.grow GW1) NN.out.2.2 10 _
        have GW : Grow w (w1.setCell ⟨gx + 1, 10, none⟩ (.slice (some ⟨g2, 0, none⟩) 2 2)) := Grow.set (G.trans GW1) (by have := HGE.out; show w.heap.size ≤ gx + 1; omega) _
        have B3 := st11_blk (two2 4 n y xs ag g2 2 r r') BRW
        simp only [st11, two2, PL.k, PL.n, PL.x, PL.xs, PL.ag, PL.A, PL.m, PL.cap] at B3
        obtain ⟨b3, f3⟩ := B3.rules
        refine bodyPost_ret (v := (two2 4 n y xs ag g2 2 r r').val) (by simp [results, Try.results94, go_sem, b3, two2, PL.val, PL.k, PL.n, PL.x, PL.xs, PL.ag, PL.A, PL.m, PL.cap]) rfl ?_
        exact RP.put (r := (two2 4 n y xs ag g2 2 r r')) hrr nrr GW HGE.out
      case hp' => exact ⟨VE.pers _ _, VP.pers _ _, VK2.pers _ _ _, trivial⟩
  · obtain ⟨bx, fx⟩ := (BX.out.grow GZ).rules
    obtain ⟨bp, fp⟩ := (BP.out.grow GZ).rules
    have h1i : (1 : Int) < (m : Int) := by have := HM.out; omega
    go_wp2
    apply wp_region_calm 13 (by kernel_rfl) (by kernel_rfl)
    case h' =>
      intro Q0 hQ0
      simp only [List.take_succ_cons, List.take_zero]
      repeat (
        first
          | (apply calm_p rfl; case h1 => (intro w1 hw1 hF K hK; obtain ⟨bx, fx⟩ := (BX.out.grow (GZ.trans hw1)).rules; obtain ⟨bp, fp⟩ := (BP.out.grow (GZ.trans hw1)).rules; obtain ⟨k0, k1, k2, k3, k4, k5, k6, k7, k8, k9, k10⟩ := K0.out.grow (G.trans (GZ.trans hw1)); obtain ⟨j0, j1, j2, j3, j4, j5, j6, j7, j8, j9, j10⟩ := K1.out.grow (G.trans (GZ.trans hw1)); have cn2 := hw1.cell cn9; go_simp; first | exact hK _ (Grow.refl _) | fail))
          | (apply calm_y rfl rfl rfl; case h1 => (intro w1 hw1 hF K hK; obtain ⟨bx, fx⟩ := (BX.out.grow (GZ.trans hw1)).rules; obtain ⟨bp, fp⟩ := (BP.out.grow (GZ.trans hw1)).rules; obtain ⟨k0, k1, k2, k3, k4, k5, k6, k7, k8, k9, k10⟩ := K0.out.grow (G.trans (GZ.trans hw1)); obtain ⟨j0, j1, j2, j3, j4, j5, j6, j7, j8, j9, j10⟩ := K1.out.grow (G.trans (GZ.trans hw1)); have cn2 := hw1.cell cn9; go_simp; first | exact hK _ (Grow.refl _) | fail))
          | apply calm_n rfl rfl rfl rfl
        intro K hK
        go_simp
        apply hK
        clear hK K)
      apply calm_fp (VP (Sown S w.heap.size gx) (pushP (tabs ts) (nP (kid 0)) (nE x))) rfl
      case h1 =>
        intro w1 hw1 hF K hK
        obtain ⟨bx, fx⟩ := (BX.out.grow (GZ.trans hw1)).rules 
        obtain ⟨bp, fp⟩ := (BP.out.grow (GZ.trans hw1)).rules 
        obtain ⟨k0, k1, k2, k3, k4, k5, k6, k7, k8, k9, k10⟩ := K0.out.grow (G.trans (GZ.trans hw1)) 
        obtain ⟨j0, j1, j2, j3, j4, j5, j6, j7, j8, j9, j10⟩ := K1.out.grow (G.trans (GZ.trans hw1)) 
        have cn2 := hw1.cell cn9
        go_simp
        go_at_call 54
        refine (CP.out 0 (by have := HM.out; omega) w1 (GZ.trans hw1)).mono ?_
        rintro en w' ⟨r, rfl, hr, hn, hg'⟩
        exact ⟨_, rfl, hK _ _ hg' ⟨r, rfl, hr, hn⟩⟩
      intro v29 K hK
      go_simp
      apply hK
      clear hK K
      repeat (
        first
          | (apply calm_p rfl; case h1 => (intro w1 hw1 hF K hK; obtain ⟨bx, fx⟩ := (BX.out.grow (GZ.trans hw1)).rules; obtain ⟨bp, fp⟩ := (BP.out.grow (GZ.trans hw1)).rules; obtain ⟨k0, k1, k2, k3, k4, k5, k6, k7, k8, k9, k10⟩ := K0.out.grow (G.trans (GZ.trans hw1)); obtain ⟨j0, j1, j2, j3, j4, j5, j6, j7, j8, j9, j10⟩ := K1.out.grow (G.trans (GZ.trans hw1)); have cn2 := hw1.cell cn9; go_simp; first | exact hK _ (Grow.refl _) | fail))
          | (apply calm_y rfl rfl rfl; case h1 => (intro w1 hw1 hF K hK; obtain ⟨bx, fx⟩ := (BX.out.grow (GZ.trans hw1)).rules; obtain ⟨bp, fp⟩ := (BP.out.grow (GZ.trans hw1)).rules; obtain ⟨k0, k1, k2, k3, k4, k5, k6, k7, k8, k9, k10⟩ := K0.out.grow (G.trans (GZ.trans hw1)); obtain ⟨j0, j1, j2, j3, j4, j5, j6, j7, j8, j9, j10⟩ := K1.out.grow (G.trans (GZ.trans hw1)); have cn2 := hw1.cell cn9; go_simp; first | exact hK _ (Grow.refl _) | fail))
          | apply calm_n rfl rfl rfl rfl
        intro K hK
        go_simp
        apply hK
        clear hK K)
      apply calm_fp (VK2 (Sown S w.heap.size gx) (pushP (tabs ts) (nP (kid 0)) (nE x)) (nP (kid 1))) rfl
      case h1 =>
        intro w1 hw1 hF K hK
        obtain ⟨r, hv, hr, hn⟩ := hF _ (List.mem_cons_self ..) ⟨_, rfl, by decide⟩
        subst hv
        go_simp
        exact hK _ _ ((Grow.refl _).al _) ⟨w1.heap.size, r, kid 1, rfl, (.inr ⟨by have := HGE.out; have := SZ.out; have := GZ.size; have := hw1.size; omega, by have := SZ.out; have := GZ.size; have := hw1.size; omega, by have := SZ.out; have := GZ.size; have := hw1.size; omega, by have := SZ.out; have := GZ.size; have := hw1.size; omega⟩), Blk.new _ _ _, hr.grow ((Grow.refl _).al _), (P0.out.kid (by have := HM.out; omega)).grow ((GZ.trans hw1).al _), hn, rfl⟩
      intro v34 K hK
      go_simp
      apply hK
      clear hK K
      repeat (
        first
          | (apply calm_p rfl; case h1 => (intro w1 hw1 hF K hK; obtain ⟨bx, fx⟩ := (BX.out.grow (GZ.trans hw1)).rules; obtain ⟨bp, fp⟩ := (BP.out.grow (GZ.trans hw1)).rules; go_simp; first | exact hK _ (Grow.refl _) | fail))
          | (apply calm_y rfl rfl rfl; case h1 => (intro w1 hw1 hF K hK; obtain ⟨bx, fx⟩ := (BX.out.grow (GZ.trans hw1)).rules; obtain ⟨bp, fp⟩ := (BP.out.grow (GZ.trans hw1)).rules; go_simp; first | exact hK _ (Grow.refl _) | fail))
          | apply calm_n rfl rfl rfl rfl
        intro K hK
        go_simp
        apply hK
        clear hK K)
      refine calm_nil ?_
      intro w1 hw1 hF
      apply hQ0
      clear hQ0
      simp only [List.drop_succ_cons, List.drop_zero]
      obtain ⟨g2, r, r', hv, hT, hB, hr, hr', hn, hn'⟩ := hF _ (List.mem_cons_self ..)
      subst hv
      clear hF
      have GW1 := GZ.trans hw1
      obtain ⟨br, fr⟩ := (BR.out.grow GW1).rules
      have lr := (BR.out.grow GW1).lt
      obtain ⟨bp, fp⟩ := (BP.out.grow GW1).rules
      have lp := (BP.out.grow GW1).lt
      go_wp2
      have hh : ∀ q, q ≠ gx + 1 → (w1.setCell ⟨gx + 1, 10, none⟩ (.slice (some ⟨g2, 0, none⟩) 2 2)).heap[q]? = w1.heap[q]? := fun q hq => Below.heap_setCell w1 ⟨gx + 1, 10, none⟩ _ q hq
      have ag9 : Agr (Sown S w.heap.size gx) w1 (w1.setCell ⟨gx + 1, 10, none⟩ (.slice (some ⟨g2, 0, none⟩) 2 2)) := fun q hq _ => hh q (by have := HGE.out; rcases hq with h | h; omega; exact h.2.2.1)
      have hrr : PXs (Sown S w.heap.size gx) (w1.setCell ⟨gx + 1, 10, none⟩ (.slice (some ⟨g2, 0, none⟩) 2 2)) (two2 4 n y xs ag g2 2 r r') := (pxs_two 2 hB hT ((P0.out.nx).grow GW1) hr hr').move ag9 (by simp)
      have nrr : nP (two2 4 n y xs ag g2 2 r r') = pushP (tabs ts) (nP (.mk 4 n y xs ag (some ⟨ga, oa, none⟩) m cap kid)) (nE x) := by rw [nP_two, hn, hn', push_4 HL.out HM.out, HCE.out, if_pos HAB.out.1]
      have BRW : Blk (w1.setCell ⟨gx + 1, 10, none⟩ (.slice (some ⟨g2, 0, none⟩) 2 2)) (gx + 1 + 1) 31 #[.int .i64 0, .int .i64 0, .int .i64 0, .int .i64 0, .int .i64 0, .string ⟨#[]⟩, .int .i64 0, .slice none 0 0, .slice none 0 0, .slice none 0 0, .slice none 0 0] := Blk.other (BR.out.grow GW1) NN.out.2.2 10 _
      have GW : Grow w (w1.setCell ⟨gx + 1, 10, none⟩ (.slice (some ⟨g2, 0, none⟩) 2 2)) := Grow.set (G.trans GW1) (by have := HGE.out; show w.heap.size ≤ gx + 1; omega) _
      have B3 := st11_blk (two2 4 n y xs ag g2 2 r r') BRW
      simp only [st11, two2, PL.k, PL.n, PL.x, PL.xs, PL.ag, PL.A, PL.m, PL.cap] at B3
      obtain ⟨b3, f3⟩ := B3.rules
      refine bodyPost_ret (v := (two2 4 n y xs ag g2 2 r r').val) (by simp [results, Try.results94, go_sem, b3, two2, PL.val, PL.k, PL.n, PL.x, PL.xs, PL.ag, PL.A, PL.m, PL.cap]) rfl ?_
      exact RP.put (r := (two2 4 n y xs ag g2 2 r r')) hrr nrr GW HGE.out
    case hp' => exact ⟨VP.pers _ _, VK2.pers _ _ _, trivial⟩
end Go.Proofs.Ytpgpecdiajmgmaa

namespace Go.Proofs.Ytpgpecdiajmgmaa
open Go.RowKit Go.Calm
set_option linter.unusedSimpArgs false
set_option linter.unusedVariables false

abbrev Sow2 (S : Nat → Prop) (b gx : Nat) : Nat → Prop := fun q => (S q ∧ q < b) ∨ (b ≤ q ∧ q ≠ gx ∧ q ≠ gx + 1)
abbrev Sow3 (S : Nat → Prop) (b gx g : Nat) : Nat → Prop := fun q => (S q ∧ q < b) ∨ (b ≤ q ∧ q ≠ g ∧ q ≠ gx ∧ q ≠ gx + 1)
theorem RP.put2 {S : Nat → Prop} {q r : PL} {w W : World} {gx : Nat} (hr : PXs (Sow2 S w.heap.size gx) W r) (hn : nP r = q) (hg : Grow w W) (hge : w.heap.size ≤ gx) : RP S q w (st11 W (gx + 1) r) (.returned r.val) := by
  refine ⟨r, rfl, ?_, hn, st11_grow hg (by omega) r⟩
  have h1 := hr.move (w' := st11 W (gx + 1) r) (fun q hq _ => st11_heap W (gx + 1) r (by rcases hq with h | h; omega; exact h.2.2)) (by rw [st11_size]; exact Nat.le_refl _)
  exact h1.mono (fun q _ hq => hq.imp And.left And.left)
abbrev st11o (w : World) (g o : Nat) (r : PL) : World := ((((((((((w.setCell ⟨g, o, none⟩ (.int .i64 r.k)).setCell ⟨g, o + 1, none⟩ (.int .i64 r.n)).setCell ⟨g, o + 2, none⟩ (.int .i64 r.x.kind)).setCell ⟨g, o + 3, none⟩ (.int .i64 r.x.v.k)).setCell ⟨g, o + 4, none⟩ (.int .i64 r.x.v.n)).setCell ⟨g, o + 5, none⟩ (.string r.x.v.s)).setCell ⟨g, o + 6, none⟩ (.int .i64 r.x.col)).setCell ⟨g, o + 7, none⟩ (.slice r.x.A r.x.n r.x.cap)).setCell ⟨g, o + 8, none⟩ (.slice r.xs.A r.xs.l.length r.xs.c)).setCell ⟨g, o + 9, none⟩ (.slice r.ag.A r.ag.l.length r.ag.c)).setCell ⟨g, o + 10, none⟩ (.slice r.A r.m r.cap)
theorem st11o_heap (w : World) (g o : Nat) (r : PL) {q : Nat} (hq : q ≠ g) : (st11o w g o r).heap[q]? = w.heap[q]? := by
  unfold st11o
  iterate 11 rw [Below.heap_setCell _ ⟨g, _, none⟩ _ q hq]
theorem st11o_size (w : World) (g o : Nat) (r : PL) : (st11o w g o r).heap.size = w.heap.size := by simp [st11o]
theorem st11o_grow {w0 w : World} {g : Nat} (hg : Grow w0 w) (h : w0.heap.size ≤ g) (o : Nat) (r : PL) : Grow w0 (st11o w g o r) := Grow.set (Grow.set (Grow.set (Grow.set (Grow.set (Grow.set (Grow.set (Grow.set (Grow.set (Grow.set (Grow.set hg h _) h _) h _) h _) h _) h _) h _) h _) h _) h _) h _
theorem Blk.farP {w : World} {g q : Nat} {t : TypeId} {cs : Array Value} (h : Blk w g t cs) (hne : q ≠ g) (o : Nat) (r : PL) : Blk (st11o w q o r) g t cs := by
  unfold Blk at h ⊢
  rw [st11o_heap w q o r (Ne.symm hne)]
  exact h
theorem arr11 (cur : Array Value) (o : Nat) (a0 a1 a2 a3 a4 a5 a6 a7 a8 a9 a10 : Value) (h : o + 11 ≤ cur.size) : ∃ c : Array Value, c = ((((((((((cur.setIfInBounds o a0).setIfInBounds (o + 1) a1).setIfInBounds (o + 2) a2).setIfInBounds (o + 3) a3).setIfInBounds (o + 4) a4).setIfInBounds (o + 5) a5).setIfInBounds (o + 6) a6).setIfInBounds (o + 7) a7).setIfInBounds (o + 8) a8).setIfInBounds (o + 9) a9).setIfInBounds (o + 10) a10 ∧ c.size = cur.size ∧ (∀ i u, ([a0, a1, a2, a3, a4, a5, a6, a7, a8, a9, a10] : List Value)[i]? = some u → c[o + i]? = some u) ∧ ∀ p, (p < o ∨ o + 11 ≤ p) → c[p]? = cur[p]? := by
  refine ⟨_, rfl, by simp, fun i u hu => ?_, fun p hp => ?_⟩
  · match i, hu with
    | 0, hu => simp at hu; subst hu; simp [Array.getElem?_setIfInBounds]; omega
    | 1, hu => simp at hu; subst hu; simp [Array.getElem?_setIfInBounds]; omega
    | 2, hu => simp at hu; subst hu; simp [Array.getElem?_setIfInBounds]; omega
    | 3, hu => simp at hu; subst hu; simp [Array.getElem?_setIfInBounds]; omega
    | 4, hu => simp at hu; subst hu; simp [Array.getElem?_setIfInBounds]; omega
    | 5, hu => simp at hu; subst hu; simp [Array.getElem?_setIfInBounds]; omega
    | 6, hu => simp at hu; subst hu; simp [Array.getElem?_setIfInBounds]; omega
    | 7, hu => simp at hu; subst hu; simp [Array.getElem?_setIfInBounds]; omega
    | 8, hu => simp at hu; subst hu; simp [Array.getElem?_setIfInBounds]; omega
    | 9, hu => simp at hu; subst hu; simp [Array.getElem?_setIfInBounds]; omega
    | 10, hu => simp at hu; subst hu; simp [Array.getElem?_setIfInBounds]; omega
    | i + 11, hu => simp at hu
  · simp only [Array.getElem?_setIfInBounds]
    iterate 11 rw [if_neg (by omega)]
theorem st11o_blk {w : World} {g o : Nat} {r : PL} {t : TypeId} {cur : Array Value} (h : Blk w g t cur) (ho : o + 11 ≤ cur.size) : ∃ c, Blk (st11o w g o r) g t c ∧ c.size = cur.size ∧ PCells (st11o w g o r) g o r ∧ ∀ p, (p < o ∨ o + 11 ≤ p) → c[p]? = cur[p]? := by
  obtain ⟨c, hc, hs, h0, h6⟩ := arr11 cur o (.int .i64 r.k) (.int .i64 r.n) (.int .i64 r.x.kind) (.int .i64 r.x.v.k) (.int .i64 r.x.v.n) (.string r.x.v.s) (.int .i64 r.x.col) (.slice r.x.A r.x.n r.x.cap) (.slice r.xs.A r.xs.l.length r.xs.c) (.slice r.ag.A r.ag.l.length r.ag.c) (.slice r.A r.m r.cap) ho
  have hb : Blk (st11o w g o r) g t c := by
    rw [hc]
    exact ((((((((((h.set o _).set (o + 1) _).set (o + 2) _).set (o + 3) _).set (o + 4) _).set (o + 5) _).set (o + 6) _).set (o + 7) _).set (o + 8) _).set (o + 9) _).set (o + 10) _
  have f : ∀ i u, ([.int .i64 r.k, .int .i64 r.n, .int .i64 r.x.kind, .int .i64 r.x.v.k, .int .i64 r.x.v.n, .string r.x.v.s, .int .i64 r.x.col, .slice r.x.A r.x.n r.x.cap, .slice r.xs.A r.xs.l.length r.xs.c, .slice r.ag.A r.ag.l.length r.ag.c, .slice r.A r.m r.cap] : List Value)[i]? = some u → (st11o w g o r).cell? ⟨g, o + i, none⟩ = some u := fun i u hu => by rw [hb.cell]; exact h0 i u hu
  exact ⟨c, hb, hs, ⟨f 0 _ rfl, f 1 _ rfl, f 2 _ rfl, f 3 _ rfl, f 4 _ rfl, f 5 _ rfl, f 6 _ rfl, f 7 _ rfl, f 8 _ rfl, f 9 _ rfl, f 10 _ rfl⟩, h6⟩
structure MvP (S : Nat → Prop) (w wr : World) (gx : Nat) (B : Option Addr) (n j : Nat) (Q : PL → PL) (kid F : Nat → PL) : Prop where
  row : (n = 0 ∧ B = none) ∨ ∃ g cur, B = some ⟨g, 0, none⟩ ∧ w.heap.size ≤ g ∧ g ≠ gx ∧ g ≠ gx + 1 ∧ Blk wr g 31 cur ∧ n * 11 ≤ cur.size ∧ (∀ i, i < n → PCells wr g (i * 11) (F i)) ∧ ∀ i, i < j → PXs (Sow3 S w.heap.size gx g) wr (F i)
  done : ∀ i, i < j → nP (F i) = Q (nP (kid i))
  todo : ∀ i, j ≤ i → F i = kid i
theorem MvP.grow {S : Nat → Prop} {w wr w' : World} {gx : Nat} {B : Option Addr} {n j : Nat} {Q : PL → PL} {kid F : Nat → PL} (h : MvP S w wr gx B n j Q kid F) (hg : Grow wr w') : MvP S w w' gx B n j Q kid F := by
  refine ⟨?_, h.done, h.todo⟩
  rcases h.row with h | ⟨g, cur, a, b, c, d, e, f, i, k⟩
  · exact .inl h
  · exact .inr ⟨g, cur, a, b, c, d, e.grow hg, f, fun q hq => (i q hq).grow hg, fun q hq => (k q hq).grow hg⟩
theorem MvP.put {S : Nat → Prop} {w wr : World} {gx g : Nat} {n j : Nat} {Q : PL → PL} {kid F : Nat → PL} (h : MvP S w wr gx (some ⟨g, 0, none⟩) n j Q kid F) (hj : j < n) {r : PL} (hr : PXs (Sow3 S w.heap.size gx g) wr r) (hn : nP r = Q (nP (kid j))) :
    MvP S w (st11o wr g (j * 11) r) gx (some ⟨g, 0, none⟩) n (j + 1) Q kid (fun i => if i = j then r else F i) := by
  refine ⟨?_, fun i hi => ?_, fun i hi => ?_⟩
  · rcases h.row with ⟨h0, _⟩ | ⟨g', cur, e, b, c, d, hb, f, hc, hk⟩
    · omega
    · cases e
      obtain ⟨c', hb', hs, hec, ho⟩ := st11o_blk (r := r) (o := j * 11) hb (by omega)
      have agr : Agr (Sow3 S w.heap.size gx g) wr (st11o wr g (j * 11) r) := fun q hq _ => st11o_heap wr g (j * 11) r (by rcases hq with ⟨_, h⟩ | h; omega; exact h.2.1)
      refine .inr ⟨g, c', rfl, b, c, d, hb', by omega, fun i hi => ?_, fun i hi => ?_⟩
      · by_cases hij : i = j
        · subst hij; rw [if_pos rfl]; exact hec
        · rw [if_neg hij]
          have hc := hc i hi
          have tr : ∀ k u, k < 11 → wr.cell? ⟨g, i * 11 + k, none⟩ = some u → (st11o wr g (j * 11) r).cell? ⟨g, i * 11 + k, none⟩ = some u := fun k u hk hu => by
            rw [hb.cell] at hu
            rw [hb'.cell, ho _ (by omega)]; exact hu
          exact ⟨tr 0 _ (by omega) hc.c0, tr 1 _ (by omega) hc.c1, tr 2 _ (by omega) hc.c2, tr 3 _ (by omega) hc.c3, tr 4 _ (by omega) hc.c4, tr 5 _ (by omega) hc.c5, tr 6 _ (by omega) hc.c6, tr 7 _ (by omega) hc.c7, tr 8 _ (by omega) hc.c8, tr 9 _ (by omega) hc.c9, tr 10 _ (by omega) hc.c10⟩
      · by_cases hij : i = j
        · subst hij; simp only [if_pos]; exact hr.move agr (by rw [st11o_size]; exact Nat.le_refl _)
        · simp only [if_neg hij]; exact (hk i (by omega)).move agr (by rw [st11o_size]; exact Nat.le_refl _)
  · by_cases hij : i = j
    · subst hij; simp only [if_pos]; exact hn
    · simp only [if_neg hij]; exact h.done i (by omega)
  · simp only [if_neg (show ¬ i = j by omega)]; exact h.todo i (by omega)
theorem MvP.fin {S : Nat → Prop} {w wr : World} {gx : Nat} {B : Option Addr} {m cap' : Nat} {Q : PL → PL} {kid F : Nat → PL} {k n : Int} {y : E} {xs : XsS} {ag : AgS} (h : MvP S w wr gx B m m Q kid F) (hx : NXs S w k n y xs ag) (hm : m ≤ 10) (hg : Grow w wr) :
    PXs (Sow2 S w.heap.size gx) wr (.mk k n y xs ag B m cap' F) ∧ nP (.mk k n y xs ag B m cap' F) = mkP k n (nE y) (xs.l.map nE) (ag.l.map nA) m (fun i => Q (nP (kid i))) := by
  have hx' : NXs (Sow2 S w.heap.size gx) wr k n y xs ag := ((hx.mono (T := fun q => S q ∧ q < w.heap.size) (fun q a b => ⟨b, a⟩)).grow hg).mono (fun q _ hq => .inl hq)
  constructor
  · intro W a
    have nx := hx' W a
    rcases h.row with ⟨h0, rfl⟩ | ⟨g, cur, rfl, b, c1, d, hb, f, hcs, hk⟩
    · subst h0
      exact .mk (Nat.zero_le _) (fun i hi => absurd hi (Nat.not_lt_zero _)) (fun i hi => absurd hi (Nat.not_lt_zero _)) nx.hx nx.hs nx.ha nx.hl nx.hi
    · refine .mk (by show m ≤ 140737488355328; omega) (fun i hi => ⟨g, 0, rfl, ?_⟩) (fun i hi => hk i hi W (a.mono (fun q _ hq => ?_))) nx.hx nx.hs nx.ha nx.hl nx.hi
      · rw [Nat.zero_add]; exact (hcs i hi).agr a (.inr ⟨b, c1, d⟩)
      · rcases hq with hq | hq
        · exact .inl hq
        · exact .inr ⟨hq.1, hq.2.2⟩
  · show mkP k n (nE y) (xs.l.map nE) (ag.l.map nA) m (fun i => nP (F i)) = _
    exact mkP_congr (fun i hi => h.done i hi)
theorem EXs.al9 {S : Nat → Prop} {w : World} {e : E} (h : EXs S w e) (o : _) : EXs S (w.alloc o) e := h.grow ((Grow.refl _).al o)
theorem PXs.al9 {S : Nat → Prop} {w : World} {p : PL} (h : PXs S w p) (o : _) : PXs S (w.alloc o) p := h.grow ((Grow.refl _).al o)
section
variable {ts : List (List Int)} {k n : Int} {y : E} {xs : XsS} {ag : AgS} {A : Option Addr} {m cap : Nat} {kid : Nat → PL}
theorem planP_2 : planP ts (nP (.mk 2 n y xs ag A 1 cap kid)) = pushP ts (planP ts (nP (kid 0))) (nE y) := rfl
theorem planP_o (h : k ≠ 2 ∧ k ≠ 10 ∧ k ≠ 11) : planP ts (nP (.mk k n y xs ag A m cap kid)) = mkP k n (nE y) (xs.l.map nE) (ag.l.map nA) m (fun i => planP ts (nP (kid i))) := by
  show planP ts (mkP k n (nE y) (xs.l.map nE) (ag.l.map nA) m (fun i => nP (kid i))) = _
  conv => lhs; unfold mkP planP
  rw [if_neg h.1, if_neg (by omega)]
  exact mkP_congr (fun i hi => by simp only [if_pos hi])
theorem planP_10 (hk : k = 10 ∨ k = 11) : planP ts (nP (.mk k n y xs ag A 1 cap kid)) = if (planP ts (nP (kid 0))).k = 11 ∨ (planP ts (nP (kid 0))).k = k then planP ts (nP (kid 0)) else if (planP ts (nP (kid 0))).k = 10 then mkP k 0 .leaf [] [] 1 (fun _ => (planP ts (nP (kid 0))).kid 0) else mkP k n (nE y) (xs.l.map nE) (ag.l.map nA) 1 (fun i => planP ts (nP (kid i))) := by
  show planP ts (mkP k n (nE y) (xs.l.map nE) (ag.l.map nA) 1 (fun i => nP (kid i))) = _
  conv => lhs; unfold mkP planP
  rw [if_neg (by omega), if_pos hk]
  simp only [if_pos (show (0 : Nat) < 1 by omega)]
  have e : mkP k n (nE y) (xs.l.map nE) (ag.l.map nA) 1 (fun i => planP ts (if i < 1 then nP (kid i) else .leaf)) = mkP k n (nE y) (xs.l.map nE) (ag.l.map nA) 1 (fun i => planP ts (nP (kid i))) := mkP_congr (fun i hi => by simp only [if_pos hi])
  rw [e]
variable {fk fn : Int} {fy : E} {fxs : XsS} {fag : AgS} {fA : Option Addr} {fm fcap : Nat} {fkid : Nat → PL}
theorem planP_10a (hk : k = 10 ∨ k = 11) (h : nP (.mk fk fn fy fxs fag fA fm fcap fkid) = planP ts (nP (kid 0))) (h1 : fk = 11 ∨ fk = k) : planP ts (nP (.mk k n y xs ag A 1 cap kid)) = planP ts (nP (kid 0)) := by
  rw [planP_10 hk, if_pos (by rw [← h]; exact h1)]
theorem planP_10b (h : nP (.mk 10 fn fy fxs fag fA 1 fcap fkid) = planP ts (nP (kid 0))) : planP ts (nP (.mk 11 n y xs ag A 1 cap kid)) = mkP 11 0 .leaf [] [] 1 (fun _ => nP (fkid 0)) := by
  rw [planP_10 (.inr rfl), ← h, if_neg (by show ¬ ((10 : Int) = 11 ∨ (10 : Int) = 11); decide), if_pos (show (nP (PL.mk 10 fn fy fxs fag fA 1 fcap fkid)).k = 10 from rfl)]
  rfl
theorem planP_10c (hk : k = 10 ∨ k = 11) (h : nP (.mk fk fn fy fxs fag fA fm fcap fkid) = planP ts (nP (kid 0))) (h1 : fk ≠ 11) (h2 : fk ≠ 10) : planP ts (nP (.mk k n y xs ag A 1 cap kid)) = mkP k n (nE y) (xs.l.map nE) (ag.l.map nA) 1 (fun i => planP ts (nP (kid i))) := by
  have e : (planP ts (nP (kid 0))).k = fk := by rw [← h]; rfl
  rw [planP_10 hk, e, if_neg (by omega), if_neg h2]
end
theorem cur11 {w : World} {g o : Nat} {t : TypeId} {cur : Array Value} (h : Blk w g t cur) (ho : o + 11 ≤ cur.size) : ∃ u0 u1 u2 u3 u4 u5 u6 u7 u8 u9 u10, w.cell? ⟨g, o, none⟩ = some u0 ∧ w.cell? ⟨g, o + 1, none⟩ = some u1 ∧ w.cell? ⟨g, o + 2, none⟩ = some u2 ∧ w.cell? ⟨g, o + 3, none⟩ = some u3 ∧ w.cell? ⟨g, o + 4, none⟩ = some u4 ∧ w.cell? ⟨g, o + 5, none⟩ = some u5 ∧ w.cell? ⟨g, o + 6, none⟩ = some u6 ∧ w.cell? ⟨g, o + 7, none⟩ = some u7 ∧ w.cell? ⟨g, o + 8, none⟩ = some u8 ∧ w.cell? ⟨g, o + 9, none⟩ = some u9 ∧ w.cell? ⟨g, o + 10, none⟩ = some u10 := by
  have f : ∀ i, i < cur.size → w.cell? ⟨g, i, none⟩ = some (cur.getD i undef) := fun i hi => by rw [h.cell]; simp [hi]
  exact ⟨_, _, _, _, _, _, _, _, _, _, _, f _ (by omega), f _ (by omega), f _ (by omega), f _ (by omega), f _ (by omega), f _ (by omega), f _ (by omega), f _ (by omega), f _ (by omega), f _ (by omega), f _ (by omega)⟩
end Go.Proofs.Ytpgpecdiajmgmaa
