/- Parts of a proof. No condition. -/
import Derived.Test.YthhbiemnbkfobaaGreatGD
import Derived.Test.YthhbiemnbkfobaaGreatGC
set_option maxRecDepth 100000
set_option linter.unusedSimpArgs false
set_option linter.unusedVariables false
namespace Go
variable {p : Prop}
theorem vG_ (h : p := by simpa using h1) : p := h
theorem ud_ (h : p := by
 subst hk
 have e : T = 3 := by
   rw [if_neg vT_] at h5; unfold zQ at h5; rw [if_neg vT_, if_neg vT_, if_pos vT_] at h5; split at h5 <;> simp at h5
   exact h5.symm
 subst e; exact Q2 _ _ _) : p := h
theorem uj_ (h : p := by
 subst hk
 have e : T = 2 := by
   rw [if_neg vT_] at h5; unfold zQ at h5; split at h5
   · split at h5 <;> simp at h5
     exact h5.symm
   · omega
 subst e; exact YJ _) : p := h
theorem uD_ (h : p := by
 rename_i h1; exact absurd h h1) : p := h
theorem wf_ (h : p := by
 intro h; simp at h) : p := h
end Go
namespace Go.Proofs.YthhbiemnbkfobaaGreat
open Go.RowKit Go.Calm
def yn (k : Int) (a b : V) : V :=
  if k = 6 then LS a b else if k = 7 then js (LS a b) else if k = 8 then xS a b else if k = 9 then js (xS b a) else if k = 10 then xS b a else js (xS a b)
def JC (k : Int) (a b d : V) : V :=
  if k = 3 then js a
  else if k = 4 then kG a b
  else if k = 5 then K5 a b
  else if k = 12 then yi 43 a b
  else if k = 13 then yi 45 a b
  else if k = 14 then yi 42 a b
  else if k = 15 then qg a b
  else if k = 16 then xO (decide (a.k = 1))
  else if k = 17 then (if ym a = 2 then b else d)
  else if k = 18 then (if a.k = 1 then b else a)
  else yn k a b
def yk (row : List V) : E -> V
  | .leaf => zR
  | .mk k v c _ _ _ kid =>
    if k = 1 then bare v
    else if k = 2 then bare (row.getD c.toNat zR)
    else JC k (yk row (kid 0)) (yk row (kid 1)) (yk row (kid 2))
inductive RE (n0 : Nat) : E -> Prop
  | mk {k : Int} {v : V} {c : Int} {A : Option Addr} {n cap : Nat} {kid : Nat -> E} (h0 : 0 <= zy k) (hn : (n : Int) = zy k) (hv : k = 1 -> RV v) (hc : k = 2 -> 0 <= c /\ c < (n0 : Int)) (hk : ∀ i, i < n -> RE n0 (kid i)) : RE n0 (.mk k v c A n cap kid)
theorem xM : RV zR := ⟨.inl rfl, fun h => by simp [zR] at h, fun h => by simp [zR] at h, fun h => by simp [zR] at h⟩
theorem Xb (b : Bool) : RV (xO b) := ⟨.inr (.inl rfl), fun _ => by cases b <;> simp [xO], fun h => by simp [xO] at h, fun h => by simp [xO] at h⟩
theorem Zp (n : Int) : RV (yU n) := by
  unfold yU; split
  · exact xM
  · exact Xb _
theorem D3 (a b : V) : RV (kG a b) := Zp _
theorem Fl (a b : V) : RV (K5 a b) := Zp _
theorem N2 (a : V) : RV (js a) := Zp _
theorem CI (a b : V) : RV (LS a b) := by
  unfold LS; split
  · exact Xb _
  · exact xM
theorem KN (a b : V) : RV (xS a b) := by
  unfold xS; split
  · exact Xb _
  · exact xM
theorem D4 (k : Int) (a b : V) : RV (yn k a b) := by
  unfold yn
  repeat' split
  all_goals first | exact CI _ _ | exact KN _ _ | exact N2 _
theorem Qi {v : V} (h : RV v) : RV (bare v) := by
  obtain ⟨h1, h2, h3, h4⟩ := h; unfold bare; split
  · exact xM
  · split
    · exact ⟨.inr (.inr (.inr rfl)), fun h => by simp at h, fun h => by simp at h, fun _ => h4 vO_⟩
    · exact ⟨h1, h2, h3, fun h => by simp at h; omega⟩
theorem PI (n : Int) : RV (xt n) := by
  unfold xt; split
  · exact D5 _ vU_ vU_
  · exact xM
theorem SB (s : Int) (a b : V) : RV (yi s a b) := by
  unfold yi
  repeat' split
  all_goals first | exact PI _ | exact xM
theorem BJ (a b : V) : RV (qg a b) := by
  unfold qg; split
  · rename_i h
    exact ⟨.inr (.inr (.inr rfl)), fun h => by simp at h, fun h => by simp at h, fun _ => by simp; omega⟩
  · exact xM
theorem CJ (k : Int) (a b d : V) (ha : RV a) (hb : RV b) (hd : RV d) : RV (JC k a b d) := by
  unfold JC
  repeat' split
  all_goals first | assumption | exact N2 _ | exact D3 _ _ | exact Fl _ _ | exact SB _ _ _ | exact BJ _ _ | exact Xb _ | exact D4 _ _ _
theorem D7 (k : Int) (a b d : V) (h1 : 1 <= zy k) (ha : RV a) (hb : 2 <= zy k -> RV b) (hd : 3 <= zy k -> RV d) : RV (JC k a b d) := by
  by_cases h2 : 2 <= zy k
  · by_cases h3 : 3 <= zy k
    · exact CJ k a b d ha (hb h2) (hd h3)
    · have hk : k ≠ 17 := by rintro rfl; exact h3 vT_
      have : JC k a b d = JC k a b zR := by unfold JC; simp [hk]
      rw [this]; exact CJ k a b _ ha (hb h2) xM
  · have hk : k = 3 \/ k = 16 := by
      unfold zy at h1 h2
      repeat' split at h1
      all_goals first | omega | (simp_all; done) | (exfalso; revert h2; simp_all)
    rcases hk with rfl | rfl
    · exact N2 _
    · exact Xb _
theorem XM (row : List V) (hr : ∀ x ∈ row, RV x) (e : E) : RE row.length e -> RV (yk row e) := by
  intro h
  induction h with
  | mk h0 hn hv hc hk ih =>
    unfold yk; split
    · exact Qi (hv vO_)
    · split
      · have := hc vO_
        rename_i c _ _ _ _ _ _; have hl : c.toNat < row.length := by omega
        rw [List.getD_eq_getElem?_getD, qQ_ hl]; exact Qi (hr _ (List.getElem_mem hl))
      · rename_i k v c A n cap kid h1 h2
        have hz : zy k ≠ 0 := fun hz => by rcases Jy hz with h8 | h8 <;> contradiction
        exact D7 k _ _ _ vU_ (ih 0 vU_) (fun h => ih 1 vU_) (fun h => ih 2 vU_)
def j5 (f : Nat -> Int) : Nat -> Int
  | 0 => 0
  | r + 1 => j5 f r + f r
theorem Wm (f : Nat -> Int) : ∀ r, j5 f (r + 1) = f 0 + j5 (fun j => f (j + 1)) r
  | 0 => by simp [j5]
  | r + 1 => by
    have := Wm f r
    conv => lhs; unfold j5
    rw [this]
    conv => rhs; arg 2; unfold j5
    omega
theorem YX {f : Nat -> Int} (h : ∀ i, 0 <= f i) : ∀ r, 0 <= j5 f r
  | 0 => by simp [j5]
  | r + 1 => by have := YX h r; have := h r; simp [j5]; omega
def YY : E -> Int
  | .leaf => 1
  | .mk _ _ _ _ n _ kid => 1 + j5 (fun i => YY (kid i)) n
theorem jG (e : E) : 1 <= YY e := by
  induction e with
  | leaf => simp [YY]
  | mk k v c A n cap kid ih =>
    have := YX (f := fun i => YY (kid i)) (fun i => by have := ih i; omega) n; simp only [YY]; omega
def WH : E -> Int -> Prop
  | .leaf, d => d <= 20
  | .mk _ _ _ _ n _ kid, d => d <= 20 /\ ∀ i, i < n -> WH (kid i) (d + 1)
theorem kR (e : E) : ∀ {d d' : Int}, d' <= d -> WH e d -> WH e d' := by
  induction e with
  | leaf => intro d d' h h1; simp only [WH] at h1 ⊢; omega
  | mk k v c A n cap kid ih =>
    intro d d' h h1; simp only [WH] at h1 ⊢; exact ⟨by omega, fun i hi => ih i vU_ (h1.2 i hi)⟩
def CZ (cols : List Int) (k : Int) (v : V) (c : Int) (ts : List Int) (T : Int) : Prop :=
  if k = 1 then yC v = 0 /\ T = v.k
  else if k = 2 then 0 <= c /\ c < (cols.length : Int) /\ T = cols.getD c.toNat 0
  else if k = 16 then T = 2
  else zQ k ts = (T, 0)
def wt (cols : List Int) : E -> Int -> Prop
  | .leaf, _ => False
  | .mk k v c _ n _ kid, T => 0 <= zy k /\ (n : Int) = zy k /\ ∃ ts : List Int, ts.length = n /\ (∀ i, i < n -> wt cols (kid i) (ts.getD i 0)) /\ CZ cols k v c ts T
theorem ZP {f : Nat -> Int -> Int × Int × Int} {W : Nat -> Int -> Prop} {D : Nat -> Prop} {s : Nat -> Int} (hs : ∀ i, 0 <= s i)
    (hf : ∀ i m T M, m <= 200 -> (f i m = (T, 0, M) ↔ W i T /\ D i /\ M = m + s i /\ m + s i <= 200)) :
    ∀ (r i : Nat) (m : Int) (ts : List Int) (M : Int) (us : List Int), m <= 200 ->
      (yj f r i m ts = (0, M, us) ↔ ∃ qs : List Int, qs.length = r /\ us = ts ++ qs /\ (∀ j, j < r -> W (i + j) (qs.getD j 0)) /\ (∀ j, j < r -> D (i + j)) /\ M = m + j5 (fun j => s (i + j)) r /\ m + j5 (fun j => s (i + j)) r <= 200)
  | 0, i, m, ts, M, us, hm => by
    simp only [yj, j5]
    constructor
    · rintro h
      cases h; exact ⟨[], rfl, by simp, fun j hj => by omega, fun j hj => by omega, by omega, by omega⟩
    · rintro ⟨qs, h1, h2, _, _, h3, _⟩
      have : qs = [] := List.length_eq_zero_iff.1 h1; subst this; simp at h2 h3; rw [h2, h3]
  | r + 1, i, m, ts, M, us, hm => by
    unfold yj; obtain ⟨T, e, M1, hq⟩ : ∃ T e M1, f i m = (T, e, M1) := ⟨_, _, _, rfl⟩
    rw [hq]; simp only; have hsum := Wm (fun j => s (i + j)) r; have hre : (fun j => s (i + (j + 1))) = (fun j => s (i + 1 + j)) := by funext j; congr 1; omega
    simp only [hre, Nat.add_zero] at hsum; rw [hsum]; have hpos : 0 <= j5 (fun j => s (i + 1 + j)) r := YX (fun j => hs _) r
    by_cases he : e = 0
    · subst he
      rw [if_pos rfl]; obtain ⟨g1, g2, g3, g4⟩ := (hf i m T M1 hm).1 hq; subst g3; rw [ZP hs hf r (i + 1) (m + s i) (ts ++ [T]) M us g4]
      constructor
      · rintro ⟨qs, h1, h2, h3, h4, h5, h6⟩
        refine ⟨T :: qs, by simp [h1], by simp [h2], ?_, ?_, by omega, by omega⟩
        · intro j hj
          cases j with
          | zero => simpa using g1
          | succ j =>
            have := h3 j vU_; rw [show i + 1 + j = i + (j + 1) by omega] at this; simpa using this
        · intro j hj
          cases j with
          | zero => simpa using g2
          | succ j =>
            have := h4 j vU_
            rwa [show i + 1 + j = i + (j + 1) by omega] at this
      · rintro ⟨qs, h1, h2, h3, h4, h5, h6⟩
        cases qs with
        | nil => simp at h1
        | cons q qs =>
          have hw := h3 0 vU_; simp only [Nat.add_zero, List.getD_cons_zero] at hw; have := (hf i m q (m + s i) hm).2 ⟨hw, by simpa using h4 0 vU_, rfl, g4⟩; rw [hq] at this; obtain rfl : T = q := by simpa using this
          refine ⟨qs, by simpa using h1, by simp [h2], ?_, ?_, by omega, by omega⟩
          · intro j hj
            have := h3 (j + 1) vU_; rw [show i + (j + 1) = i + 1 + j by omega] at this; simpa using this
          · intro j hj
            have := h4 (j + 1) vU_
            rwa [show i + (j + 1) = i + 1 + j by omega] at this
    · rw [if_neg he]
      constructor
      · intro h
        simp at h; exact absurd h.1 he
      · rintro ⟨qs, h1, h2, h3, h4, h5, h6⟩
        exfalso; have := (hf i m (qs.getD 0 0) (m + s i) hm).2 ⟨by simpa using h3 0 vU_, by simpa using h4 0 vU_, rfl, by omega⟩; rw [hq] at this; simp at this; exact he this.2.1
theorem Wp (cols : List Int) (e : E) : ∀ (deep m T M : Int), m <= 200 -> (y7 cols e deep m = (T, 0, M) ↔ wt cols e T /\ WH e deep /\ M = m + YY e /\ m + YY e <= 200) := by
  induction e with
  | leaf =>
    intro deep m T M hm; unfold y7 wt
    constructor
    · intro h
      split at h <;> simp at h
    · rintro ⟨h, _⟩; exact h.elim
  | mk k v c A n cap kid ih =>
    intro deep m T M hm; have hsz := jG (.mk k v c A n cap kid); unfold y7; simp only [wt, WH, YY]; have hpos : 0 <= j5 (fun i => YY (kid i)) n := YX (fun i => by have := jG (kid i); omega) n
    by_cases h1 : 200 < m + 1 \/ 20 < deep
    · rw [if_pos h1]
      constructor
      · exact wf_
      · rintro ⟨_, ⟨h2, _⟩, _, h3⟩; omega
    · rw [if_neg h1]
      by_cases h2 : zy k < 0
      · rw [if_pos h2]
        constructor
        · exact wf_
        · rintro ⟨⟨h3, _⟩, _⟩; omega
      · rw [if_neg h2]
        by_cases h3 : (n : Int) ≠ zy k
        · rw [if_pos h3]
          constructor
          · exact wf_
          · rintro ⟨⟨_, h4, _⟩, _⟩; omega
        · rw [if_neg h3]
          have key := ZP (f := fun i m' => y7 cols (kid i) (deep + 1) m') (W := fun i T => wt cols (kid i) T) (D := fun i => WH (kid i) (deep + 1)) (s := fun i => YY (kid i)) (fun i => by have := jG (kid i); omega)
            (fun i m T M hm => ih i (deep + 1) m T M hm) n 0 (m + 1)
          obtain ⟨e1, M1, us, hq⟩ : ∃ e1 M1 us, yj (fun i m' => y7 cols (kid i) (deep + 1) m') n 0 (m + 1) [] = (e1, M1, us) := ⟨_, _, _, rfl⟩
          rw [hq]; simp only
          by_cases he : e1 = 0
          · subst he
            obtain ⟨qs, k1, k2, k3, k4, k5, k6⟩ := (key [] M1 us vU_).1 hq; simp only [List.nil_append, Nat.zero_add] at k2 k3 k4 k5 k6; subst k2; rw [if_neg vV_]
            have tk : (if k = 1 then (v.k, yC v, M1) else if k = 2 then (if c < 0 \/ (cols.length : Int) <= c then (0, 7, M1) else (cols.getD c.toNat 0, 0, M1)) else if k = 16 then (2, 0, M1) else ((zQ k us).1, (zQ k us).2, M1)) = (T, (0 : Int), M) ↔ CZ cols k v c us T /\ M = M1 := by
              unfold CZ; split
              · simp; constructor
                · rintro ⟨rfl, h, rfl⟩; exact ⟨⟨h, rfl⟩, rfl⟩
                · rintro ⟨⟨h, rfl⟩, rfl⟩; exact ⟨rfl, h, rfl⟩
              · split
                · split
                  · rename_i h5
                    constructor
                    · exact wf_
                    · rintro ⟨⟨_, _, _⟩, _⟩; omega
                  · rename_i h5
                    simp
                    constructor
                    · rintro ⟨rfl, rfl⟩; exact ⟨⟨by omega, by omega, rfl⟩, rfl⟩
                    · rintro ⟨⟨_, _, rfl⟩, rfl⟩; exact ⟨rfl, rfl⟩
                · split
                  · simp; constructor
                    · rintro ⟨rfl, rfl⟩; exact ⟨rfl, rfl⟩
                    · rintro ⟨rfl, rfl⟩; exact ⟨rfl, rfl⟩
                  · obtain ⟨p, q⟩ := zQ k us
                    simp; constructor
                    · rintro ⟨rfl, rfl, rfl⟩; exact ⟨⟨rfl, rfl⟩, rfl⟩
                    · rintro ⟨⟨rfl, rfl⟩, rfl⟩; exact ⟨rfl, rfl, rfl⟩
            rw [tk]
            constructor
            · rintro ⟨h4, rfl⟩
              exact ⟨⟨by omega, by omega, us, k1, k3, h4⟩, ⟨by omega, k4⟩, by omega, by omega⟩
            · rintro ⟨⟨_, _, ts, g1, g2, g3⟩, ⟨_, g4⟩, g5, g6⟩
              have := (key [] (m + 1 + j5 (fun i => YY (kid i)) n) ts vU_).2 ⟨ts, g1, by simp, by simpa using g2, by simpa using g4, by simp, by simp; omega⟩; rw [hq] at this; obtain ⟨rfl, rfl⟩ : M1 = m + 1 + j5 (fun i => YY (kid i)) n /\ us = ts := by simpa using this
              exact ⟨g3, by omega⟩
          · rw [if_pos he]
            constructor
            · intro h; simp at h; exact absurd h.2.1 he
            · rintro ⟨⟨_, _, ts, g1, g2, g3⟩, ⟨_, g4⟩, g5, g6⟩
              exfalso; have := (key [] (m + 1 + j5 (fun i => YY (kid i)) n) ts vU_).2 ⟨ts, g1, by simp, by simpa using g2, by simpa using g4, by simp, by simp; omega⟩; rw [hq] at this; simp at this; exact he this.1
theorem Xl {cols : List Int} (e : E) : ∀ {T : Int}, wt cols e T -> RE cols.length e := by
  induction e with
  | leaf => intro T h; exact h.elim
  | mk k v c A n cap kid ih =>
    intro T h; simp only [wt] at h; obtain ⟨h1, h2, ts, h3, h4, h5⟩ := h; refine .mk h1 h2 (fun hk => ?_) (fun hk => ?_) (fun i hi => ih i (h4 i hi))
    · unfold CZ at h5
      rw [if_pos hk] at h5; exact (RV.of v).1 h5.1
    · unfold CZ at h5
      rw [if_neg vU_, if_pos hk] at h5; exact ⟨h5.1, h5.2.1⟩
theorem JZ (cols : List Int) (e : E) (T : Int) : zH cols e = (T, 0) ↔ cols.length <= 16 /\ cols.all jr = true /\ wt cols e T /\ WH e 1 /\ YY e <= 200 := by
  unfold zH
  by_cases h1 : 16 < cols.length
  · rw [if_pos h1]
    constructor
    · exact wf_
    · rintro ⟨h, _⟩; omega
  · rw [if_neg h1]
    cases h2 : cols.all jr
    · rw [if_pos rfl]
      constructor
      · exact wf_
      · rintro ⟨_, h, _⟩; simp at h
    · rw [if_neg vV_]
      obtain ⟨q1, q2, q3, hq⟩ : ∃ q1 q2 q3, y7 cols e 1 0 = (q1, q2, q3) := ⟨_, _, _, rfl⟩
      rw [hq]; simp only
      by_cases h3 : q2 = 0
      · subst h3
        rw [if_neg vV_]; obtain ⟨g1, g2, g3, g4⟩ := (Wp cols e 1 0 q1 q3 vU_).1 hq
        constructor
        · intro h
          obtain rfl : q1 = T := by simpa using h
          exact ⟨by omega, trivial, g1, g2, by omega⟩
        · rintro ⟨_, _, k1, _, _⟩
          have := (Wp cols e 1 0 T q3 vU_).2 ⟨k1, g2, g3, g4⟩; rw [hq] at this; simp at this; simp [this]
      · rw [if_pos h3]
        constructor
        · intro h; simp at h; exact absurd h.2 h3
        · rintro ⟨_, _, k1, k2, k3⟩
          exfalso; have := (Wp cols e 1 0 T (YY e) vU_).2 ⟨k1, k2, by omega, by omega⟩; rw [hq] at this; simp at this; exact h3 this.2.1
def QL : List V -> List Int -> Int
  | [], _ => 0
  | v :: vs, ts => if yC v ≠ 0 then yC v else if v.k ≠ 1 /\ v.k ≠ ts.headD 0 then 9 else QL vs ts.tail
def x6 (cols : List Int) (row : List V) : Int := if row.length ≠ cols.length then 8 else QL row cols
def je (cols : List Int) (row : List V) : Prop := row.length = cols.length /\ ∀ i, ∀ v, row[i]? = some v -> RV v /\ (v.k = 1 \/ v.k = cols.getD i 0)
theorem LV : ∀ (row : List V) (ts : List Int), QL row ts = 0 ↔ ∀ i v, row[i]? = some v -> RV v /\ (v.k = 1 \/ v.k = ts.getD i 0)
  | [], ts => by simp [QL]
  | v :: vs, ts => by
    unfold QL
    by_cases h1 : yC v = 0
    · rw [if_neg vG_]
      by_cases h2 : v.k ≠ 1 /\ v.k ≠ ts.headD 0
      · rw [if_pos h2]
        constructor
        · exact wf_
        · intro h
          have := (h 0 v rfl).2; cases ts <;> simp_all
      · rw [if_neg h2, LV vs ts.tail]
        constructor
        · intro h i x hx
          cases i with
          | zero =>
            simp at hx; subst hx; refine ⟨(RV.of _).1 h1, ?_⟩; cases ts <;> simp_all <;> omega
          | succ i =>
            have := h i x vD_; cases ts <;> simpa using this
        · intro h i x hx
          have := h (i + 1) x vD_; cases ts <;> simpa using this
    · rw [if_pos h1]
      constructor
      · intro h; exact absurd h h1
      · intro h; exact absurd ((RV.of _).2 (h 0 v rfl).1) h1
theorem yz (cols : List Int) (row : List V) : x6 cols row = 0 ↔ je cols row := by
  unfold x6 je
  by_cases h : row.length = cols.length
  · rw [if_neg (by simpa using h), LV]; simp [h]
  · rw [if_pos h]; simp [h]
def xC (cols : List Int) (row : List V) (e : E) : V × Int :=
  if (zH cols e).2 ≠ 0 then (⟨0, 0, es⟩, (zH cols e).2)
  else if x6 cols row ≠ 0 then (⟨0, 0, es⟩, x6 cols row)
  else (yk row e, 0)
theorem je.rv {cols : List Int} {row : List V} (h : je cols row) : ∀ x ∈ row, RV x := fun x hx => by
  obtain ⟨i, hi, rfl⟩ := List.getElem_of_mem hx; exact (h.2 i _ (qQ_ hi)).1
theorem YJ (n : Int) : (yU n).k = 1 \/ (yU n).k = 2 := by
  unfold yU xO; split <;> simp
theorem FP (a b : V) : (LS a b).k = 1 \/ (LS a b).k = 2 := by
  unfold LS xO; split <;> simp
theorem Dx (a b : V) : (xS a b).k = 1 \/ (xS a b).k = 2 := by
  unfold xS xO; split <;> simp
theorem Fa (k : Int) (a b : V) : (yn k a b).k = 1 \/ (yn k a b).k = 2 := by
  unfold yn
  repeat' split
  all_goals first | exact FP _ _ | exact Dx _ _ | exact YJ _
theorem NM (n : Int) : (xt n).k = 1 \/ (xt n).k = 3 := by
  unfold xt; split <;> simp
theorem Q2 (s : Int) (a b : V) : (yi s a b).k = 1 \/ (yi s a b).k = 3 := by
  unfold yi
  repeat' split
  all_goals first | exact NM _ | simp
theorem Dw (a b : V) : (qg a b).k = 1 \/ (qg a b).k = 4 := by
  unfold qg; split <;> simp
theorem kinds {k : Int} (h : 0 <= zy k) : k = 1 \/ k = 2 \/ k = 3 \/ k = 4 \/ k = 5 \/ (6 <= k /\ k <= 11) \/ k = 12 \/ k = 13 \/ k = 14 \/ k = 15 \/ k = 16 \/ k = 17 \/ k = 18 := by
  unfold zy at h
  repeat' split at h
  all_goals omega
theorem Ud {k : Int} (h : 6 <= k /\ k <= 11) (a b d : V) : JC k a b d = yn k a b := by
  unfold JC; rw [if_neg vU_, if_neg vU_, if_neg vU_, if_neg vU_, if_neg vU_, if_neg vU_, if_neg vU_, if_neg vU_, if_neg vU_, if_neg vU_]
theorem Fj {cols : List Int} {row : List V} (hf : je cols row) (e : E) : ∀ {T : Int}, wt cols e T -> (yk row e).k = 1 \/ (yk row e).k = T := by
  induction e with
  | leaf => intro T h; exact h.elim
  | mk k v c A n cap kid ih =>
    intro T h; simp only [wt] at h; obtain ⟨h0, hn, ts, h3, h4, h5⟩ := h; unfold yk; unfold CZ at h5; split
    · rw [if_pos vO_] at h5
      rw [XT]; exact .inr h5.2.symm
    · rename_i n1
      rw [if_neg n1] at h5; split
      · rw [if_pos vO_] at h5
        rw [XT]; obtain ⟨c0, c1, rfl⟩ := h5; have hl : c.toNat < row.length := by have := hf.1; omega
        rw [List.getD_eq_getElem?_getD, qQ_ hl]; exact (hf.2 c.toNat _ (qQ_ hl)).2
      · rename_i n2
        rw [if_neg n2] at h5; rcases kinds h0 with hk | hk | hk | hk | hk | hk | hk | hk | hk | hk | hk | hk | hk
        · contradiction
        · contradiction
        · exact uj_
        · exact uj_
        · exact uj_
        · rw [Ud hk]
          have e : T = 2 := by
            rw [if_neg vU_] at h5; unfold zQ at h5; rw [if_neg vU_, if_pos vU_] at h5; split at h5 <;> simp at h5
            exact h5.symm
          subst e; exact Fa _ _ _
        · exact ud_
        · exact ud_
        · exact ud_
        · subst hk
          have e : T = 4 := by
            rw [if_neg vT_] at h5; unfold zQ at h5; rw [if_neg vT_, if_neg vT_, if_neg vT_, if_pos vT_] at h5; split at h5 <;> simp at h5
            exact h5.symm
          subst e; exact Dw _ _
        · subst hk
          rw [if_pos rfl] at h5; subst h5; exact .inr rfl
        · subst hk
          have k17 : zy 17 = 3 := rfl; have i1 := ih 1 (h4 1 vU_); have i2 := ih 2 (h4 2 vU_); rw [if_neg vT_] at h5; unfold zQ at h5; rw [if_neg vT_, if_neg vT_, if_neg vT_, if_neg vT_, if_pos vT_] at h5; split at h5
          · rename_i hc
            simp only [Prod.mk.injEq, and_true] at h5; simp only [yN, Bool.and_eq_true, Bool.or_eq_true, decide_eq_true_eq] at hc; have hc1 := hc.1; rw [show JC 17 (yk row (kid 0)) (yk row (kid 1)) (yk row (kid 2)) = (if ym (yk row (kid 0)) = 2 then yk row (kid 1) else yk row (kid 2)) from rfl]; unfold qi at h5; split <;> split at h5 <;> try split at h5
            all_goals omega
          · simp at h5
        · subst hk
          have k18 : zy 18 = 2 := rfl; have i0 := ih 0 (h4 0 vU_); have i1 := ih 1 (h4 1 vU_); rw [if_neg vT_] at h5; unfold zQ at h5; rw [if_neg vT_, if_neg vT_, if_neg vT_, if_neg vT_, if_neg vT_] at h5; split at h5
          · rename_i hc
            simp only [Prod.mk.injEq, and_true] at h5; simp only [yN, Bool.or_eq_true, decide_eq_true_eq] at hc; rw [show JC 18 (yk row (kid 0)) (yk row (kid 1)) (yk row (kid 2)) = (if (yk row (kid 0)).k = 1 then yk row (kid 1) else yk row (kid 0)) from rfl]; unfold qi at h5; split <;> split at h5 <;> try split at h5
            all_goals omega
          · simp at h5
def Le (a b : V) : Prop := a.k = 1 \/ a = b
theorem Le.refl (a : V) : Le a a := .inr rfl
def zV : V := ⟨0, 0, es⟩
def V5 (k : Int) (a : E) (A : Option Addr) : E := .mk k zV 0 A 1 1 (fun _ => a)
def Wo (k : Int) (a b : E) (A : Option Addr) : E := .mk k zV 0 A 2 2 (fun i => if i = 0 then a else b)
def qW (k : Int) (a b c : E) (A : Option Addr) : E := .mk k zV 0 A 3 3 (fun i => if i = 0 then a else if i = 1 then b else c)
theorem Ed (k : Int) (a b : E) (A : Option Addr) : YY (Wo k a b A) = 1 + (YY a + YY b) := by simp [Wo, YY, j5]
theorem UI (k : Int) (a b c : E) (A : Option Addr) : YY (qW k a b c A) = 1 + (YY a + YY b + YY c) := by simp [qW, YY, j5]
theorem EW (k : Int) (a b : E) (A : Option Addr) (d : Int) : WH (Wo k a b A) d ↔ d <= 20 /\ WH a (d + 1) /\ WH b (d + 1) := by
  simp only [Wo, WH]
  constructor
  · rintro ⟨h1, h2⟩; exact ⟨h1, by simpa using h2 0 vU_, by simpa using h2 1 vU_⟩
  · rintro ⟨h1, h2, h3⟩
    refine ⟨h1, fun i hi => ?_⟩
    by_cases h : i = 0
    · simpa [h] using h2
    · simpa [h] using h3
theorem Vz (k : Int) (a b c : E) (A : Option Addr) (d : Int) : WH (qW k a b c A) d ↔ d <= 20 /\ WH a (d + 1) /\ WH b (d + 1) /\ WH c (d + 1) := by
  simp only [qW, WH]
  constructor
  · rintro ⟨h1, h2⟩; exact ⟨h1, by simpa using h2 0 vU_, by simpa using h2 1 vU_, by simpa using h2 2 vU_⟩
  · rintro ⟨h1, h2, h3, h4⟩
    refine ⟨h1, fun i hi => ?_⟩
    by_cases h : i = 0
    · simpa [h] using h2
    · by_cases h' : i = 1
      · simpa [h'] using h3
      · simpa [h, h'] using h4
theorem P6 {cols : List Int} {k : Int} {v : V} {c : Int} {ts : List Int} {T : Int} (h1 : 1 <= zy k) (h16 : k ≠ 16) : CZ cols k v c ts T ↔ zQ k ts = (T, 0) := by
  have n1 : k ≠ 1 := by rintro rfl; revert h1; decide
  have n2 : k ≠ 2 := by rintro rfl; revert h1; decide
  simp [CZ, n1, n2, h16]
theorem En {cols : List Int} {k : Int} {a b : E} {A : Option Addr} {T : Int} (h : zy k = 2) : wt cols (Wo k a b A) T ↔ ∃ t u, wt cols a t /\ wt cols b u /\ zQ k [t, u] = (T, 0) := by
  have h16 : k ≠ 16 := by rintro rfl; revert h; decide
  simp only [Wo, wt]; rw [h]
  constructor
  · rintro ⟨_, _, ts, h1, h2, h3⟩
    rw [P6 vU_ h16] at h3
    match ts, h1 with
    | [t, u], _ => exact ⟨t, u, by simpa using h2 0 vU_, by simpa using h2 1 vU_, h3⟩
  · rintro ⟨t, u, h1, h2, h3⟩
    refine ⟨by omega, by omega, [t, u], rfl, fun i hi => ?_, (P6 vU_ h16).2 h3⟩
    match i, hi with
    | 0, _ => simpa using h1
    | 1, _ => simpa using h2
theorem U0 {cols : List Int} {a b c : E} {A : Option Addr} {T : Int} : wt cols (qW 17 a b c A) T ↔ ∃ t u s, wt cols a t /\ wt cols b u /\ wt cols c s /\ zQ 17 [t, u, s] = (T, 0) := by
  have h : zy 17 = 3 := rfl; simp only [qW, wt]; rw [h]
  constructor
  · rintro ⟨_, _, ts, h1, h2, h3⟩
    rw [P6 vU_ vT_] at h3
    match ts, h1 with
    | [t, u, s], _ => exact ⟨t, u, s, by simpa using h2 0 vU_, by simpa using h2 1 vU_, by simpa using h2 2 vU_, h3⟩
  · rintro ⟨t, u, s, h1, h2, h3, h4⟩
    refine ⟨by omega, by omega, [t, u, s], rfl, fun i hi => ?_, (P6 vU_ vT_).2 h4⟩
    match i, hi with
    | 0, _ => simpa using h1
    | 1, _ => simpa using h2
    | 2, _ => simpa using h3
theorem DR {row : List V} {k : Int} {a : E} {A : Option Addr} (h1 : k ≠ 1) (h2 : k ≠ 2) : yk row (V5 k a A) = JC k (yk row a) (yk row a) (yk row a) := by
  simp [V5, yk, h1, h2]
theorem DT {row : List V} {k : Int} {a b : E} {A : Option Addr} (h1 : k ≠ 1) (h2 : k ≠ 2) : yk row (Wo k a b A) = JC k (yk row a) (yk row b) (yk row b) := by
  simp [Wo, yk, h1, h2]
theorem Mi {row : List V} {a b c : E} {A : Option Addr} : yk row (qW 17 a b c A) = JC 17 (yk row a) (yk row b) (yk row c) := by
  simp [qW, yk]
structure Ka (cols : List Int) (e : E) (T : Int) : Prop where
  len : cols.length <= 16
  all : cols.all jr = true
  ty : wt cols e T
  deep : WH e 1
  size : YY e <= 200
theorem Mj {cols : List Int} {e : E} {T : Int} : zH cols e = (T, 0) ↔ Ka cols e T := by
  rw [JZ]; exact ⟨fun ⟨a, b, c, d, e⟩ => ⟨a, b, c, d, e⟩, fun ⟨a, b, c, d, e⟩ => ⟨a, b, c, d, e⟩⟩
theorem qD {cols : List Int} {e : E} (h : (zH cols e).2 = 0) : ∃ T, Ka cols e T := ⟨(zH cols e).1, Mj.1 (Prod.ext rfl h)⟩
theorem Ka.eval {cols : List Int} {e : E} {T : Int} (h : Ka cols e T) (row : List V) (hf : x6 cols row = 0) : xC cols row e = (yk row e, 0) := by
  have := Mj.2 h; simp [xC, this, hf]
theorem Kl {cols : List Int} {row : List V} {e : E} (h : (xC cols row e).2 = 0) : (∃ T, Ka cols e T) /\ je cols row /\ xC cols row e = (yk row e, 0) := by
  unfold xC at h; split at h
  · exact uD_
  · rename_i h1
    split at h
    · rename_i h2; exact absurd h h2
    · rename_i h2
      obtain ⟨T, hT⟩ := qD (Classical.byContradiction h1); have h2' : x6 cols row = 0 := Classical.byContradiction h2; exact ⟨⟨T, hT⟩, (yz cols row).1 h2', hT.eval row h2'⟩
theorem T2 {k t u : Int} (h : 6 <= k /\ k <= 11) : zQ k [t, u] = if yN t u then (2, 0) else (0, 9) := by
  unfold zQ; rw [if_neg vU_, if_pos vU_]; rfl
theorem T0 {k : Int} (h : 6 <= k /\ k <= 11) : zy k = 2 := by
  unfold zy; rw [if_neg vU_, if_neg vU_, if_pos vU_]
structure Ex (cols : List Int) (x y : E) : Prop where
  len : cols.length <= 16
  all : cols.all jr = true
  ty : ∃ t u, wt cols x t /\ wt cols y u /\ yN t u = true
  dx : WH x 3
  dy : WH y 3
  size : 3 + (YY x + YY y) + (YY x + YY y) <= 200
theorem Ex.two {cols : List Int} {x y : E} (h : Ex cols x y) {k : Int} (hk : 6 <= k /\ k <= 11) (A : Option Addr) : Ka cols (Wo k x y A) 2 := by
  obtain ⟨h1, h2, ⟨t, u, h3, h4, h5⟩, h6, h7, h8⟩ := h; have := jG x; have := jG y; refine ⟨h1, h2, (En (T0 hk)).2 ⟨t, u, h3, h4, by rw [T2 hk, h5]; rfl⟩, (EW _ _ _ _ _).2 ⟨by omega, kR x vU_ h6, kR y vU_ h7⟩, by rw [Ed]; omega⟩
theorem choose {cols : List Int} {row : List V} {c x y : E} {A B C D : Option Addr} (h1 : (xC cols row (qW 17 c x y A)).2 = 0) (h2 : (xC cols row (Wo 18 x y B)).2 = 0) (h3 : (xC cols row (qW 17 (V5 16 x C) y x D)).2 = 0) :
    (xC cols row c).2 = 0 /\ (xC cols row x).2 = 0 /\ (xC cols row y).2 = 0 /\
    (xC cols row (qW 17 c x y A)).1 = (if VN (xC cols row c).1 true then (xC cols row x).1 else (xC cols row y).1) /\
    (xC cols row (Wo 18 x y B)).1 = (if (xC cols row x).1.k = 1 then (xC cols row y).1 else (xC cols row x).1) /\
    (xC cols row (qW 17 (V5 16 x C) y x D)).1 = (if (xC cols row x).1.k = 1 then (xC cols row y).1 else (xC cols row x).1) := by
  obtain ⟨⟨T, hT⟩, hf, e1⟩ := Kl h1; obtain ⟨_, _, e2⟩ := Kl h2; obtain ⟨_, _, e3⟩ := Kl h3; have hf0 := (yz cols row).2 hf; obtain ⟨g1, g2, g3, g4, g5⟩ := hT; obtain ⟨t, u, s, g6, g7, g8, _⟩ := U0.1 g3; rw [Vz] at g4; rw [UI] at g5; have := jG c; have := jG x; have := jG y; have oc : Ka cols c t := ⟨g1, g2, g6, kR c vU_ g4.2.1, by omega⟩
  have ox : Ka cols x u := ⟨g1, g2, g7, kR x vU_ g4.2.2.1, by omega⟩
  have oy : Ka cols y s := ⟨g1, g2, g8, kR y vU_ g4.2.2.2, by omega⟩
  rw [e1, e2, e3, oc.eval row hf0, ox.eval row hf0, oy.eval row hf0]; simp only [true_and]; have rc := XM row hf.rv c (by rw [hf.1]; exact Xl c g6); refine ⟨?_, ?_, ?_⟩
  · rw [Mi]
    show (if ym (yk row c) = 2 then yk row x else yk row y) = _; rcases NZ (yk row c) rc with ⟨r1, _, r2⟩ | ⟨r1, _, r2⟩ | ⟨r1, _, r2⟩ <;> rw [r1, r2] <;> rfl
  · rw [DT vU_ vU_]; rfl
  · rw [Mi, DR vU_ vU_]
    show (if ym (xO (decide ((yk row x).k = 1))) = 2 then yk row y else yk row x) = _
    by_cases h : (yk row x).k = 1 <;> simp [h, xO, ym]
