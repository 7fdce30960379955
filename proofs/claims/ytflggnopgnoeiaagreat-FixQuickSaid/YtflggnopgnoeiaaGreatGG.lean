/- Parts of a proof. No condition. -/
import Derived.Test.YtflggnopgnoeiaaGreatGD
import Derived.Test.YtflggnopgnoeiaaGreatGC
set_option maxRecDepth 100000
set_option linter.unusedSimpArgs false
set_option linter.unusedVariables false
namespace Go
variable {p : Prop}
theorem uB_ (h : p := by simpa using h1) : p := h
theorem wn_ (h : p := by
 subst hk
 have e : T = 3 := by
  rw [if_neg uW_] at h5; unfold zx at h5; rw [if_neg uW_, if_neg uW_, if_pos uW_] at h5; split at h5 <;> simp at h5
  exact h5.symm
 subst e; exact JV _ _ _) : p := h
theorem wv_ (h : p := by
 subst hk
 have e : T = 2 := by
  rw [if_neg uW_] at h5; unfold zx at h5; split at h5
  ·split at h5 <;> simp at h5
   exact h5.symm
  ·omega
 subst e; exact Qi _) : p := h
theorem wX_ (h : p := by
 rename_i h1; exact absurd h h1) : p := h
theorem yl_ (h : p := by
 intro h; simp at h) : p := h
end Go
namespace Go.Proofs.YtflggnopgnoeiaaGreat
open Go.RowKit Go.Calm
def yC (k : Int) (a b : V) : V :=
 if k = 6 then Nb a b else if k = 7 then kN (Nb a b) else if k = 8 then qH a b else if k = 9 then kN (qH b a) else if k = 10 then qH b a else kN (qH a b)
def Mj (k : Int) (a b d : V) : V :=
 if k = 3 then kN a
 else if k = 4 then X7 a b
 else if k = 5 then N2 a b
 else if k = 12 then yx 43 a b
 else if k = 13 then yx 45 a b
 else if k = 14 then yx 42 a b
 else if k = 15 then jd a b
 else if k = 16 then qj (decide (a.k = 1))
 else if k = 17 then (if yB a = 2 then b else d)
 else if k = 18 then (if a.k = 1 then b else a)
 else yC k a b
def yu (row : List V) : E -> V
 | .leaf => yj
 | .mk k v c _ _ _ kid =>
  if k = 1 then bare v
  else if k = 2 then bare (row.getD c.toNat yj)
  else Mj k (yu row (kid 0)) (yu row (kid 1)) (yu row (kid 2))
inductive RE (n0 : Nat) : E -> Prop
 | mk {k : Int} {v : V} {c : Int} {A : Option Addr} {n cap : Nat} {kid : Nat -> E} (h0 : 0 <= zl k) (hn : (n : Int) = zl k) (hv : k = 1 -> RV v) (hc : k = 2 -> 0 <= c /\ c < (n0 : Int)) (hk : ∀ i, i < n -> RE n0 (kid i)) : RE n0 (.mk k v c A n cap kid)
theorem qu : RV yj := ⟨.inl rfl, fun h => by simp [yj] at h, fun h => by simp [yj] at h, fun h => by simp [yj] at h⟩
theorem Yt (b : Bool) : RV (qj b) := ⟨.inr (.inl rfl), fun _ => by cases b <;> simp [qj], fun h => by simp [qj] at h, fun h => by simp [qj] at h⟩
theorem Q8 (n : Int) : RV (xz n) := by
 unfold xz; split
 ·exact qu
 ·exact Yt _
theorem zbI (a b : V) : RV (X7 a b) := Q8 _
theorem zci (a b : V) : RV (N2 a b) := Q8 _
theorem S3 (a : V) : RV (kN a) := Q8 _
theorem zaL (a b : V) : RV (Nb a b) := by
 unfold Nb; split
 ·exact Yt _
 ·exact qu
theorem NH (a b : V) : RV (qH a b) := by
 unfold qH; split
 ·exact Yt _
 ·exact qu
theorem zbJ (k : Int) (a b : V) : RV (yC k a b) := by
 unfold yC
 repeat' split
 all_goals first | exact zaL _ _ | exact NH _ _ | exact S3 _
theorem Jd {v : V} (h : RV v) : RV (bare v) := by
 obtain ⟨h1, h2, h3, h4⟩ := h; unfold bare; split
 ·exact qu
 ·split
  ·exact ⟨.inr (.inr (.inr rfl)), fun h => by simp at h, fun h => by simp at h, fun _ => h4 uP_⟩
  ·exact ⟨h1, h2, h3, fun h => by simp at h; omega⟩
theorem T2 (n : Int) : RV (xT n) := by
 unfold xT; split
 ·exact EW _ uX_ uX_
 ·exact qu
theorem Bd (s : Int) (a b : V) : RV (yx s a b) := by
 unfold yx
 repeat' split
 all_goals first | exact T2 _ | exact qu
theorem zal (a b : V) : RV (jd a b) := by
 unfold jd; split
 ·rename_i h; exact ⟨.inr (.inr (.inr rfl)), fun h => by simp at h, fun h => by simp at h, fun _ => by simp; omega⟩
 ·exact qu
theorem zaM (k : Int) (a b d : V) (ha : RV a) (hb : RV b) (hd : RV d) : RV (Mj k a b d) := by
 unfold Mj
 repeat' split
 all_goals first | assumption | exact S3 _ | exact zbI _ _ | exact zci _ _ | exact Bd _ _ _ | exact zal _ _ | exact Yt _ | exact zbJ _ _ _
theorem zbK (k : Int) (a b d : V) (h1 : 1 <= zl k) (ha : RV a) (hb : 2 <= zl k -> RV b) (hd : 3 <= zl k -> RV d) : RV (Mj k a b d) := by
 by_cases h2 : 2 <= zl k
 ·by_cases h3 : 3 <= zl k
  ·exact zaM k a b d ha (hb h2) (hd h3)
  ·have hk : k ≠ 17 := by rintro rfl; exact h3 uW_
   have : Mj k a b d = Mj k a b yj := by unfold Mj; simp [hk]
   rw [this]; exact zaM k a b _ ha (hb h2) qu
 ·have hk : k = 3 \/ k = 16 := by
   unfold zl at h1 h2
   repeat' split at h1
   all_goals first | omega | (simp_all; done) | (exfalso; revert h2; simp_all)
  rcases hk with rfl | rfl
  ·exact S3 _
  ·exact Yt _
theorem Qu (row : List V) (hr : ∀ x ∈ row, RV x) (e : E) : RE row.length e -> RV (yu row e) := by
 intro h
 induction h with
 | mk h0 hn hv hc hk ih =>
  unfold yu; split
  ·exact Jd (hv uP_)
  ·split
   ·have := hc uP_; rename_i c _ _ _ _ _ _; have hl : c.toNat < row.length := by omega
    rw [List.getD_eq_getElem?_getD, qQ_ hl]; exact Jd (hr _ (List.getElem_mem hl))
   ·rename_i k v c A n cap kid h1 h2; have hz : zl k ≠ 0 := fun hz => by rcases YY hz with h8 | h8 <;> contradiction
    exact zbK k _ _ _ uX_ (ih 0 uX_) (fun h => ih 1 uX_) (fun h => ih 2 uX_)
def Xr (f : Nat -> Int) : Nat -> Int
 | 0 => 0
 | r + 1 => Xr f r + f r
theorem Kr (f : Nat -> Int) : ∀ r, Xr f (r + 1) = f 0 + Xr (fun j => f (j + 1)) r
 | 0 => by simp [Xr]
 | r + 1 => by
  have := Kr f r
  conv => lhs; unfold Xr
  rw [this]
  conv => rhs; arg 2; unfold Xr
  omega
theorem Qy {f : Nat -> Int} (h : ∀ i, 0 <= f i) : ∀ r, 0 <= Xr f r
 | 0 => by simp [Xr]
 | r + 1 => by have := Qy h r; have := h r; simp [Xr]; omega
def QA : E -> Int
 | .leaf => 1
 | .mk _ _ _ _ n _ kid => 1 + Xr (fun i => QA (kid i)) n
theorem kX (e : E) : 1 <= QA e := by
 induction e with
 | leaf => simp [QA]
 | mk k v c A n cap kid ih =>
  have := Qy (f := fun i => QA (kid i)) (fun i => by have := ih i; omega) n; simp only [QA]; omega
def K5 : E -> Int -> Prop
 | .leaf, d => d <= 20
 | .mk _ _ _ _ n _ kid, d => d <= 20 /\ ∀ i, i < n -> K5 (kid i) (d + 1)
theorem ja (e : E) : ∀ {d d' : Int}, d' <= d -> K5 e d -> K5 e d' := by
 induction e with
 | leaf => intro d d' h h1; simp only [K5] at h1 ⊢; omega
 | mk k v c A n cap kid ih =>
  intro d d' h h1; simp only [K5] at h1 ⊢; exact ⟨by omega, fun i hi => ih i uX_ (h1.2 i hi)⟩
def tyK (cols : List Int) (k : Int) (v : V) (c : Int) (ts : List Int) (T : Int) : Prop :=
 if k = 1 then zY v = 0 /\ T = v.k
 else if k = 2 then 0 <= c /\ c < (cols.length : Int) /\ T = cols.getD c.toNat 0
 else if k = 16 then T = 2
 else zx k ts = (T, 0)
def wt (cols : List Int) : E -> Int -> Prop
 | .leaf, _ => False
 | .mk k v c _ n _ kid, T => 0 <= zl k /\ (n : Int) = zl k /\ ∃ ts : List Int, ts.length = n /\ (∀ i, i < n -> wt cols (kid i) (ts.getD i 0)) /\ tyK cols k v c ts T
theorem WI {f : Nat -> Int -> Int × Int × Int} {W : Nat -> Int -> Prop} {D : Nat -> Prop} {s : Nat -> Int} (hs : ∀ i, 0 <= s i)
  (hf : ∀ i m T M, m <= 200 -> (f i m = (T, 0, M) ↔ W i T /\ D i /\ M = m + s i /\ m + s i <= 200)) :
  ∀ (r i : Nat) (m : Int) (ts : List Int) (M : Int) (us : List Int), m <= 200 ->
   (zT f r i m ts = (0, M, us) ↔ ∃ qs : List Int, qs.length = r /\ us = ts ++ qs /\ (∀ j, j < r -> W (i + j) (qs.getD j 0)) /\ (∀ j, j < r -> D (i + j)) /\ M = m + Xr (fun j => s (i + j)) r /\ m + Xr (fun j => s (i + j)) r <= 200)
 | 0, i, m, ts, M, us, hm => by
  simp only [zT, Xr]
  constructor
  ·rintro h; cases h; exact ⟨[], rfl, by simp, fun j hj => by omega, fun j hj => by omega, by omega, by omega⟩
  ·rintro ⟨qs, h1, h2, _, _, h3, _⟩; have : qs = [] := List.length_eq_zero_iff.1 h1; subst this; simp at h2 h3; rw [h2, h3]
 | r + 1, i, m, ts, M, us, hm => by
  unfold zT; obtain ⟨T, e, M1, hq⟩ : ∃ T e M1, f i m = (T, e, M1) := ⟨_, _, _, rfl⟩
  rw [hq]; simp only; have hsum := Kr (fun j => s (i + j)) r; have hre : (fun j => s (i + (j + 1))) = (fun j => s (i + 1 + j)) := by funext j; congr 1; omega
  simp only [hre, Nat.add_zero] at hsum; rw [hsum]; have hpos : 0 <= Xr (fun j => s (i + 1 + j)) r := Qy (fun j => hs _) r
  by_cases he : e = 0
  ·subst he; rw [if_pos rfl]; obtain ⟨g1, g2, g3, g4⟩ := (hf i m T M1 hm).1 hq; subst g3; rw [WI hs hf r (i + 1) (m + s i) (ts ++ [T]) M us g4]
   constructor
   ·rintro ⟨qs, h1, h2, h3, h4, h5, h6⟩; refine ⟨T :: qs, by simp [h1], by simp [h2], ?_, ?_, by omega, by omega⟩
    ·intro j hj; cases j with
     | zero => simpa using g1
     | succ j =>
      have := h3 j uX_; rw [show i + 1 + j = i + (j + 1) by omega] at this; simpa using this
    ·intro j hj; cases j with
     | zero => simpa using g2
     | succ j =>
      have := h4 j uX_
      rwa [show i + 1 + j = i + (j + 1) by omega] at this
   ·rintro ⟨qs, h1, h2, h3, h4, h5, h6⟩; cases qs with
    | nil => simp at h1
    | cons q qs =>
     have hw := h3 0 uX_; simp only [Nat.add_zero, List.getD_cons_zero] at hw; have := (hf i m q (m + s i) hm).2 ⟨hw, by simpa using h4 0 uX_, rfl, g4⟩; rw [hq] at this; obtain rfl : T = q := by simpa using this
     refine ⟨qs, by simpa using h1, by simp [h2], ?_, ?_, by omega, by omega⟩
     ·intro j hj; have := h3 (j + 1) uX_; rw [show i + (j + 1) = i + 1 + j by omega] at this; simpa using this
     ·intro j hj; have := h4 (j + 1) uX_
      rwa [show i + (j + 1) = i + 1 + j by omega] at this
  ·rw [if_neg he]
   constructor
   ·intro h; simp at h; exact absurd h.1 he
   ·rintro ⟨qs, h1, h2, h3, h4, h5, h6⟩; exfalso; have := (hf i m (qs.getD 0 0) (m + s i) hm).2 ⟨by simpa using h3 0 uX_, by simpa using h4 0 uX_, rfl, by omega⟩; rw [hq] at this; simp at this; exact he this.2.1
theorem Kx (cols : List Int) (e : E) : ∀ (deep m T M : Int), m <= 200 -> (yw cols e deep m = (T, 0, M) ↔ wt cols e T /\ K5 e deep /\ M = m + QA e /\ m + QA e <= 200) := by
 induction e with
 | leaf =>
  intro deep m T M hm; unfold yw wt
  constructor
  ·intro h; split at h <;> simp at h
  ·rintro ⟨h, _⟩; exact h.elim
 | mk k v c A n cap kid ih =>
  intro deep m T M hm; have hsz := kX (.mk k v c A n cap kid); unfold yw; simp only [wt, K5, QA]; have hpos : 0 <= Xr (fun i => QA (kid i)) n := Qy (fun i => by have := kX (kid i); omega) n
  by_cases h1 : 200 < m + 1 \/ 20 < deep
  ·rw [if_pos h1]
   constructor
   ·exact yl_
   ·rintro ⟨_, ⟨h2, _⟩, _, h3⟩; omega
  ·rw [if_neg h1]
   by_cases h2 : zl k < 0
   ·rw [if_pos h2]
    constructor
    ·exact yl_
    ·rintro ⟨⟨h3, _⟩, _⟩; omega
   ·rw [if_neg h2]
    by_cases h3 : (n : Int) ≠ zl k
    ·rw [if_pos h3]
     constructor
     ·exact yl_
     ·rintro ⟨⟨_, h4, _⟩, _⟩; omega
    ·rw [if_neg h3]
     have key := WI (f := fun i m' => yw cols (kid i) (deep + 1) m') (W := fun i T => wt cols (kid i) T) (D := fun i => K5 (kid i) (deep + 1)) (s := fun i => QA (kid i)) (fun i => by have := kX (kid i); omega)
      (fun i m T M hm => ih i (deep + 1) m T M hm) n 0 (m + 1)
     obtain ⟨e1, M1, us, hq⟩ : ∃ e1 M1 us, zT (fun i m' => yw cols (kid i) (deep + 1) m') n 0 (m + 1) [] = (e1, M1, us) := ⟨_, _, _, rfl⟩
     rw [hq]; simp only
     by_cases he : e1 = 0
     ·subst he; obtain ⟨qs, k1, k2, k3, k4, k5, k6⟩ := (key [] M1 us uX_).1 hq; simp only [List.nil_append, Nat.zero_add] at k2 k3 k4 k5 k6; subst k2; rw [if_neg uY_]
      have tk : (if k = 1 then (v.k, zY v, M1) else if k = 2 then (if c < 0 \/ (cols.length : Int) <= c then (0, 7, M1) else (cols.getD c.toNat 0, 0, M1)) else if k = 16 then (2, 0, M1) else ((zx k us).1, (zx k us).2, M1)) = (T, (0 : Int), M) ↔ tyK cols k v c us T /\ M = M1 := by
       unfold tyK; split
       ·simp; constructor
        ·rintro ⟨rfl, h, rfl⟩; exact ⟨⟨h, rfl⟩, rfl⟩
        ·rintro ⟨⟨h, rfl⟩, rfl⟩; exact ⟨rfl, h, rfl⟩
       ·split
        ·split
         ·rename_i h5
          constructor
          ·exact yl_
          ·rintro ⟨⟨_, _, _⟩, _⟩; omega
         ·rename_i h5; simp
          constructor
          ·rintro ⟨rfl, rfl⟩; exact ⟨⟨by omega, by omega, rfl⟩, rfl⟩
          ·rintro ⟨⟨_, _, rfl⟩, rfl⟩; exact ⟨rfl, rfl⟩
        ·split
         ·simp; constructor
          ·rintro ⟨rfl, rfl⟩; exact ⟨rfl, rfl⟩
          ·rintro ⟨rfl, rfl⟩; exact ⟨rfl, rfl⟩
         ·obtain ⟨p, q⟩ := zx k us; simp; constructor
          ·rintro ⟨rfl, rfl, rfl⟩; exact ⟨⟨rfl, rfl⟩, rfl⟩
          ·rintro ⟨⟨rfl, rfl⟩, rfl⟩; exact ⟨rfl, rfl, rfl⟩
      rw [tk]
      constructor
      ·rintro ⟨h4, rfl⟩; exact ⟨⟨by omega, by omega, us, k1, k3, h4⟩, ⟨by omega, k4⟩, by omega, by omega⟩
      ·rintro ⟨⟨_, _, ts, g1, g2, g3⟩, ⟨_, g4⟩, g5, g6⟩; have := (key [] (m + 1 + Xr (fun i => QA (kid i)) n) ts uX_).2 ⟨ts, g1, by simp, by simpa using g2, by simpa using g4, by simp, by simp; omega⟩; rw [hq] at this; obtain ⟨rfl, rfl⟩ : M1 = m + 1 + Xr (fun i => QA (kid i)) n /\ us = ts := by simpa using this
       exact ⟨g3, by omega⟩
     ·rw [if_pos he]
      constructor
      ·intro h; simp at h; exact absurd h.2.1 he
      ·rintro ⟨⟨_, _, ts, g1, g2, g3⟩, ⟨_, g4⟩, g5, g6⟩; exfalso; have := (key [] (m + 1 + Xr (fun i => QA (kid i)) n) ts uX_).2 ⟨ts, g1, by simp, by simpa using g2, by simpa using g4, by simp, by simp; omega⟩; rw [hq] at this; simp at this; exact he this.1
theorem QH {cols : List Int} (e : E) : ∀ {T : Int}, wt cols e T -> RE cols.length e := by
 induction e with
 | leaf => intro T h; exact h.elim
 | mk k v c A n cap kid ih =>
  intro T h; simp only [wt] at h; obtain ⟨h1, h2, ts, h3, h4, h5⟩ := h; refine .mk h1 h2 (fun hk => ?_) (fun hk => ?_) (fun i hi => ih i (h4 i hi))
  ·unfold tyK at h5; rw [if_pos hk] at h5; exact (RV.of v).1 h5.1
  ·unfold tyK at h5; rw [if_neg uX_, if_pos hk] at h5; exact ⟨h5.1, h5.2.1⟩
theorem MN (cols : List Int) (e : E) (T : Int) : zD cols e = (T, 0) ↔ cols.length <= 16 /\ cols.all xR = true /\ wt cols e T /\ K5 e 1 /\ QA e <= 200 := by
 unfold zD
 by_cases h1 : 16 < cols.length
 ·rw [if_pos h1]
  constructor
  ·exact yl_
  ·rintro ⟨h, _⟩; omega
 ·rw [if_neg h1]; cases h2 : cols.all xR
  ·rw [if_pos rfl]
   constructor
   ·exact yl_
   ·rintro ⟨_, h, _⟩; simp at h
  ·rw [if_neg uY_]; obtain ⟨q1, q2, q3, hq⟩ : ∃ q1 q2 q3, yw cols e 1 0 = (q1, q2, q3) := ⟨_, _, _, rfl⟩
   rw [hq]; simp only
   by_cases h3 : q2 = 0
   ·subst h3; rw [if_neg uY_]; obtain ⟨g1, g2, g3, g4⟩ := (Kx cols e 1 0 q1 q3 uX_).1 hq
    constructor
    ·intro h; obtain rfl : q1 = T := by simpa using h
     exact ⟨by omega, trivial, g1, g2, by omega⟩
    ·rintro ⟨_, _, k1, _, _⟩; have := (Kx cols e 1 0 T q3 uX_).2 ⟨k1, g2, g3, g4⟩; rw [hq] at this; simp at this; simp [this]
   ·rw [if_pos h3]
    constructor
    ·intro h; simp at h; exact absurd h.2 h3
    ·rintro ⟨_, _, k1, k2, k3⟩; exfalso; have := (Kx cols e 1 0 T (QA e) uX_).2 ⟨k1, k2, by omega, by omega⟩; rw [hq] at this; simp at this; exact h3 this.2.1
def Qe : List V -> List Int -> Int
 | [], _ => 0
 | v :: vs, ts => if zY v ≠ 0 then zY v else if v.k ≠ 1 /\ v.k ≠ ts.headD 0 then 9 else Qe vs ts.tail
def x6 (cols : List Int) (row : List V) : Int := if row.length ≠ cols.length then 8 else Qe row cols
def jU (cols : List Int) (row : List V) : Prop := row.length = cols.length /\ ∀ i, ∀ v, row[i]? = some v -> RV v /\ (v.k = 1 \/ v.k = cols.getD i 0)
theorem Px : ∀ (row : List V) (ts : List Int), Qe row ts = 0 ↔ ∀ i v, row[i]? = some v -> RV v /\ (v.k = 1 \/ v.k = ts.getD i 0)
 | [], ts => by simp [Qe]
 | v :: vs, ts => by
  unfold Qe
  by_cases h1 : zY v = 0
  ·rw [if_neg uB_]
   by_cases h2 : v.k ≠ 1 /\ v.k ≠ ts.headD 0
   ·rw [if_pos h2]
    constructor
    ·exact yl_
    ·intro h; have := (h 0 v rfl).2; cases ts <;> simp_all
   ·rw [if_neg h2, Px vs ts.tail]
    constructor
    ·intro h i x hx; cases i with
     | zero =>
      simp at hx; subst hx; refine ⟨(RV.of _).1 h1, ?_⟩; cases ts <;> simp_all <;> omega
     | succ i =>
      have := h i x uw_; cases ts <;> simpa using this
    ·intro h i x hx; have := h (i + 1) x uw_; cases ts <;> simpa using this
  ·rw [if_pos h1]
   constructor
   ·intro h; exact absurd h h1
   ·intro h; exact absurd ((RV.of _).2 (h 0 v rfl).1) h1
theorem y7 (cols : List Int) (row : List V) : x6 cols row = 0 ↔ jU cols row := by
 unfold x6 jU
 by_cases h : row.length = cols.length
 ·rw [if_neg (by simpa using h), Px]; simp [h]
 ·rw [if_pos h]; simp [h]
def qe (cols : List Int) (row : List V) (e : E) : V × Int :=
 if (zD cols e).2 ≠ 0 then (⟨0, 0, es⟩, (zD cols e).2)
 else if x6 cols row ≠ 0 then (⟨0, 0, es⟩, x6 cols row)
 else (yu row e, 0)
theorem jU.rv {cols : List Int} {row : List V} (h : jU cols row) : ∀ x ∈ row, RV x := fun x hx => by
 obtain ⟨i, hi, rfl⟩ := List.getElem_of_mem hx; exact (h.2 i _ (qQ_ hi)).1
theorem Qi (n : Int) : (xz n).k = 1 \/ (xz n).k = 2 := by
 unfold xz qj; split <;> simp
theorem zcQ (a b : V) : (Nb a b).k = 1 \/ (Nb a b).k = 2 := by
 unfold Nb qj; split <;> simp
theorem za9 (a b : V) : (qH a b).k = 1 \/ (qH a b).k = 2 := by
 unfold qH qj; split <;> simp
theorem zb5 (k : Int) (a b : V) : (yC k a b).k = 1 \/ (yC k a b).k = 2 := by
 unfold yC
 repeat' split
 all_goals first | exact zcQ _ _ | exact za9 _ _ | exact Qi _
theorem SA (n : Int) : (xT n).k = 1 \/ (xT n).k = 3 := by
 unfold xT; split <;> simp
theorem JV (s : Int) (a b : V) : (yx s a b).k = 1 \/ (yx s a b).k = 3 := by
 unfold yx
 repeat' split
 all_goals first | exact SA _ | simp
theorem za8 (a b : V) : (jd a b).k = 1 \/ (jd a b).k = 4 := by
 unfold jd; split <;> simp
theorem kinds {k : Int} (h : 0 <= zl k) : k = 1 \/ k = 2 \/ k = 3 \/ k = 4 \/ k = 5 \/ (6 <= k /\ k <= 11) \/ k = 12 \/ k = 13 \/ k = 14 \/ k = 15 \/ k = 16 \/ k = 17 \/ k = 18 := x5_
theorem D9 {k : Int} (h : 6 <= k /\ k <= 11) (a b d : V) : Mj k a b d = yC k a b := by
 unfold Mj; rw [if_neg uX_, if_neg uX_, if_neg uX_, if_neg uX_, if_neg uX_, if_neg uX_, if_neg uX_, if_neg uX_, if_neg uX_, if_neg uX_]
theorem zcf {cols : List Int} {row : List V} (hf : jU cols row) (e : E) : ∀ {T : Int}, wt cols e T -> (yu row e).k = 1 \/ (yu row e).k = T := by
 induction e with
 | leaf => intro T h; exact h.elim
 | mk k v c A n cap kid ih =>
  intro T h; simp only [wt] at h; obtain ⟨h0, hn, ts, h3, h4, h5⟩ := h; unfold yu; unfold tyK at h5; split
  ·rw [if_pos uP_] at h5; rw [Zl]; exact .inr h5.2.symm
  ·rename_i n1; rw [if_neg n1] at h5; split
   ·rw [if_pos uP_] at h5; rw [Zl]; obtain ⟨c0, c1, rfl⟩ := h5; have hl : c.toNat < row.length := by have := hf.1; omega
    rw [List.getD_eq_getElem?_getD, qQ_ hl]; exact (hf.2 c.toNat _ (qQ_ hl)).2
   ·rename_i n2; rw [if_neg n2] at h5; rcases kinds h0 with hk | hk | hk | hk | hk | hk | hk | hk | hk | hk | hk | hk | hk
    ·contradiction
    ·contradiction
    ·exact wv_
    ·exact wv_
    ·exact wv_
    ·rw [D9 hk]
     have e : T = 2 := by
      rw [if_neg uX_] at h5; unfold zx at h5; rw [if_neg uX_, if_pos uX_] at h5; split at h5 <;> simp at h5
      exact h5.symm
     subst e; exact zb5 _ _ _
    ·exact wn_
    ·exact wn_
    ·exact wn_
    ·subst hk
     have e : T = 4 := by
      rw [if_neg uW_] at h5; unfold zx at h5; rw [if_neg uW_, if_neg uW_, if_neg uW_, if_pos uW_] at h5; split at h5 <;> simp at h5
      exact h5.symm
     subst e; exact za8 _ _
    ·subst hk; rw [if_pos rfl] at h5; subst h5; exact .inr rfl
    ·subst hk; have k17 : zl 17 = 3 := rfl; have i1 := ih 1 (h4 1 uX_); have i2 := ih 2 (h4 2 uX_); rw [if_neg uW_] at h5; unfold zx at h5; rw [if_neg uW_, if_neg uW_, if_neg uW_, if_neg uW_, if_pos uW_] at h5; split at h5
     ·rename_i hc; simp only [Prod.mk.injEq, and_true] at h5; simp only [yk, Bool.and_eq_true, Bool.or_eq_true, decide_eq_true_eq] at hc; have hc1 := hc.1; rw [show Mj 17 (yu row (kid 0)) (yu row (kid 1)) (yu row (kid 2)) = (if yB (yu row (kid 0)) = 2 then yu row (kid 1) else yu row (kid 2)) from rfl]; unfold xm at h5; split <;> split at h5 <;> try split at h5
      all_goals omega
     ·simp at h5
    ·subst hk; have k18 : zl 18 = 2 := rfl; have i0 := ih 0 (h4 0 uX_); have i1 := ih 1 (h4 1 uX_); rw [if_neg uW_] at h5; unfold zx at h5; rw [if_neg uW_, if_neg uW_, if_neg uW_, if_neg uW_, if_neg uW_] at h5; split at h5
     ·rename_i hc; simp only [Prod.mk.injEq, and_true] at h5; simp only [yk, Bool.or_eq_true, decide_eq_true_eq] at hc; rw [show Mj 18 (yu row (kid 0)) (yu row (kid 1)) (yu row (kid 2)) = (if (yu row (kid 0)).k = 1 then yu row (kid 1) else yu row (kid 0)) from rfl]; unfold xm at h5; split <;> split at h5 <;> try split at h5
      all_goals omega
     ·simp at h5
def Le (a b : V) : Prop := a.k = 1 \/ a = b
theorem Le.refl (a : V) : Le a a := .inr rfl
def zV : V := ⟨0, 0, es⟩
def Ho (k : Int) (a : E) (A : Option Addr) : E := .mk k zV 0 A 1 1 (fun _ => a)
def QE (k : Int) (a b : E) (A : Option Addr) : E := .mk k zV 0 A 2 2 (fun i => if i = 0 then a else b)
def jP (k : Int) (a b c : E) (A : Option Addr) : E := .mk k zV 0 A 3 3 (fun i => if i = 0 then a else if i = 1 then b else c)
theorem NU (k : Int) (a b : E) (A : Option Addr) : QA (QE k a b A) = 1 + (QA a + QA b) := by simp [QE, QA, Xr]
theorem Fn (k : Int) (a b c : E) (A : Option Addr) : QA (jP k a b c A) = 1 + (QA a + QA b + QA c) := by simp [jP, QA, Xr]
theorem Tv (k : Int) (a b : E) (A : Option Addr) (d : Int) : K5 (QE k a b A) d ↔ d <= 20 /\ K5 a (d + 1) /\ K5 b (d + 1) := by
 simp only [QE, K5]
 constructor
 ·rintro ⟨h1, h2⟩; exact ⟨h1, by simpa using h2 0 uX_, by simpa using h2 1 uX_⟩
 ·rintro ⟨h1, h2, h3⟩; refine ⟨h1, fun i hi => ?_⟩
  by_cases h : i = 0
  ·simpa [h] using h2
  ·simpa [h] using h3
theorem Gt (k : Int) (a b c : E) (A : Option Addr) (d : Int) : K5 (jP k a b c A) d ↔ d <= 20 /\ K5 a (d + 1) /\ K5 b (d + 1) /\ K5 c (d + 1) := by
 simp only [jP, K5]
 constructor
 ·rintro ⟨h1, h2⟩; exact ⟨h1, by simpa using h2 0 uX_, by simpa using h2 1 uX_, by simpa using h2 2 uX_⟩
 ·rintro ⟨h1, h2, h3, h4⟩; refine ⟨h1, fun i hi => ?_⟩
  by_cases h : i = 0
  ·simpa [h] using h2
  ·by_cases h' : i = 1
   ·simpa [h'] using h3
   ·simpa [h, h'] using h4
theorem Uj {cols : List Int} {k : Int} {v : V} {c : Int} {ts : List Int} {T : Int} (h1 : 1 <= zl k) (h16 : k ≠ 16) : tyK cols k v c ts T ↔ zx k ts = (T, 0) := by
 have n1 : k ≠ 1 := by rintro rfl; revert h1; decide
 have n2 : k ≠ 2 := by rintro rfl; revert h1; decide
 simp [tyK, n1, n2, h16]
theorem FQ {cols : List Int} {k : Int} {a b : E} {A : Option Addr} {T : Int} (h : zl k = 2) : wt cols (QE k a b A) T ↔ ∃ t u, wt cols a t /\ wt cols b u /\ zx k [t, u] = (T, 0) := by
 have h16 : k ≠ 16 := by rintro rfl; revert h; decide
 simp only [QE, wt]; rw [h]
 constructor
 ·rintro ⟨_, _, ts, h1, h2, h3⟩; rw [Uj uX_ h16] at h3
  match ts, h1 with
  | [t, u], _ => exact ⟨t, u, by simpa using h2 0 uX_, by simpa using h2 1 uX_, h3⟩
 ·rintro ⟨t, u, h1, h2, h3⟩; refine ⟨by omega, by omega, [t, u], rfl, fun i hi => ?_, (Uj uX_ h16).2 h3⟩
  match i, hi with
  | 0, _ => simpa using h1
  | 1, _ => simpa using h2
theorem FP {cols : List Int} {a b c : E} {A : Option Addr} {T : Int} : wt cols (jP 17 a b c A) T ↔ ∃ t u s, wt cols a t /\ wt cols b u /\ wt cols c s /\ zx 17 [t, u, s] = (T, 0) := by
 have h : zl 17 = 3 := rfl; simp only [jP, wt]; rw [h]
 constructor
 ·rintro ⟨_, _, ts, h1, h2, h3⟩; rw [Uj uX_ uW_] at h3
  match ts, h1 with
  | [t, u, s], _ => exact ⟨t, u, s, by simpa using h2 0 uX_, by simpa using h2 1 uX_, by simpa using h2 2 uX_, h3⟩
 ·rintro ⟨t, u, s, h1, h2, h3, h4⟩; refine ⟨by omega, by omega, [t, u, s], rfl, fun i hi => ?_, (Uj uX_ uW_).2 h4⟩
  match i, hi with
  | 0, _ => simpa using h1
  | 1, _ => simpa using h2
  | 2, _ => simpa using h3
theorem zbu {row : List V} {k : Int} {a : E} {A : Option Addr} (h1 : k ≠ 1) (h2 : k ≠ 2) : yu row (Ho k a A) = Mj k (yu row a) (yu row a) (yu row a) := by
 simp [Ho, yu, h1, h2]
theorem zbw {row : List V} {k : Int} {a b : E} {A : Option Addr} (h1 : k ≠ 1) (h2 : k ≠ 2) : yu row (QE k a b A) = Mj k (yu row a) (yu row b) (yu row b) := by
 simp [QE, yu, h1, h2]
theorem PY {row : List V} {a b c : E} {A : Option Addr} : yu row (jP 17 a b c A) = Mj 17 (yu row a) (yu row b) (yu row c) := by
 simp [jP, yu]
structure KR (cols : List Int) (e : E) (T : Int) : Prop where
 len : cols.length <= 16
 all : cols.all xR = true
 ty : wt cols e T
 deep : K5 e 1
 size : QA e <= 200
theorem J4 {cols : List Int} {e : E} {T : Int} : zD cols e = (T, 0) ↔ KR cols e T := by
 rw [MN]; exact ⟨fun ⟨a, b, c, d, e⟩ => ⟨a, b, c, d, e⟩, fun ⟨a, b, c, d, e⟩ => ⟨a, b, c, d, e⟩⟩
theorem kR {cols : List Int} {e : E} (h : (zD cols e).2 = 0) : ∃ T, KR cols e T := ⟨(zD cols e).1, J4.1 (Prod.ext rfl h)⟩
theorem KR.eval {cols : List Int} {e : E} {T : Int} (h : KR cols e T) (row : List V) (hf : x6 cols row = 0) : qe cols row e = (yu row e, 0) := by
 have := J4.2 h; simp [qe, this, hf]
theorem Nc {cols : List Int} {row : List V} {e : E} (h : (qe cols row e).2 = 0) : (∃ T, KR cols e T) /\ jU cols row /\ qe cols row e = (yu row e, 0) := by
 unfold qe at h; split at h
 ·exact wX_
 ·rename_i h1; split at h
  ·rename_i h2; exact absurd h h2
  ·rename_i h2; obtain ⟨T, hT⟩ := kR (Classical.byContradiction h1); have h2' : x6 cols row = 0 := Classical.byContradiction h2; exact ⟨⟨T, hT⟩, (y7 cols row).1 h2', hT.eval row h2'⟩
theorem DK {k t u : Int} (h : 6 <= k /\ k <= 11) : zx k [t, u] = if yk t u then (2, 0) else (0, 9) := by
 unfold zx; rw [if_neg uX_, if_pos uX_]; rfl
theorem DG {k : Int} (h : 6 <= k /\ k <= 11) : zl k = 2 := by
 unfold zl; rw [if_neg uX_, if_neg uX_, if_pos uX_]
structure FZ (cols : List Int) (x y : E) : Prop where
 len : cols.length <= 16
 all : cols.all xR = true
 ty : ∃ t u, wt cols x t /\ wt cols y u /\ yk t u = true
 dx : K5 x 3
 dy : K5 y 3
 size : 3 + (QA x + QA y) + (QA x + QA y) <= 200
theorem FZ.two {cols : List Int} {x y : E} (h : FZ cols x y) {k : Int} (hk : 6 <= k /\ k <= 11) (A : Option Addr) : KR cols (QE k x y A) 2 := by
 obtain ⟨h1, h2, ⟨t, u, h3, h4, h5⟩, h6, h7, h8⟩ := h; have := kX x; have := kX y; refine ⟨h1, h2, (FQ (DG hk)).2 ⟨t, u, h3, h4, by rw [DK hk, h5]; rfl⟩, (Tv _ _ _ _ _).2 ⟨by omega, ja x uX_ h6, ja y uX_ h7⟩, by rw [NU]; omega⟩
theorem FZ.or {cols : List Int} {x y : E} (h : FZ cols x y) {k l : Int} (hk : 6 <= k /\ k <= 11) (hl : 6 <= l /\ l <= 11) (A B C : Option Addr) : KR cols (QE 5 (QE k x y A) (QE l x y B) C) 2 := by
 have h0 := h.two hk A; have h0' := h.two hl B; obtain ⟨h1, h2, ⟨t, u, h3, h4, h5⟩, h6, h7, h8⟩ := h; refine ⟨h1, h2, (FQ (by rfl)).2 ⟨2, 2, h0.ty, h0'.ty, rfl⟩, (Tv _ _ _ _ _).2 ⟨by omega, (Tv _ _ _ _ _).2 ⟨by omega, ja x uX_ h6, ja y uX_ h7⟩, (Tv _ _ _ _ _).2 ⟨by omega, ja x uX_ h6, ja y uX_ h7⟩⟩, by rw [NU, NU, NU]; omega⟩
theorem choose {cols : List Int} {row : List V} {c x y : E} {A B C D : Option Addr} (h1 : (qe cols row (jP 17 c x y A)).2 = 0) (h2 : (qe cols row (QE 18 x y B)).2 = 0) (h3 : (qe cols row (jP 17 (Ho 16 x C) y x D)).2 = 0) :
  (qe cols row c).2 = 0 /\ (qe cols row x).2 = 0 /\ (qe cols row y).2 = 0 /\
  (qe cols row (jP 17 c x y A)).1 = (if GI (qe cols row c).1 true then (qe cols row x).1 else (qe cols row y).1) /\
  (qe cols row (QE 18 x y B)).1 = (if (qe cols row x).1.k = 1 then (qe cols row y).1 else (qe cols row x).1) /\
  (qe cols row (jP 17 (Ho 16 x C) y x D)).1 = (if (qe cols row x).1.k = 1 then (qe cols row y).1 else (qe cols row x).1) := by
 obtain ⟨⟨T, hT⟩, hf, e1⟩ := Nc h1; obtain ⟨_, _, e2⟩ := Nc h2; obtain ⟨_, _, e3⟩ := Nc h3; have hf0 := (y7 cols row).2 hf; obtain ⟨g1, g2, g3, g4, g5⟩ := hT; obtain ⟨t, u, s, g6, g7, g8, _⟩ := FP.1 g3; rw [Gt] at g4; rw [Fn] at g5; have := kX c; have := kX x; have := kX y; have oc : KR cols c t := ⟨g1, g2, g6, ja c uX_ g4.2.1, by omega⟩
 have ox : KR cols x u := ⟨g1, g2, g7, ja x uX_ g4.2.2.1, by omega⟩
 have oy : KR cols y s := ⟨g1, g2, g8, ja y uX_ g4.2.2.2, by omega⟩
 rw [e1, e2, e3, oc.eval row hf0, ox.eval row hf0, oy.eval row hf0]; simp only [true_and]; have rc := Qu row hf.rv c (by rw [hf.1]; exact QH c g6); refine ⟨?_, ?_, ?_⟩
 ·rw [PY]; show (if yB (yu row c) = 2 then yu row x else yu row y) = _; rcases SU (yu row c) rc with ⟨r1, _, r2⟩ | ⟨r1, _, r2⟩ | ⟨r1, _, r2⟩ <;> rw [r1, r2] <;> rfl
 ·rw [zbw uX_ uX_]; rfl
 ·rw [PY, zbu uX_ uX_]; show (if yB (qj (decide ((yu row x).k = 1))) = 2 then yu row y else yu row x) = _
  by_cases h : (yu row x).k = 1 <;> simp [h, qj, yB]
