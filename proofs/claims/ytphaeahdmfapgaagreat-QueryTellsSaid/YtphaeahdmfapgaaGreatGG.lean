/- Parts of a proof. No condition. -/
import Derived.Test.YtphaeahdmfapgaaGreatGD
import Derived.Test.YtphaeahdmfapgaaGreatGC
set_option maxRecDepth 100000
set_option linter.unusedSimpArgs false
set_option linter.unusedVariables false
namespace Go
variable {p : Prop}
theorem uM_ (h : p := by simpa using h1) : p := h
theorem wH_ (h : p := by
 subst hk
 have e : T = 3 := by
  rw [if_neg u3_] at h5; unfold zB at h5; rw [if_neg u3_, if_neg u3_, if_pos u3_] at h5; split at h5 <;> simp at h5
  exact h5.symm
 subst e; exact Wv _ _ _) : p := h
theorem wS_ (h : p := by
 subst hk
 have e : T = 2 := by
  rw [if_neg u3_] at h5; unfold zB at h5; split at h5
  ·split at h5 <;> simp at h5
   exact h5.symm
  ·omega
 subst e; exact Zj _) : p := h
theorem xi_ (h : p := by
 rename_i h1; exact absurd h h1) : p := h
theorem yq_ (h : p := by
 intro h; simp at h) : p := h
end Go
namespace Go.Proofs.YtphaeahdmfapgaaGreat
open Go.RowKit Go.Calm
def zG (k : Int) (a b : V) : V :=
 if k = 6 then Wf a b else if k = 7 then qr (Wf a b) else if k = 8 then yT a b else if k = 9 then qr (yT b a) else if k = 10 then yT b a else qr (yT a b)
def QP (k : Int) (a b d : V) : V :=
 if k = 3 then qr a
 else if k = 4 then jN a b
 else if k = 5 then WC a b
 else if k = 12 then zJ 43 a b
 else if k = 13 then zJ 45 a b
 else if k = 14 then zJ 42 a b
 else if k = 15 then y6 a b
 else if k = 16 then yB (decide (a.k = 1))
 else if k = 17 then (if yq a = 2 then b else d)
 else if k = 18 then (if a.k = 1 then b else a)
 else zG k a b
def yd (row : List V) : E -> V
 | .leaf => zR
 | .mk k v c _ _ _ kid =>
  if k = 1 then bare v
  else if k = 2 then bare (row.getD c.toNat zR)
  else QP k (yd row (kid 0)) (yd row (kid 1)) (yd row (kid 2))
inductive RE (n0 : Nat) : E -> Prop
 | mk {k : Int} {v : V} {c : Int} {A : Option Addr} {n cap : Nat} {kid : Nat -> E} (h0 : 0 <= zl k) (hn : (n : Int) = zl k) (hv : k = 1 -> RV v) (hc : k = 2 -> 0 <= c /\ c < (n0 : Int)) (hk : ∀ i, i < n -> RE n0 (kid i)) : RE n0 (.mk k v c A n cap kid)
theorem qw : RV zR := ⟨.inl rfl, fun h => by simp [zR] at h, fun h => by simp [zR] at h, fun h => by simp [zR] at h⟩
theorem XX (b : Bool) : RV (yB b) := ⟨.inr (.inl rfl), fun _ => by cases b <;> simp [yB], fun h => by simp [yB] at h, fun h => by simp [yB] at h⟩
theorem Qf (n : Int) : RV (yP n) := by
 unfold yP; split
 ·exact qw
 ·exact XX _
theorem E6 (a b : V) : RV (jN a b) := Qf _
theorem FW (a b : V) : RV (WC a b) := Qf _
theorem Py (a : V) : RV (qr a) := Qf _
theorem DQ (a b : V) : RV (Wf a b) := by
 unfold Wf; split
 ·exact XX _
 ·exact qw
theorem LH (a b : V) : RV (yT a b) := by
 unfold yT; split
 ·exact XX _
 ·exact qw
theorem E7 (k : Int) (a b : V) : RV (zG k a b) := by
 unfold zG
 repeat' split
 all_goals first | exact DQ _ _ | exact LH _ _ | exact Py _
theorem LG {v : V} (h : RV v) : RV (bare v) := by
 obtain ⟨h1, h2, h3, h4⟩ := h; unfold bare; split
 ·exact qw
 ·split
  ·exact ⟨.inr (.inr (.inr rfl)), fun h => by simp at h, fun h => by simp at h, fun _ => h4 uX_⟩
  ·exact ⟨h1, h2, h3, fun h => by simp at h; omega⟩
theorem Rv (n : Int) : RV (yp n) := by
 unfold yp; split
 ·exact Fa _ u4_ u4_
 ·exact qw
theorem Tj (s : Int) (a b : V) : RV (zJ s a b) := by
 unfold zJ
 repeat' split
 all_goals first | exact Rv _ | exact qw
theorem Dq (a b : V) : RV (y6 a b) := by
 unfold y6; split
 ·rename_i h; exact ⟨.inr (.inr (.inr rfl)), fun h => by simp at h, fun h => by simp at h, fun _ => by simp; omega⟩
 ·exact qw
theorem DR (k : Int) (a b d : V) (ha : RV a) (hb : RV b) (hd : RV d) : RV (QP k a b d) := by
 unfold QP
 repeat' split
 all_goals first | assumption | exact Py _ | exact E6 _ _ | exact FW _ _ | exact Tj _ _ _ | exact Dq _ _ | exact XX _ | exact E7 _ _ _
theorem Fc (k : Int) (a b d : V) (h1 : 1 <= zl k) (ha : RV a) (hb : 2 <= zl k -> RV b) (hd : 3 <= zl k -> RV d) : RV (QP k a b d) := by
 by_cases h2 : 2 <= zl k
 ·by_cases h3 : 3 <= zl k
  ·exact DR k a b d ha (hb h2) (hd h3)
  ·have hk : k ≠ 17 := by rintro rfl; exact h3 u3_
   have : QP k a b d = QP k a b zR := by unfold QP; simp [hk]
   rw [this]; exact DR k a b _ ha (hb h2) qw
 ·have hk : k = 3 \/ k = 16 := by
   unfold zl at h1 h2
   repeat' split at h1
   all_goals first | omega | (simp_all; done) | (exfalso; revert h2; simp_all)
  rcases hk with rfl | rfl
  ·exact Py _
  ·exact XX _
theorem XW (row : List V) (hr : ∀ x ∈ row, RV x) (e : E) : RE row.length e -> RV (yd row e) := by
 intro h
 induction h with
 | mk h0 hn hv hc hk ih =>
  unfold yd; split
  ·exact LG (hv uX_)
  ·split
   ·have := hc uX_; rename_i c _ _ _ _ _ _; have hl : c.toNat < row.length := by omega
    rw [List.getD_eq_getElem?_getD, qQ_ hl]; exact LG (hr _ (List.getElem_mem hl))
   ·rename_i k v c A n cap kid h1 h2; have hz : zl k ≠ 0 := fun hz => by rcases kI hz with h8 | h8 <;> contradiction
    exact Fc k _ _ _ u4_ (ih 0 u4_) (fun h => ih 1 u4_) (fun h => ih 2 u4_)
def kV (f : Nat -> Int) : Nat -> Int
 | 0 => 0
 | r + 1 => kV f r + f r
theorem WV (f : Nat -> Int) : ∀ r, kV f (r + 1) = f 0 + kV (fun j => f (j + 1)) r
 | 0 => by simp [kV]
 | r + 1 => by
  have := WV f r
  conv => lhs; unfold kV
  rw [this]
  conv => rhs; arg 2; unfold kV
  omega
theorem Zz {f : Nat -> Int} (h : ∀ i, 0 <= f i) : ∀ r, 0 <= kV f r
 | 0 => by simp [kV]
 | r + 1 => by have := Zz h r; have := h r; simp [kV]; omega
def ZA : E -> Int
 | .leaf => 1
 | .mk _ _ _ _ n _ kid => 1 + kV (fun i => ZA (kid i)) n
theorem ke (e : E) : 1 <= ZA e := by
 induction e with
 | leaf => simp [ZA]
 | mk k v c A n cap kid ih =>
  have := Zz (f := fun i => ZA (kid i)) (fun i => by have := ih i; omega) n; simp only [ZA]; omega
def Jp : E -> Int -> Prop
 | .leaf, d => d <= 20
 | .mk _ _ _ _ n _ kid, d => d <= 20 /\ ∀ i, i < n -> Jp (kid i) (d + 1)
theorem XI (e : E) : ∀ {d d' : Int}, d' <= d -> Jp e d -> Jp e d' := by
 induction e with
 | leaf => intro d d' h h1; simp only [Jp] at h1 ⊢; omega
 | mk k v c A n cap kid ih =>
  intro d d' h h1; simp only [Jp] at h1 ⊢; exact ⟨by omega, fun i hi => ih i u4_ (h1.2 i hi)⟩
def BF (cols : List Int) (k : Int) (v : V) (c : Int) (ts : List Int) (T : Int) : Prop :=
 if k = 1 then ye v = 0 /\ T = v.k
 else if k = 2 then 0 <= c /\ c < (cols.length : Int) /\ T = cols.getD c.toNat 0
 else if k = 16 then T = 2
 else zB k ts = (T, 0)
def wt (cols : List Int) : E -> Int -> Prop
 | .leaf, _ => False
 | .mk k v c _ n _ kid, T => 0 <= zl k /\ (n : Int) = zl k /\ ∃ ts : List Int, ts.length = n /\ (∀ i, i < n -> wt cols (kid i) (ts.getD i 0)) /\ BF cols k v c ts T
theorem QF {f : Nat -> Int -> Int × Int × Int} {W : Nat -> Int -> Prop} {D : Nat -> Prop} {s : Nat -> Int} (hs : ∀ i, 0 <= s i)
  (hf : ∀ i m T M, m <= 200 -> (f i m = (T, 0, M) ↔ W i T /\ D i /\ M = m + s i /\ m + s i <= 200)) :
  ∀ (r i : Nat) (m : Int) (ts : List Int) (M : Int) (us : List Int), m <= 200 ->
   (zU f r i m ts = (0, M, us) ↔ ∃ qs : List Int, qs.length = r /\ us = ts ++ qs /\ (∀ j, j < r -> W (i + j) (qs.getD j 0)) /\ (∀ j, j < r -> D (i + j)) /\ M = m + kV (fun j => s (i + j)) r /\ m + kV (fun j => s (i + j)) r <= 200)
 | 0, i, m, ts, M, us, hm => by
  simp only [zU, kV]
  constructor
  ·rintro h; cases h; exact ⟨[], rfl, by simp, fun j hj => by omega, fun j hj => by omega, by omega, by omega⟩
  ·rintro ⟨qs, h1, h2, _, _, h3, _⟩; have : qs = [] := List.length_eq_zero_iff.1 h1; subst this; simp at h2 h3; rw [h2, h3]
 | r + 1, i, m, ts, M, us, hm => by
  unfold zU; obtain ⟨T, e, M1, hq⟩ : ∃ T e M1, f i m = (T, e, M1) := ⟨_, _, _, rfl⟩
  rw [hq]; simp only; have hsum := WV (fun j => s (i + j)) r; have hre : (fun j => s (i + (j + 1))) = (fun j => s (i + 1 + j)) := by funext j; congr 1; omega
  simp only [hre, Nat.add_zero] at hsum; rw [hsum]; have hpos : 0 <= kV (fun j => s (i + 1 + j)) r := Zz (fun j => hs _) r
  by_cases he : e = 0
  ·subst he; rw [if_pos rfl]; obtain ⟨g1, g2, g3, g4⟩ := (hf i m T M1 hm).1 hq; subst g3; rw [QF hs hf r (i + 1) (m + s i) (ts ++ [T]) M us g4]
   constructor
   ·rintro ⟨qs, h1, h2, h3, h4, h5, h6⟩; refine ⟨T :: qs, by simp [h1], by simp [h2], ?_, ?_, by omega, by omega⟩
    ·intro j hj; cases j with
     | zero => simpa using g1
     | succ j =>
      have := h3 j u4_; rw [show i + 1 + j = i + (j + 1) by omega] at this; simpa using this
    ·intro j hj; cases j with
     | zero => simpa using g2
     | succ j =>
      have := h4 j u4_
      rwa [show i + 1 + j = i + (j + 1) by omega] at this
   ·rintro ⟨qs, h1, h2, h3, h4, h5, h6⟩; cases qs with
    | nil => simp at h1
    | cons q qs =>
     have hw := h3 0 u4_; simp only [Nat.add_zero, List.getD_cons_zero] at hw; have := (hf i m q (m + s i) hm).2 ⟨hw, by simpa using h4 0 u4_, rfl, g4⟩; rw [hq] at this; obtain rfl : T = q := by simpa using this
     refine ⟨qs, by simpa using h1, by simp [h2], ?_, ?_, by omega, by omega⟩
     ·intro j hj; have := h3 (j + 1) u4_; rw [show i + (j + 1) = i + 1 + j by omega] at this; simpa using this
     ·intro j hj; have := h4 (j + 1) u4_
      rwa [show i + (j + 1) = i + 1 + j by omega] at this
  ·rw [if_neg he]
   constructor
   ·intro h; simp at h; exact absurd h.1 he
   ·rintro ⟨qs, h1, h2, h3, h4, h5, h6⟩; exfalso; have := (hf i m (qs.getD 0 0) (m + s i) hm).2 ⟨by simpa using h3 0 u4_, by simpa using h4 0 u4_, rfl, by omega⟩; rw [hq] at this; simp at this; exact he this.2.1
theorem W3 (cols : List Int) (e : E) : ∀ (deep m T M : Int), m <= 200 -> (yy cols e deep m = (T, 0, M) ↔ wt cols e T /\ Jp e deep /\ M = m + ZA e /\ m + ZA e <= 200) := by
 induction e with
 | leaf =>
  intro deep m T M hm; unfold yy wt
  constructor
  ·intro h; split at h <;> simp at h
  ·rintro ⟨h, _⟩; exact h.elim
 | mk k v c A n cap kid ih =>
  intro deep m T M hm; have hsz := ke (.mk k v c A n cap kid); unfold yy; simp only [wt, Jp, ZA]; have hpos : 0 <= kV (fun i => ZA (kid i)) n := Zz (fun i => by have := ke (kid i); omega) n
  by_cases h1 : 200 < m + 1 \/ 20 < deep
  ·rw [if_pos h1]
   constructor
   ·exact yq_
   ·rintro ⟨_, ⟨h2, _⟩, _, h3⟩; omega
  ·rw [if_neg h1]
   by_cases h2 : zl k < 0
   ·rw [if_pos h2]
    constructor
    ·exact yq_
    ·rintro ⟨⟨h3, _⟩, _⟩; omega
   ·rw [if_neg h2]
    by_cases h3 : (n : Int) ≠ zl k
    ·rw [if_pos h3]
     constructor
     ·exact yq_
     ·rintro ⟨⟨_, h4, _⟩, _⟩; omega
    ·rw [if_neg h3]
     have key := QF (f := fun i m' => yy cols (kid i) (deep + 1) m') (W := fun i T => wt cols (kid i) T) (D := fun i => Jp (kid i) (deep + 1)) (s := fun i => ZA (kid i)) (fun i => by have := ke (kid i); omega)
      (fun i m T M hm => ih i (deep + 1) m T M hm) n 0 (m + 1)
     obtain ⟨e1, M1, us, hq⟩ : ∃ e1 M1 us, zU (fun i m' => yy cols (kid i) (deep + 1) m') n 0 (m + 1) [] = (e1, M1, us) := ⟨_, _, _, rfl⟩
     rw [hq]; simp only
     by_cases he : e1 = 0
     ·subst he; obtain ⟨qs, k1, k2, k3, k4, k5, k6⟩ := (key [] M1 us u4_).1 hq; simp only [List.nil_append, Nat.zero_add] at k2 k3 k4 k5 k6; subst k2; rw [if_neg u5_]
      have tk : (if k = 1 then (v.k, ye v, M1) else if k = 2 then (if c < 0 \/ (cols.length : Int) <= c then (0, 7, M1) else (cols.getD c.toNat 0, 0, M1)) else if k = 16 then (2, 0, M1) else ((zB k us).1, (zB k us).2, M1)) = (T, (0 : Int), M) ↔ BF cols k v c us T /\ M = M1 := by
       unfold BF; split
       ·simp; constructor
        ·rintro ⟨rfl, h, rfl⟩; exact ⟨⟨h, rfl⟩, rfl⟩
        ·rintro ⟨⟨h, rfl⟩, rfl⟩; exact ⟨rfl, h, rfl⟩
       ·split
        ·split
         ·rename_i h5
          constructor
          ·exact yq_
          ·rintro ⟨⟨_, _, _⟩, _⟩; omega
         ·rename_i h5; simp
          constructor
          ·rintro ⟨rfl, rfl⟩; exact ⟨⟨by omega, by omega, rfl⟩, rfl⟩
          ·rintro ⟨⟨_, _, rfl⟩, rfl⟩; exact ⟨rfl, rfl⟩
        ·split
         ·simp; constructor
          ·rintro ⟨rfl, rfl⟩; exact ⟨rfl, rfl⟩
          ·rintro ⟨rfl, rfl⟩; exact ⟨rfl, rfl⟩
         ·obtain ⟨p, q⟩ := zB k us; simp; constructor
          ·rintro ⟨rfl, rfl, rfl⟩; exact ⟨⟨rfl, rfl⟩, rfl⟩
          ·rintro ⟨⟨rfl, rfl⟩, rfl⟩; exact ⟨rfl, rfl, rfl⟩
      rw [tk]
      constructor
      ·rintro ⟨h4, rfl⟩; exact ⟨⟨by omega, by omega, us, k1, k3, h4⟩, ⟨by omega, k4⟩, by omega, by omega⟩
      ·rintro ⟨⟨_, _, ts, g1, g2, g3⟩, ⟨_, g4⟩, g5, g6⟩; have := (key [] (m + 1 + kV (fun i => ZA (kid i)) n) ts u4_).2 ⟨ts, g1, by simp, by simpa using g2, by simpa using g4, by simp, by simp; omega⟩; rw [hq] at this; obtain ⟨rfl, rfl⟩ : M1 = m + 1 + kV (fun i => ZA (kid i)) n /\ us = ts := by simpa using this
       exact ⟨g3, by omega⟩
     ·rw [if_pos he]
      constructor
      ·intro h; simp at h; exact absurd h.2.1 he
      ·rintro ⟨⟨_, _, ts, g1, g2, g3⟩, ⟨_, g4⟩, g5, g6⟩; exfalso; have := (key [] (m + 1 + kV (fun i => ZA (kid i)) n) ts u4_).2 ⟨ts, g1, by simp, by simpa using g2, by simpa using g4, by simp, by simp; omega⟩; rw [hq] at this; simp at this; exact he this.1
theorem Yc {cols : List Int} (e : E) : ∀ {T : Int}, wt cols e T -> RE cols.length e := by
 induction e with
 | leaf => intro T h; exact h.elim
 | mk k v c A n cap kid ih =>
  intro T h; simp only [wt] at h; obtain ⟨h1, h2, ts, h3, h4, h5⟩ := h; refine .mk h1 h2 (fun hk => ?_) (fun hk => ?_) (fun i hi => ih i (h4 i hi))
  ·unfold BF at h5; rw [if_pos hk] at h5; exact (RV.of v).1 h5.1
  ·unfold BF at h5; rw [if_neg u4_, if_pos hk] at h5; exact ⟨h5.1, h5.2.1⟩
theorem TI (cols : List Int) (e : E) (T : Int) : zP cols e = (T, 0) ↔ cols.length <= 16 /\ cols.all xF = true /\ wt cols e T /\ Jp e 1 /\ ZA e <= 200 := by
 unfold zP
 by_cases h1 : 16 < cols.length
 ·rw [if_pos h1]
  constructor
  ·exact yq_
  ·rintro ⟨h, _⟩; omega
 ·rw [if_neg h1]; cases h2 : cols.all xF
  ·rw [if_pos rfl]
   constructor
   ·exact yq_
   ·rintro ⟨_, h, _⟩; simp at h
  ·rw [if_neg u5_]; obtain ⟨q1, q2, q3, hq⟩ : ∃ q1 q2 q3, yy cols e 1 0 = (q1, q2, q3) := ⟨_, _, _, rfl⟩
   rw [hq]; simp only
   by_cases h3 : q2 = 0
   ·subst h3; rw [if_neg u5_]; obtain ⟨g1, g2, g3, g4⟩ := (W3 cols e 1 0 q1 q3 u4_).1 hq
    constructor
    ·intro h; obtain rfl : q1 = T := by simpa using h
     exact ⟨by omega, trivial, g1, g2, by omega⟩
    ·rintro ⟨_, _, k1, _, _⟩; have := (W3 cols e 1 0 T q3 u4_).2 ⟨k1, g2, g3, g4⟩; rw [hq] at this; simp at this; simp [this]
   ·rw [if_pos h3]
    constructor
    ·intro h; simp at h; exact absurd h.2 h3
    ·rintro ⟨_, _, k1, k2, k3⟩; exfalso; have := (W3 cols e 1 0 T (ZA e) u4_).2 ⟨k1, k2, by omega, by omega⟩; rw [hq] at this; simp at this; exact h3 this.2.1
def Ze : List V -> List Int -> Int
 | [], _ => 0
 | v :: vs, ts => if ye v ≠ 0 then ye v else if v.k ≠ 1 /\ v.k ≠ ts.headD 0 then 9 else Ze vs ts.tail
def xN (cols : List Int) (row : List V) : Int := if row.length ≠ cols.length then 8 else Ze row cols
def ja (cols : List Int) (row : List V) : Prop := row.length = cols.length /\ ∀ i, ∀ v, row[i]? = some v -> RV v /\ (v.k = 1 \/ v.k = cols.getD i 0)
theorem MD : ∀ (row : List V) (ts : List Int), Ze row ts = 0 ↔ ∀ i v, row[i]? = some v -> RV v /\ (v.k = 1 \/ v.k = ts.getD i 0)
 | [], ts => by simp [Ze]
 | v :: vs, ts => by
  unfold Ze
  by_cases h1 : ye v = 0
  ·rw [if_neg uM_]
   by_cases h2 : v.k ≠ 1 /\ v.k ≠ ts.headD 0
   ·rw [if_pos h2]
    constructor
    ·exact yq_
    ·intro h; have := (h 0 v rfl).2; cases ts <;> simp_all
   ·rw [if_neg h2, MD vs ts.tail]
    constructor
    ·intro h i x hx; cases i with
     | zero =>
      simp at hx; subst hx; refine ⟨(RV.of _).1 h1, ?_⟩; cases ts <;> simp_all <;> omega
     | succ i =>
      have := h i x uH_; cases ts <;> simpa using this
    ·intro h i x hx; have := h (i + 1) x uH_; cases ts <;> simpa using this
  ·rw [if_pos h1]
   constructor
   ·intro h; exact absurd h h1
   ·intro h; exact absurd ((RV.of _).2 (h 0 v rfl).1) h1
theorem yo (cols : List Int) (row : List V) : xN cols row = 0 ↔ ja cols row := by
 unfold xN ja
 by_cases h : row.length = cols.length
 ·rw [if_neg (by simpa using h), MD]; simp [h]
 ·rw [if_pos h]; simp [h]
def xU (cols : List Int) (row : List V) (e : E) : V × Int :=
 if (zP cols e).2 ≠ 0 then (⟨0, 0, es⟩, (zP cols e).2)
 else if xN cols row ≠ 0 then (⟨0, 0, es⟩, xN cols row)
 else (yd row e, 0)
theorem ja.rv {cols : List Int} {row : List V} (h : ja cols row) : ∀ x ∈ row, RV x := fun x hx => by
 obtain ⟨i, hi, rfl⟩ := List.getElem_of_mem hx; exact (h.2 i _ (qQ_ hi)).1
theorem Zj (n : Int) : (yP n).k = 1 \/ (yP n).k = 2 := by
 unfold yP yB; split <;> simp
theorem Gg (a b : V) : (Wf a b).k = 1 \/ (Wf a b).k = 2 := by
 unfold Wf yB; split <;> simp
theorem Eo (a b : V) : (yT a b).k = 1 \/ (yT a b).k = 2 := by
 unfold yT yB; split <;> simp
theorem FH (k : Int) (a b : V) : (zG k a b).k = 1 \/ (zG k a b).k = 2 := by
 unfold zG
 repeat' split
 all_goals first | exact Gg _ _ | exact Eo _ _ | exact Zj _
theorem El (n : Int) : (yp n).k = 1 \/ (yp n).k = 3 := by
 unfold yp; split <;> simp
theorem Wv (s : Int) (a b : V) : (zJ s a b).k = 1 \/ (zJ s a b).k = 3 := by
 unfold zJ
 repeat' split
 all_goals first | exact El _ | simp
theorem En (a b : V) : (y6 a b).k = 1 \/ (y6 a b).k = 4 := by
 unfold y6; split <;> simp
theorem kinds {k : Int} (h : 0 <= zl k) : k = 1 \/ k = 2 \/ k = 3 \/ k = 4 \/ k = 5 \/ (6 <= k /\ k <= 11) \/ k = 12 \/ k = 13 \/ k = 14 \/ k = 15 \/ k = 16 \/ k = 17 \/ k = 18 := xx_
theorem WB {k : Int} (h : 6 <= k /\ k <= 11) (a b d : V) : QP k a b d = zG k a b := by
 unfold QP; rw [if_neg u4_, if_neg u4_, if_neg u4_, if_neg u4_, if_neg u4_, if_neg u4_, if_neg u4_, if_neg u4_, if_neg u4_, if_neg u4_]
theorem FQ {cols : List Int} {row : List V} (hf : ja cols row) (e : E) : ∀ {T : Int}, wt cols e T -> (yd row e).k = 1 \/ (yd row e).k = T := by
 induction e with
 | leaf => intro T h; exact h.elim
 | mk k v c A n cap kid ih =>
  intro T h; simp only [wt] at h; obtain ⟨h0, hn, ts, h3, h4, h5⟩ := h; unfold yd; unfold BF at h5; split
  ·rw [if_pos uX_] at h5; rw [ZN]; exact .inr h5.2.symm
  ·rename_i n1; rw [if_neg n1] at h5; split
   ·rw [if_pos uX_] at h5; rw [ZN]; obtain ⟨c0, c1, rfl⟩ := h5; have hl : c.toNat < row.length := by have := hf.1; omega
    rw [List.getD_eq_getElem?_getD, qQ_ hl]; exact (hf.2 c.toNat _ (qQ_ hl)).2
   ·rename_i n2; rw [if_neg n2] at h5; rcases kinds h0 with hk | hk | hk | hk | hk | hk | hk | hk | hk | hk | hk | hk | hk
    ·contradiction
    ·contradiction
    ·exact wS_
    ·exact wS_
    ·exact wS_
    ·rw [WB hk]
     have e : T = 2 := by
      rw [if_neg u4_] at h5; unfold zB at h5; rw [if_neg u4_, if_pos u4_] at h5; split at h5 <;> simp at h5
      exact h5.symm
     subst e; exact FH _ _ _
    ·exact wH_
    ·exact wH_
    ·exact wH_
    ·subst hk
     have e : T = 4 := by
      rw [if_neg u3_] at h5; unfold zB at h5; rw [if_neg u3_, if_neg u3_, if_neg u3_, if_pos u3_] at h5; split at h5 <;> simp at h5
      exact h5.symm
     subst e; exact En _ _
    ·subst hk; rw [if_pos rfl] at h5; subst h5; exact .inr rfl
    ·subst hk; have k17 : zl 17 = 3 := rfl; have i1 := ih 1 (h4 1 u4_); have i2 := ih 2 (h4 2 u4_); rw [if_neg u3_] at h5; unfold zB at h5; rw [if_neg u3_, if_neg u3_, if_neg u3_, if_neg u3_, if_pos u3_] at h5; split at h5
     ·rename_i hc; simp only [Prod.mk.injEq, and_true] at h5; simp only [yk, Bool.and_eq_true, Bool.or_eq_true, decide_eq_true_eq] at hc; have hc1 := hc.1; rw [show QP 17 (yd row (kid 0)) (yd row (kid 1)) (yd row (kid 2)) = (if yq (yd row (kid 0)) = 2 then yd row (kid 1) else yd row (kid 2)) from rfl]; unfold xf at h5; split <;> split at h5 <;> try split at h5
      all_goals omega
     ·simp at h5
    ·subst hk; have k18 : zl 18 = 2 := rfl; have i0 := ih 0 (h4 0 u4_); have i1 := ih 1 (h4 1 u4_); rw [if_neg u3_] at h5; unfold zB at h5; rw [if_neg u3_, if_neg u3_, if_neg u3_, if_neg u3_, if_neg u3_] at h5; split at h5
     ·rename_i hc; simp only [Prod.mk.injEq, and_true] at h5; simp only [yk, Bool.or_eq_true, decide_eq_true_eq] at hc; rw [show QP 18 (yd row (kid 0)) (yd row (kid 1)) (yd row (kid 2)) = (if (yd row (kid 0)).k = 1 then yd row (kid 1) else yd row (kid 0)) from rfl]; unfold xf at h5; split <;> split at h5 <;> try split at h5
      all_goals omega
     ·simp at h5
def Le (a b : V) : Prop := a.k = 1 \/ a = b
theorem Le.refl (a : V) : Le a a := .inr rfl
theorem BS {a : V} (h : a.k = 1) (b : V) : yV a b = false := by simp [yV, h]
theorem BU {b : V} (h : b.k = 1) (a : V) : yV a b = false := by
 simp only [yV, decide_eq_false_iff_not, h]; omega
def zV : V := ⟨0, 0, es⟩
def CV (k : Int) (a : E) (A : Option Addr) : E := .mk k zV 0 A 1 1 (fun _ => a)
def W0 (k : Int) (a b : E) (A : Option Addr) : E := .mk k zV 0 A 2 2 (fun i => if i = 0 then a else b)
def jx (k : Int) (a b c : E) (A : Option Addr) : E := .mk k zV 0 A 3 3 (fun i => if i = 0 then a else if i = 1 then b else c)
theorem Fe (k : Int) (a b : E) (A : Option Addr) : ZA (W0 k a b A) = 1 + (ZA a + ZA b) := by simp [W0, ZA, kV]
theorem VY (k : Int) (a b c : E) (A : Option Addr) : ZA (jx k a b c A) = 1 + (ZA a + ZA b + ZA c) := by simp [jx, ZA, kV]
theorem FA (k : Int) (a b : E) (A : Option Addr) (d : Int) : Jp (W0 k a b A) d ↔ d <= 20 /\ Jp a (d + 1) /\ Jp b (d + 1) := by
 simp only [W0, Jp]
 constructor
 ·rintro ⟨h1, h2⟩; exact ⟨h1, by simpa using h2 0 u4_, by simpa using h2 1 u4_⟩
 ·rintro ⟨h1, h2, h3⟩; refine ⟨h1, fun i hi => ?_⟩
  by_cases h : i = 0
  ·simpa [h] using h2
  ·simpa [h] using h3
theorem Cn (k : Int) (a b c : E) (A : Option Addr) (d : Int) : Jp (jx k a b c A) d ↔ d <= 20 /\ Jp a (d + 1) /\ Jp b (d + 1) /\ Jp c (d + 1) := by
 simp only [jx, Jp]
 constructor
 ·rintro ⟨h1, h2⟩; exact ⟨h1, by simpa using h2 0 u4_, by simpa using h2 1 u4_, by simpa using h2 2 u4_⟩
 ·rintro ⟨h1, h2, h3, h4⟩; refine ⟨h1, fun i hi => ?_⟩
  by_cases h : i = 0
  ·simpa [h] using h2
  ·by_cases h' : i = 1
   ·simpa [h'] using h3
   ·simpa [h, h'] using h4
theorem Nt {cols : List Int} {k : Int} {v : V} {c : Int} {ts : List Int} {T : Int} (h1 : 1 <= zl k) (h16 : k ≠ 16) : BF cols k v c ts T ↔ zB k ts = (T, 0) := by
 have n1 : k ≠ 1 := by rintro rfl; revert h1; decide
 have n2 : k ≠ 2 := by rintro rfl; revert h1; decide
 simp [BF, n1, n2, h16]
theorem Fh {cols : List Int} {k : Int} {a b : E} {A : Option Addr} {T : Int} (h : zl k = 2) : wt cols (W0 k a b A) T ↔ ∃ t u, wt cols a t /\ wt cols b u /\ zB k [t, u] = (T, 0) := by
 have h16 : k ≠ 16 := by rintro rfl; revert h; decide
 simp only [W0, wt]; rw [h]
 constructor
 ·rintro ⟨_, _, ts, h1, h2, h3⟩; rw [Nt u4_ h16] at h3
  match ts, h1 with
  | [t, u], _ => exact ⟨t, u, by simpa using h2 0 u4_, by simpa using h2 1 u4_, h3⟩
 ·rintro ⟨t, u, h1, h2, h3⟩; refine ⟨by omega, by omega, [t, u], rfl, fun i hi => ?_, (Nt u4_ h16).2 h3⟩
  match i, hi with
  | 0, _ => simpa using h1
  | 1, _ => simpa using h2
theorem Bm {cols : List Int} {a b c : E} {A : Option Addr} {T : Int} : wt cols (jx 17 a b c A) T ↔ ∃ t u s, wt cols a t /\ wt cols b u /\ wt cols c s /\ zB 17 [t, u, s] = (T, 0) := by
 have h : zl 17 = 3 := rfl; simp only [jx, wt]; rw [h]
 constructor
 ·rintro ⟨_, _, ts, h1, h2, h3⟩; rw [Nt u4_ u3_] at h3
  match ts, h1 with
  | [t, u, s], _ => exact ⟨t, u, s, by simpa using h2 0 u4_, by simpa using h2 1 u4_, by simpa using h2 2 u4_, h3⟩
 ·rintro ⟨t, u, s, h1, h2, h3, h4⟩; refine ⟨by omega, by omega, [t, u, s], rfl, fun i hi => ?_, (Nt u4_ u3_).2 h4⟩
  match i, hi with
  | 0, _ => simpa using h1
  | 1, _ => simpa using h2
  | 2, _ => simpa using h3
theorem EO {row : List V} {k : Int} {a : E} {A : Option Addr} (h1 : k ≠ 1) (h2 : k ≠ 2) : yd row (CV k a A) = QP k (yd row a) (yd row a) (yd row a) := by
 simp [CV, yd, h1, h2]
theorem EU {row : List V} {k : Int} {a b : E} {A : Option Addr} (h1 : k ≠ 1) (h2 : k ≠ 2) : yd row (W0 k a b A) = QP k (yd row a) (yd row b) (yd row b) := by
 simp [W0, yd, h1, h2]
theorem MX {row : List V} {a b c : E} {A : Option Addr} : yd row (jx 17 a b c A) = QP 17 (yd row a) (yd row b) (yd row c) := by
 simp [jx, yd]
structure KQ (cols : List Int) (e : E) (T : Int) : Prop where
 len : cols.length <= 16
 all : cols.all xF = true
 ty : wt cols e T
 deep : Jp e 1
 size : ZA e <= 200
theorem Wy {cols : List Int} {e : E} {T : Int} : zP cols e = (T, 0) ↔ KQ cols e T := by
 rw [TI]; exact ⟨fun ⟨a, b, c, d, e⟩ => ⟨a, b, c, d, e⟩, fun ⟨a, b, c, d, e⟩ => ⟨a, b, c, d, e⟩⟩
theorem xk {cols : List Int} {e : E} (h : (zP cols e).2 = 0) : ∃ T, KQ cols e T := ⟨(zP cols e).1, Wy.1 (Prod.ext rfl h)⟩
theorem KQ.eval {cols : List Int} {e : E} {T : Int} (h : KQ cols e T) (row : List V) (hf : xN cols row = 0) : xU cols row e = (yd row e, 0) := by
 have := Wy.2 h; simp [xU, this, hf]
theorem Lc {cols : List Int} {row : List V} {e : E} (h : (xU cols row e).2 = 0) : (∃ T, KQ cols e T) /\ ja cols row /\ xU cols row e = (yd row e, 0) := by
 unfold xU at h; split at h
 ·exact xi_
 ·rename_i h1; split at h
  ·rename_i h2; exact absurd h h2
  ·rename_i h2; obtain ⟨T, hT⟩ := xk (Classical.byContradiction h1); have h2' : xN cols row = 0 := Classical.byContradiction h2; exact ⟨⟨T, hT⟩, (yo cols row).1 h2', hT.eval row h2'⟩
theorem MT {k t u : Int} (h : 6 <= k /\ k <= 11) : zB k [t, u] = if yk t u then (2, 0) else (0, 9) := by
 unfold zB; rw [if_neg u4_, if_pos u4_]; rfl
theorem MQ {k : Int} (h : 6 <= k /\ k <= 11) : zl k = 2 := by
 unfold zl; rw [if_neg u4_, if_neg u4_, if_pos u4_]
structure Fn (cols : List Int) (x y : E) : Prop where
 len : cols.length <= 16
 all : cols.all xF = true
 ty : ∃ t u, wt cols x t /\ wt cols y u /\ yk t u = true
 dx : Jp x 3
 dy : Jp y 3
 size : 3 + (ZA x + ZA y) + (ZA x + ZA y) <= 200
theorem Fn.two {cols : List Int} {x y : E} (h : Fn cols x y) {k : Int} (hk : 6 <= k /\ k <= 11) (A : Option Addr) : KQ cols (W0 k x y A) 2 := by
 obtain ⟨h1, h2, ⟨t, u, h3, h4, h5⟩, h6, h7, h8⟩ := h; have := ke x; have := ke y; refine ⟨h1, h2, (Fh (MQ hk)).2 ⟨t, u, h3, h4, by rw [MT hk, h5]; rfl⟩, (FA _ _ _ _ _).2 ⟨by omega, XI x u4_ h6, XI y u4_ h7⟩, by rw [Fe]; omega⟩
theorem choose {cols : List Int} {row : List V} {c x y : E} {A B C D : Option Addr} (h1 : (xU cols row (jx 17 c x y A)).2 = 0) (h2 : (xU cols row (W0 18 x y B)).2 = 0) (h3 : (xU cols row (jx 17 (CV 16 x C) y x D)).2 = 0) :
  (xU cols row c).2 = 0 /\ (xU cols row x).2 = 0 /\ (xU cols row y).2 = 0 /\
  (xU cols row (jx 17 c x y A)).1 = (if L4 (xU cols row c).1 true then (xU cols row x).1 else (xU cols row y).1) /\
  (xU cols row (W0 18 x y B)).1 = (if (xU cols row x).1.k = 1 then (xU cols row y).1 else (xU cols row x).1) /\
  (xU cols row (jx 17 (CV 16 x C) y x D)).1 = (if (xU cols row x).1.k = 1 then (xU cols row y).1 else (xU cols row x).1) := by
 obtain ⟨⟨T, hT⟩, hf, e1⟩ := Lc h1; obtain ⟨_, _, e2⟩ := Lc h2; obtain ⟨_, _, e3⟩ := Lc h3; have hf0 := (yo cols row).2 hf; obtain ⟨g1, g2, g3, g4, g5⟩ := hT; obtain ⟨t, u, s, g6, g7, g8, _⟩ := Bm.1 g3; rw [Cn] at g4; rw [VY] at g5; have := ke c; have := ke x; have := ke y; have oc : KQ cols c t := ⟨g1, g2, g6, XI c u4_ g4.2.1, by omega⟩
 have ox : KQ cols x u := ⟨g1, g2, g7, XI x u4_ g4.2.2.1, by omega⟩
 have oy : KQ cols y s := ⟨g1, g2, g8, XI y u4_ g4.2.2.2, by omega⟩
 rw [e1, e2, e3, oc.eval row hf0, ox.eval row hf0, oy.eval row hf0]; simp only [true_and]; have rc := XW row hf.rv c (by rw [hf.1]; exact Yc c g6); refine ⟨?_, ?_, ?_⟩
 ·rw [MX]; show (if yq (yd row c) = 2 then yd row x else yd row y) = _; rcases qX (yd row c) rc with ⟨r1, _, r2⟩ | ⟨r1, _, r2⟩ | ⟨r1, _, r2⟩ <;> rw [r1, r2] <;> rfl
 ·rw [EU u4_ u4_]; rfl
 ·rw [MX, EO u4_ u4_]; show (if yq (yB (decide ((yd row x).k = 1))) = 2 then yd row y else yd row x) = _
  by_cases h : (yd row x).k = 1 <;> simp [h, yB, yq]
