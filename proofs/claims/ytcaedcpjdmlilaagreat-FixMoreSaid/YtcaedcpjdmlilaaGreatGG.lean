/-
 Joined texts of this claim: Ev, EvL, EvT. What each proves its own head says; no condition beside those that each theorem names.
-/
import Derived.Test.YtcaedcpjdmlilaaGreatGD
import Derived.Test.YtcaedcpjdmlilaaGreatGC
namespace Go.Proofs.YtcaedcpjdmlilaaGreat
open Go.RowKit Go.Calm
set_option linter.unusedSimpArgs false
set_option linter.unusedVariables false
def yo (k : Int) (a b : V) : V :=
 if k = 6 then N9 a b else if k = 7 then WX (N9 a b) else if k = 8 then qu a b else if k = 9 then WX (qu b a) else if k = 10 then qu b a else WX (qu a b)
def WC (k : Int) (a b d : V) : V :=
 if k = 3 then WX a
 else if k = 4 then Rz a b
 else if k = 5 then orV a b
 else if k = 12 then ym 43 a b
 else if k = 13 then ym 45 a b
 else if k = 14 then ym 42 a b
 else if k = 15 then qN a b
 else if k = 16 then qG (decide (a.k = 1))
 else if k = 17 then (if yx a = 2 then b else d)
 else if k = 18 then (if a.k = 1 then b else a)
 else yo k a b
def yt (row : List V) : E -> V
 | .leaf => yf
 | .mk k v c _ _ _ kid =>
  if k = 1 then bare v
  else if k = 2 then bare (row.getD c.toNat yf)
  else WC k (yt row (kid 0)) (yt row (kid 1)) (yt row (kid 2))
inductive RE (n0 : Nat) : E -> Prop
 | mk {k : Int} {v : V} {c : Int} {A : Option Addr} {n cap : Nat} {kid : Nat -> E} (h0 : 0 <= zk k) (hn : (n : Int) = zk k) (hv : k = 1 -> RV v) (hc : k = 2 -> 0 <= c /\ c < (n0 : Int)) (hk : ∀ i, i < n -> RE n0 (kid i)) : RE n0 (.mk k v c A n cap kid)
theorem qg : RV yf := ⟨.inl rfl, fun h => by simp [yf] at h, fun h => by simp [yf] at h, fun h => by simp [yf] at h⟩
theorem Yk (b : Bool) : RV (qG b) := ⟨.inr (.inl rfl), fun _ => by cases b <;> simp [qG], fun h => by simp [qG] at h, fun h => by simp [qG] at h⟩
theorem Wd (n : Int) : RV (y6 n) := by
 unfold y6; split
 ·exact qg
 ·exact Yk _
theorem zbd (a b : V) : RV (Rz a b) := Wd _
theorem zbW (a b : V) : RV (orV a b) := Wd _
theorem SE (a : V) : RV (WX a) := Wd _
theorem H9 (a b : V) : RV (N9 a b) := by
 unfold N9; split
 ·exact Yk _
 ·exact qg
theorem Nh (a b : V) : RV (qu a b) := by
 unfold qu; split
 ·exact Yk _
 ·exact qg
theorem zbe (k : Int) (a b : V) : RV (yo k a b) := by
 unfold yo
 repeat' split
 all_goals first | exact H9 _ _ | exact Nh _ _ | exact SE _
theorem Jf {v : V} (h : RV v) : RV (bare v) := by
 obtain ⟨h1, h2, h3, h4⟩ := h; unfold bare; split
 ·exact qg
 ·split
  ·exact ⟨.inr (.inr (.inr rfl)), fun h => by simp at h, fun h => by simp at h, fun _ => h4 (by assumption)⟩
  ·exact ⟨h1, h2, h3, fun h => by simp at h; omega⟩
theorem TK (n : Int) : RV (xH n) := by
 unfold xH; split
 ·exact zbf _ (by omega) (by omega)
 ·exact qg
theorem Vo (s : Int) (a b : V) : RV (ym s a b) := by
 unfold ym
 repeat' split
 all_goals first | exact TK _ | exact qg
theorem Gc (a b : V) : RV (qN a b) := by
 unfold qN; split
 ·rename_i h; exact ⟨.inr (.inr (.inr rfl)), fun h => by simp at h, fun h => by simp at h, fun _ => by simp; omega⟩
 ·exact qg
theorem zaa (k : Int) (a b d : V) (ha : RV a) (hb : RV b) (hd : RV d) : RV (WC k a b d) := by
 unfold WC
 repeat' split
 all_goals first | assumption | exact SE _ | exact zbd _ _ | exact zbW _ _ | exact Vo _ _ _ | exact Gc _ _ | exact Yk _ | exact zbe _ _ _
theorem zbg (k : Int) (a b d : V) (h1 : 1 <= zk k) (ha : RV a) (hb : 2 <= zk k -> RV b) (hd : 3 <= zk k -> RV d) : RV (WC k a b d) := by
 by_cases h2 : 2 <= zk k
 ·by_cases h3 : 3 <= zk k
  ·exact zaa k a b d ha (hb h2) (hd h3)
  ·have hk : k ≠ 17 := by rintro rfl; exact h3 (by decide)
   have : WC k a b d = WC k a b yf := by unfold WC; simp [hk]
   rw [this]; exact zaa k a b _ ha (hb h2) qg
 ·have hk : k = 3 \/ k = 16 := by
   unfold zk at h1 h2
   repeat' split at h1
   all_goals first | omega | (simp_all; done) | (exfalso; revert h2; simp_all)
  rcases hk with rfl | rfl
  ·exact SE _
  ·exact Yk _
theorem WH (row : List V) (hr : ∀ x ∈ row, RV x) (e : E) : RE row.length e -> RV (yt row e) := by
 intro h
 induction h with
 | mk h0 hn hv hc hk ih =>
  unfold yt; split
  ·exact Jf (hv (by assumption))
  ·split
   ·have := hc (by assumption); rename_i c _ _ _ _ _ _; have hl : c.toNat < row.length := by omega
    rw [List.getD_eq_getElem?_getD, List.getElem?_eq_getElem hl]; exact Jf (hr _ (List.getElem_mem hl))
   ·rename_i k v c A n cap kid h1 h2; have hz : zk k ≠ 0 := fun hz => by rcases jP hz with h8 | h8 <;> contradiction
    exact zbg k _ _ _ (by omega) (ih 0 (by omega)) (fun h => ih 1 (by omega)) (fun h => ih 2 (by omega))
def xv (f : Nat -> Int) : Nat -> Int
 | 0 => 0
 | r + 1 => xv f r + f r
theorem XE (f : Nat -> Int) : ∀ r, xv f (r + 1) = f 0 + xv (fun j => f (j + 1)) r
 | 0 => by simp [xv]
 | r + 1 => by
  have := XE f r
  conv => lhs; unfold xv
  rw [this]
  conv => rhs; arg 2; unfold xv
  omega
theorem ju {f : Nat -> Int} (h : ∀ i, 0 <= f i) : ∀ r, 0 <= xv f r
 | 0 => by simp [xv]
 | r + 1 => by have := ju h r; have := h r; simp [xv]; omega
def Y9 : E -> Int
 | .leaf => 1
 | .mk _ _ _ _ n _ kid => 1 + xv (fun i => Y9 (kid i)) n
theorem Jh (e : E) : 1 <= Y9 e := by
 induction e with
 | leaf => simp [Y9]
 | mk k v c A n cap kid ih =>
  have := ju (f := fun i => Y9 (kid i)) (fun i => by have := ih i; omega) n; simp only [Y9]; omega
def N6 : E -> Int -> Prop
 | .leaf, d => d <= 20
 | .mk _ _ _ _ n _ kid, d => d <= 20 /\ ∀ i, i < n -> N6 (kid i) (d + 1)
theorem Bl (e : E) : ∀ {d d' : Int}, d' <= d -> N6 e d -> N6 e d' := by
 induction e with
 | leaf => intro d d' h h1; simp only [N6] at h1 ⊢; omega
 | mk k v c A n cap kid ih =>
  intro d d' h h1; simp only [N6] at h1 ⊢; exact ⟨by omega, fun i hi => ih i (by omega) (h1.2 i hi)⟩
def Mh (cols : List Int) (k : Int) (v : V) (c : Int) (ts : List Int) (T : Int) : Prop :=
 if k = 1 then yG v = 0 /\ T = v.k
 else if k = 2 then 0 <= c /\ c < (cols.length : Int) /\ T = cols.getD c.toNat 0
 else if k = 16 then T = 2
 else zJ k ts = (T, 0)
def wt (cols : List Int) : E -> Int -> Prop
 | .leaf, _ => False
 | .mk k v c _ n _ kid, T => 0 <= zk k /\ (n : Int) = zk k /\ ∃ ts : List Int, ts.length = n /\ (∀ i, i < n -> wt cols (kid i) (ts.getD i 0)) /\ Mh cols k v c ts T
theorem WK {f : Nat -> Int -> Int × Int × Int} {W : Nat -> Int -> Prop} {D : Nat -> Prop} {s : Nat -> Int} (hs : ∀ i, 0 <= s i)
  (hf : ∀ i m T M, m <= 200 -> (f i m = (T, 0, M) ↔ W i T /\ D i /\ M = m + s i /\ m + s i <= 200)) :
  ∀ (r i : Nat) (m : Int) (ts : List Int) (M : Int) (us : List Int), m <= 200 ->
   (zZ f r i m ts = (0, M, us) ↔ ∃ qs : List Int, qs.length = r /\ us = ts ++ qs /\ (∀ j, j < r -> W (i + j) (qs.getD j 0)) /\ (∀ j, j < r -> D (i + j)) /\ M = m + xv (fun j => s (i + j)) r /\ m + xv (fun j => s (i + j)) r <= 200)
 | 0, i, m, ts, M, us, hm => by
  simp only [zZ, xv]
  constructor
  ·rintro h; cases h; exact ⟨[], rfl, by simp, fun j hj => by omega, fun j hj => by omega, by omega, by omega⟩
  ·rintro ⟨qs, h1, h2, _, _, h3, _⟩; have : qs = [] := List.length_eq_zero_iff.1 h1; subst this; simp at h2 h3; rw [h2, h3]
 | r + 1, i, m, ts, M, us, hm => by
  unfold zZ; obtain ⟨T, e, M1, hq⟩ : ∃ T e M1, f i m = (T, e, M1) := ⟨_, _, _, rfl⟩
  rw [hq]; simp only; have hsum := XE (fun j => s (i + j)) r; have hre : (fun j => s (i + (j + 1))) = (fun j => s (i + 1 + j)) := by funext j; congr 1; omega
  simp only [hre, Nat.add_zero] at hsum; rw [hsum]; have hpos : 0 <= xv (fun j => s (i + 1 + j)) r := ju (fun j => hs _) r
  by_cases he : e = 0
  ·subst he; rw [if_pos rfl]; obtain ⟨g1, g2, g3, g4⟩ := (hf i m T M1 hm).1 hq; subst g3; rw [WK hs hf r (i + 1) (m + s i) (ts ++ [T]) M us g4]
   constructor
   ·rintro ⟨qs, h1, h2, h3, h4, h5, h6⟩; refine ⟨T :: qs, by simp [h1], by simp [h2], ?_, ?_, by omega, by omega⟩
    ·intro j hj; cases j with
     | zero => simpa using g1
     | succ j =>
      have := h3 j (by omega); rw [show i + 1 + j = i + (j + 1) by omega] at this; simpa using this
    ·intro j hj; cases j with
     | zero => simpa using g2
     | succ j =>
      have := h4 j (by omega)
      rwa [show i + 1 + j = i + (j + 1) by omega] at this
   ·rintro ⟨qs, h1, h2, h3, h4, h5, h6⟩; cases qs with
    | nil => simp at h1
    | cons q qs =>
     have hw := h3 0 (by omega); simp only [Nat.add_zero, List.getD_cons_zero] at hw; have := (hf i m q (m + s i) hm).2 ⟨hw, by simpa using h4 0 (by omega), rfl, g4⟩; rw [hq] at this; obtain rfl : T = q := by simpa using this
     refine ⟨qs, by simpa using h1, by simp [h2], ?_, ?_, by omega, by omega⟩
     ·intro j hj; have := h3 (j + 1) (by omega); rw [show i + (j + 1) = i + 1 + j by omega] at this; simpa using this
     ·intro j hj; have := h4 (j + 1) (by omega)
      rwa [show i + (j + 1) = i + 1 + j by omega] at this
  ·rw [if_neg he]
   constructor
   ·intro h; simp at h; exact absurd h.1 he
   ·rintro ⟨qs, h1, h2, h3, h4, h5, h6⟩; exfalso; have := (hf i m (qs.getD 0 0) (m + s i) hm).2 ⟨by simpa using h3 0 (by omega), by simpa using h4 0 (by omega), rfl, by omega⟩; rw [hq] at this; simp at this; exact he this.2.1
theorem Kr (cols : List Int) (e : E) : ∀ (deep m T M : Int), m <= 200 -> (yU cols e deep m = (T, 0, M) ↔ wt cols e T /\ N6 e deep /\ M = m + Y9 e /\ m + Y9 e <= 200) := by
 induction e with
 | leaf =>
  intro deep m T M hm; unfold yU wt
  constructor
  ·intro h; split at h <;> simp at h
  ·rintro ⟨h, _⟩; exact h.elim
 | mk k v c A n cap kid ih =>
  intro deep m T M hm; have hsz := Jh (.mk k v c A n cap kid); unfold yU; simp only [wt, N6, Y9]; have hpos : 0 <= xv (fun i => Y9 (kid i)) n := ju (fun i => by have := Jh (kid i); omega) n
  by_cases h1 : 200 < m + 1 \/ 20 < deep
  ·rw [if_pos h1]
   constructor
   ·intro h; simp at h
   ·rintro ⟨_, ⟨h2, _⟩, _, h3⟩; omega
  ·rw [if_neg h1]
   by_cases h2 : zk k < 0
   ·rw [if_pos h2]
    constructor
    ·intro h; simp at h
    ·rintro ⟨⟨h3, _⟩, _⟩; omega
   ·rw [if_neg h2]
    by_cases h3 : (n : Int) ≠ zk k
    ·rw [if_pos h3]
     constructor
     ·intro h; simp at h
     ·rintro ⟨⟨_, h4, _⟩, _⟩; omega
    ·rw [if_neg h3]
     have key := WK (f := fun i m' => yU cols (kid i) (deep + 1) m') (W := fun i T => wt cols (kid i) T) (D := fun i => N6 (kid i) (deep + 1)) (s := fun i => Y9 (kid i)) (fun i => by have := Jh (kid i); omega)
      (fun i m T M hm => ih i (deep + 1) m T M hm) n 0 (m + 1)
     obtain ⟨e1, M1, us, hq⟩ : ∃ e1 M1 us, zZ (fun i m' => yU cols (kid i) (deep + 1) m') n 0 (m + 1) [] = (e1, M1, us) := ⟨_, _, _, rfl⟩
     rw [hq]; simp only
     by_cases he : e1 = 0
     ·subst he; obtain ⟨qs, k1, k2, k3, k4, k5, k6⟩ := (key [] M1 us (by omega)).1 hq; simp only [List.nil_append, Nat.zero_add] at k2 k3 k4 k5 k6; subst k2; rw [if_neg (by simp)]
      have tk : (if k = 1 then (v.k, yG v, M1) else if k = 2 then (if c < 0 \/ (cols.length : Int) <= c then (0, 7, M1) else (cols.getD c.toNat 0, 0, M1)) else if k = 16 then (2, 0, M1) else ((zJ k us).1, (zJ k us).2, M1)) = (T, (0 : Int), M) ↔ Mh cols k v c us T /\ M = M1 := by
       unfold Mh; split
       ·simp; constructor
        ·rintro ⟨rfl, h, rfl⟩; exact ⟨⟨h, rfl⟩, rfl⟩
        ·rintro ⟨⟨h, rfl⟩, rfl⟩; exact ⟨rfl, h, rfl⟩
       ·split
        ·split
         ·rename_i h5
          constructor
          ·intro h; simp at h
          ·rintro ⟨⟨_, _, _⟩, _⟩; omega
         ·rename_i h5; simp
          constructor
          ·rintro ⟨rfl, rfl⟩; exact ⟨⟨by omega, by omega, rfl⟩, rfl⟩
          ·rintro ⟨⟨_, _, rfl⟩, rfl⟩; exact ⟨rfl, rfl⟩
        ·split
         ·simp; constructor
          ·rintro ⟨rfl, rfl⟩; exact ⟨rfl, rfl⟩
          ·rintro ⟨rfl, rfl⟩; exact ⟨rfl, rfl⟩
         ·obtain ⟨p, q⟩ := zJ k us; simp; constructor
          ·rintro ⟨rfl, rfl, rfl⟩; exact ⟨⟨rfl, rfl⟩, rfl⟩
          ·rintro ⟨⟨rfl, rfl⟩, rfl⟩; exact ⟨rfl, rfl, rfl⟩
      rw [tk]
      constructor
      ·rintro ⟨h4, rfl⟩; exact ⟨⟨by omega, by omega, us, k1, k3, h4⟩, ⟨by omega, k4⟩, by omega, by omega⟩
      ·rintro ⟨⟨_, _, ts, g1, g2, g3⟩, ⟨_, g4⟩, g5, g6⟩; have := (key [] (m + 1 + xv (fun i => Y9 (kid i)) n) ts (by omega)).2 ⟨ts, g1, by simp, by simpa using g2, by simpa using g4, by simp, by simp; omega⟩; rw [hq] at this; obtain ⟨rfl, rfl⟩ : M1 = m + 1 + xv (fun i => Y9 (kid i)) n /\ us = ts := by simpa using this
       exact ⟨g3, by omega⟩
     ·rw [if_pos he]
      constructor
      ·intro h; simp at h; exact absurd h.2.1 he
      ·rintro ⟨⟨_, _, ts, g1, g2, g3⟩, ⟨_, g4⟩, g5, g6⟩; exfalso; have := (key [] (m + 1 + xv (fun i => Y9 (kid i)) n) ts (by omega)).2 ⟨ts, g1, by simp, by simpa using g2, by simpa using g4, by simp, by simp; omega⟩; rw [hq] at this; simp at this; exact he this.1
theorem WN {cols : List Int} (e : E) : ∀ {T : Int}, wt cols e T -> RE cols.length e := by
 induction e with
 | leaf => intro T h; exact h.elim
 | mk k v c A n cap kid ih =>
  intro T h; simp only [wt] at h; obtain ⟨h1, h2, ts, h3, h4, h5⟩ := h; refine .mk h1 h2 (fun hk => ?_) (fun hk => ?_) (fun i hi => ih i (h4 i hi))
  ·unfold Mh at h5; rw [if_pos hk] at h5; exact (RV.of v).1 h5.1
  ·unfold Mh at h5; rw [if_neg (by omega), if_pos hk] at h5; exact ⟨h5.1, h5.2.1⟩
theorem xE (cols : List Int) (e : E) (T : Int) : zr cols e = (T, 0) ↔ cols.length <= 16 /\ cols.all qU = true /\ wt cols e T /\ N6 e 1 /\ Y9 e <= 200 := by
 unfold zr
 by_cases h1 : 16 < cols.length
 ·rw [if_pos h1]
  constructor
  ·intro h; simp at h
  ·rintro ⟨h, _⟩; omega
 ·rw [if_neg h1]; cases h2 : cols.all qU
  ·rw [if_pos rfl]
   constructor
   ·intro h; simp at h
   ·rintro ⟨_, h, _⟩; simp at h
  ·rw [if_neg (by simp)]; obtain ⟨q1, q2, q3, hq⟩ : ∃ q1 q2 q3, yU cols e 1 0 = (q1, q2, q3) := ⟨_, _, _, rfl⟩
   rw [hq]; simp only
   by_cases h3 : q2 = 0
   ·subst h3; rw [if_neg (by simp)]; obtain ⟨g1, g2, g3, g4⟩ := (Kr cols e 1 0 q1 q3 (by omega)).1 hq
    constructor
    ·intro h; obtain rfl : q1 = T := by simpa using h
     exact ⟨by omega, trivial, g1, g2, by omega⟩
    ·rintro ⟨_, _, k1, _, _⟩; have := (Kr cols e 1 0 T q3 (by omega)).2 ⟨k1, g2, g3, g4⟩; rw [hq] at this; simp at this; simp [this]
   ·rw [if_pos h3]
    constructor
    ·intro h; simp at h; exact absurd h.2 h3
    ·rintro ⟨_, _, k1, k2, k3⟩; exfalso; have := (Kr cols e 1 0 T (Y9 e) (by omega)).2 ⟨k1, k2, by omega, by omega⟩; rw [hq] at this; simp at this; exact h3 this.2.1
def JF : List V -> List Int -> Int
 | [], _ => 0
 | v :: vs, ts => if yG v ≠ 0 then yG v else if v.k ≠ 1 /\ v.k ≠ ts.headD 0 then 9 else JF vs ts.tail
def jq (cols : List Int) (row : List V) : Int := if row.length ≠ cols.length then 8 else JF row cols
def kq (cols : List Int) (row : List V) : Prop := row.length = cols.length /\ ∀ i, ∀ v, row[i]? = some v -> RV v /\ (v.k = 1 \/ v.k = cols.getD i 0)
theorem Pe : ∀ (row : List V) (ts : List Int), JF row ts = 0 ↔ ∀ i v, row[i]? = some v -> RV v /\ (v.k = 1 \/ v.k = ts.getD i 0)
 | [], ts => by simp [JF]
 | v :: vs, ts => by
  unfold JF
  by_cases h1 : yG v = 0
  ·rw [if_neg (by simpa using h1)]
   by_cases h2 : v.k ≠ 1 /\ v.k ≠ ts.headD 0
   ·rw [if_pos h2]
    constructor
    ·intro h; simp at h
    ·intro h; have := (h 0 v rfl).2; cases ts <;> simp_all
   ·rw [if_neg h2, Pe vs ts.tail]
    constructor
    ·intro h i x hx; cases i with
     | zero =>
      simp at hx; subst hx; refine ⟨(RV.of _).1 h1, ?_⟩; cases ts <;> simp_all <;> omega
     | succ i =>
      have := h i x (by simpa using hx); cases ts <;> simpa using this
    ·intro h i x hx; have := h (i + 1) x (by simpa using hx); cases ts <;> simpa using this
  ·rw [if_pos h1]
   constructor
   ·intro h; exact absurd h h1
   ·intro h; exact absurd ((RV.of _).2 (h 0 v rfl).1) h1
theorem yP (cols : List Int) (row : List V) : jq cols row = 0 ↔ kq cols row := by
 unfold jq kq
 by_cases h : row.length = cols.length
 ·rw [if_neg (by simpa using h), Pe]; simp [h]
 ·rw [if_pos h]; simp [h]
theorem kq.rv {cols : List Int} {row : List V} (h : kq cols row) : ∀ x ∈ row, RV x := fun x hx => by
 obtain ⟨i, hi, rfl⟩ := List.getElem_of_mem hx; exact (h.2 i _ (List.getElem?_eq_getElem hi)).1
theorem Qq (n : Int) : (y6 n).k = 1 \/ (y6 n).k = 2 := by
 unfold y6 qG; split <;> simp
theorem zch (a b : V) : (N9 a b).k = 1 \/ (N9 a b).k = 2 := by
 unfold N9 qG; split <;> simp
theorem zaz (a b : V) : (qu a b).k = 1 \/ (qu a b).k = 2 := by
 unfold qu qG; split <;> simp
theorem zbL (k : Int) (a b : V) : (yo k a b).k = 1 \/ (yo k a b).k = 2 := by
 unfold yo
 repeat' split
 all_goals first | exact zch _ _ | exact zaz _ _ | exact Qq _
theorem Sj (n : Int) : (xH n).k = 1 \/ (xH n).k = 3 := by
 unfold xH; split <;> simp
theorem JW (s : Int) (a b : V) : (ym s a b).k = 1 \/ (ym s a b).k = 3 := by
 unfold ym
 repeat' split
 all_goals first | exact Sj _ | simp
theorem zay (a b : V) : (qN a b).k = 1 \/ (qN a b).k = 4 := by
 unfold qN; split <;> simp
theorem kinds {k : Int} (h : 0 <= zk k) : k = 1 \/ k = 2 \/ k = 3 \/ k = 4 \/ k = 5 \/ (6 <= k /\ k <= 11) \/ k = 12 \/ k = 13 \/ k = 14 \/ k = 15 \/ k = 16 \/ k = 17 \/ k = 18 := by
 unfold zk at h
 repeat' split at h
 all_goals omega
theorem CY {k : Int} (h : 6 <= k /\ k <= 11) (a b d : V) : WC k a b d = yo k a b := by
 unfold WC; rw [if_neg (by omega), if_neg (by omega), if_neg (by omega), if_neg (by omega), if_neg (by omega), if_neg (by omega), if_neg (by omega), if_neg (by omega), if_neg (by omega), if_neg (by omega)]
theorem zbT {cols : List Int} {row : List V} (hf : kq cols row) (e : E) : ∀ {T : Int}, wt cols e T -> (yt row e).k = 1 \/ (yt row e).k = T := by
 induction e with
 | leaf => intro T h; exact h.elim
 | mk k v c A n cap kid ih =>
  intro T h; simp only [wt] at h; obtain ⟨h0, hn, ts, h3, h4, h5⟩ := h; unfold yt; unfold Mh at h5; split
  ·rw [if_pos (by assumption)] at h5; rw [Zr]; exact .inr h5.2.symm
  ·rename_i n1; rw [if_neg n1] at h5; split
   ·rw [if_pos (by assumption)] at h5; rw [Zr]; obtain ⟨c0, c1, rfl⟩ := h5; have hl : c.toNat < row.length := by have := hf.1; omega
    rw [List.getD_eq_getElem?_getD, List.getElem?_eq_getElem hl]; exact (hf.2 c.toNat _ (List.getElem?_eq_getElem hl)).2
   ·rename_i n2; rw [if_neg n2] at h5; rcases kinds h0 with hk | hk | hk | hk | hk | hk | hk | hk | hk | hk | hk | hk | hk
    ·contradiction
    ·contradiction
    ·subst hk
     have e : T = 2 := by
      rw [if_neg (by decide)] at h5; unfold zJ at h5; split at h5
      ·split at h5 <;> simp at h5
       exact h5.symm
      ·omega
     subst e; exact Qq _
    ·subst hk
     have e : T = 2 := by
      rw [if_neg (by decide)] at h5; unfold zJ at h5; split at h5
      ·split at h5 <;> simp at h5
       exact h5.symm
      ·omega
     subst e; exact Qq _
    ·subst hk
     have e : T = 2 := by
      rw [if_neg (by decide)] at h5; unfold zJ at h5; split at h5
      ·split at h5 <;> simp at h5
       exact h5.symm
      ·omega
     subst e; exact Qq _
    ·rw [CY hk]
     have e : T = 2 := by
      rw [if_neg (by omega)] at h5; unfold zJ at h5; rw [if_neg (by omega), if_pos (by omega)] at h5; split at h5 <;> simp at h5
      exact h5.symm
     subst e; exact zbL _ _ _
    ·subst hk
     have e : T = 3 := by
      rw [if_neg (by decide)] at h5; unfold zJ at h5; rw [if_neg (by decide), if_neg (by decide), if_pos (by decide)] at h5; split at h5 <;> simp at h5
      exact h5.symm
     subst e; exact JW _ _ _
    ·subst hk
     have e : T = 3 := by
      rw [if_neg (by decide)] at h5; unfold zJ at h5; rw [if_neg (by decide), if_neg (by decide), if_pos (by decide)] at h5; split at h5 <;> simp at h5
      exact h5.symm
     subst e; exact JW _ _ _
    ·subst hk
     have e : T = 3 := by
      rw [if_neg (by decide)] at h5; unfold zJ at h5; rw [if_neg (by decide), if_neg (by decide), if_pos (by decide)] at h5; split at h5 <;> simp at h5
      exact h5.symm
     subst e; exact JW _ _ _
    ·subst hk
     have e : T = 4 := by
      rw [if_neg (by decide)] at h5; unfold zJ at h5; rw [if_neg (by decide), if_neg (by decide), if_neg (by decide), if_pos (by decide)] at h5; split at h5 <;> simp at h5
      exact h5.symm
     subst e; exact zay _ _
    ·subst hk; rw [if_pos rfl] at h5; subst h5; exact .inr rfl
    ·subst hk; have k17 : zk 17 = 3 := rfl; have i1 := ih 1 (h4 1 (by omega)); have i2 := ih 2 (h4 2 (by omega)); rw [if_neg (by decide)] at h5; unfold zJ at h5; rw [if_neg (by decide), if_neg (by decide), if_neg (by decide), if_neg (by decide), if_pos (by decide)] at h5; split at h5
     ·rename_i hc; simp only [Prod.mk.injEq, and_true] at h5; simp only [yy, Bool.and_eq_true, Bool.or_eq_true, decide_eq_true_eq] at hc; have hc1 := hc.1; rw [show WC 17 (yt row (kid 0)) (yt row (kid 1)) (yt row (kid 2)) = (if yx (yt row (kid 0)) = 2 then yt row (kid 1) else yt row (kid 2)) from rfl]; unfold qe at h5; split <;> split at h5 <;> try split at h5
      all_goals omega
     ·simp at h5
    ·subst hk; have k18 : zk 18 = 2 := rfl; have i0 := ih 0 (h4 0 (by omega)); have i1 := ih 1 (h4 1 (by omega)); rw [if_neg (by decide)] at h5; unfold zJ at h5; rw [if_neg (by decide), if_neg (by decide), if_neg (by decide), if_neg (by decide), if_neg (by decide)] at h5; split at h5
     ·rename_i hc; simp only [Prod.mk.injEq, and_true] at h5; simp only [yy, Bool.or_eq_true, decide_eq_true_eq] at hc; rw [show WC 18 (yt row (kid 0)) (yt row (kid 1)) (yt row (kid 2)) = (if (yt row (kid 0)).k = 1 then yt row (kid 1) else yt row (kid 0)) from rfl]; unfold qe at h5; split <;> split at h5 <;> try split at h5
      all_goals omega
     ·simp at h5
theorem zaZ (k : Int) (h : zk k = 1) (a b d b' d' : V) : WC k a b d = WC k a b' d' := by
 have hk : k = 3 \/ k = 16 := by
  unfold zk at h
  repeat' split at h
  all_goals omega
 rcases hk with rfl | rfl <;> rfl
theorem za0 (k : Int) (h : zk k = 2) (a b d d' : V) : WC k a b d = WC k a b d' := by
 have hk : k ≠ 17 := by rintro rfl; revert h; decide
 unfold WC; simp [hk]
theorem J5 {k : Int} (h1 : 1 <= zk k) {a b d a' b' d' : V} (ha : a = a') (hb : 2 <= zk k -> b = b') (hd : 3 <= zk k -> d = d') : WC k a b d = WC k a' b' d' := by
 subst ha
 by_cases h2 : 2 <= zk k
 ·have := hb h2; subst this
  by_cases h3 : 3 <= zk k
  ·have := hd h3; subst this; rfl
  ·exact za0 k (by omega) _ _ _ _
 ·exact zaZ k (by omega) _ _ _ _ _
def zV : V := ⟨0, 0, es⟩
def Za (k : Int) (a b : E) (A : Option Addr) : E := .mk k zV 0 A 2 2 (fun i => if i = 0 then a else b)
theorem zaW {row : List V} {k : Int} {a b : E} {A : Option Addr} (h1 : k ≠ 1) (h2 : k ≠ 2) : yt row (Za k a b A) = WC k (yt row a) (yt row b) (yt row b) := by
 simp [Za, yt, h1, h2]
structure zbz (cols : List Int) (e : E) (T : Int) : Prop where
 len : cols.length <= 16
 all : cols.all qU = true
 ty : wt cols e T
 deep : N6 e 1
 size : Y9 e <= 200
theorem CU {cols : List Int} {e : E} {T : Int} : zr cols e = (T, 0) ↔ zbz cols e T := by
 rw [xE]; exact ⟨fun ⟨a, b, c, d, e⟩ => ⟨a, b, c, d, e⟩, fun ⟨a, b, c, d, e⟩ => ⟨a, b, c, d, e⟩⟩
theorem Xz {cols : List Int} {e : E} (h : (zr cols e).2 = 0) : ∃ T, zbz cols e T := ⟨(zr cols e).1, CU.1 (Prod.ext rfl h)⟩
theorem Co {k : Int} (h : 6 <= k /\ k <= 11) : zk k = 2 := by
 unfold zk; rw [if_neg (by omega), if_neg (by omega), if_pos (by omega)]
structure zcc (cols : List Int) (x y : E) : Prop where
 len : cols.length <= 16
 all : cols.all qU = true
 ty : ∃ t u, wt cols x t /\ wt cols y u /\ yy t u = true
 dx : N6 x 3
 dy : N6 y 3
 size : 3 + (Y9 x + Y9 y) + (Y9 x + Y9 y) <= 200
end Go.Proofs.YtcaedcpjdmlilaaGreat

