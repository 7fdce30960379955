/- Parts of a proof. No condition. -/
import Derived.Test.YtflggnopgnoeiaaGreatGFq
import Derived.Test.YtflggnopgnoeiaaGreatGFc
set_option linter.unusedSimpArgs false
set_option linter.unusedVariables false
namespace Go.Proofs.YtflggnopgnoeiaaGreat
open Go.RowKit Go.Calm
def xo (E : Nat -> Nat -> Bool) : Nat -> Nat -> Nat -> Bool
 | 0, i, j => E i j
 | k + 1, i, j => xo E k i j || (xo E k i k && xo E k k j)
inductive TC (E : Nat -> Nat -> Bool) : Nat -> Nat -> Prop
 | base {i j : Nat} (h : E i j = true) : TC E i j
 | step {i k j : Nat} (h : TC E i k) (e : E k j = true) : TC E i j
section
variable {E : Nat -> Nat -> Bool}
theorem TC.trans {i k j : Nat} (h1 : TC E i k) (h2 : TC E k j) : TC E i j := by
 induction h2 with
 | base h => exact .step h1 h
 | step _ e ih => exact .step ih e
theorem zbR {k i j : Nat} (h : xo E k i j = true) : xo E (k + 1) i j = true := by unfold xo; rw [h]; rfl
theorem KH {i j : Nat} (h : E i j = true) : ∀ k, xo E k i j = true
 | 0 => h
 | k + 1 => zbR (KH h k)
theorem FL : ∀ (k : Nat) {i m j : Nat}, m < k -> xo E k i m = true -> xo E k m j = true -> xo E k i j = true
 | 0, _, _, _, h, _, _ => absurd h (Nat.not_lt_zero _)
 | k + 1, i, m, j, hm, h1, h2 => by
  have ih := fun {i m j : Nat} (h : m < k) (a : xo E k i m = true) (b : xo E k m j = true) => FL k h a b
  simp only [xo, Bool.or_eq_true, Bool.and_eq_true] at h1 h2 ⊢
  by_cases e : m = k
  ·subst e; refine .inr ⟨?_, ?_⟩
   ·rcases h1 with h | h
    ·exact h
    ·exact h.1
   ·rcases h2 with h | h
    ·exact h
    ·exact h.2
  ·have hlt : m < k := by omega
   rcases h1 with h1 | h1
   ·rcases h2 with h2 | h2
    ·exact .inl (ih hlt h1 h2)
    ·exact .inr ⟨ih hlt h1 h2.1, h2.2⟩
   ·rcases h2 with h2 | h2
    ·exact .inr ⟨h1.1, ih hlt h1.2 h2⟩
    ·exact .inr ⟨h1.1, h2.2⟩
theorem NZ : ∀ (k : Nat) {i j : Nat}, xo E k i j = true -> TC E i j
 | 0, _, _, h => .base h
 | k + 1, i, j, h => by
  simp only [xo, Bool.or_eq_true, Bool.and_eq_true] at h; rcases h with h | h
  ·exact NZ k h
  ·exact (NZ k h.1).trans (NZ k h.2)
theorem zbO {n : Nat} (hE : ∀ i j, E i j = true -> i < n /\ j < n) {i j : Nat} (h : TC E i j) : xo E n i j = true /\ i < n /\ j < n := by
 induction h with
 | base h => exact ⟨KH h n, hE _ _ h⟩
 | step _ e ih =>
  have h1 := hE _ _ e; exact ⟨FL n h1.1 ih.1 (KH e n), ih.2.1, h1.2⟩
def kV (E R : Nat -> Nat -> Bool) (i j : Nat) : Bool := R i j || (List.range 10).any (fun k => R i k && E k j)
def j8 (E : Nat -> Nat -> Bool) : Nat -> Nat -> Nat -> Bool
 | 0 => E
 | n + 1 => kV E (j8 E n)
theorem TN {n i j : Nat} (h : j8 E n i j = true) : j8 E (n + 1) i j = true := by
 show kV E (j8 E n) i j = true; unfold kV; rw [h]; rfl
theorem Dy : ∀ (n : Nat) {i j : Nat}, j8 E n i j = true -> TC E i j
 | 0, _, _, h => .base h
 | n + 1, i, j, h => by
  have h : kV E (j8 E n) i j = true := h; unfold kV at h; rw [Bool.or_eq_true, List.any_eq_true] at h; rcases h with h | ⟨k, _, h⟩
  ·exact Dy n h
  ·rw [Bool.and_eq_true] at h; exact .step (Dy n h.1) h.2
theorem TF {p q : Nat -> Bool} : ∀ (l : List Nat), (∀ x ∈ l, p x = true -> q x = true) -> (l.filter p).length <= (l.filter q).length
 | [], _ => Nat.le_refl _
 | x :: l, h => by
  have ih := TF l (fun y hy => h y uS_); rw [List.filter_cons, List.filter_cons]
  by_cases hp : p x = true
  ·rw [if_pos hp, if_pos (h x uY_ hp)]; simp; omega
  ·rw [if_neg hp]; split
   ·simp; omega
   ·exact ih
theorem TH {p q : Nat -> Bool} : ∀ (l : List Nat), (∀ x ∈ l, p x = true -> q x = true) -> (∃ x ∈ l, q x = true /\ p x = false) -> (l.filter p).length < (l.filter q).length
 | [], _, ⟨x, hx, _⟩ => by simp at hx
 | x :: l, h, ⟨y, hy, h1, h2⟩ => by
  have le := TF l (fun y hy => h y uS_); rw [List.filter_cons, List.filter_cons]; rcases List.mem_cons.1 hy with rfl | hy
  ·rw [if_neg (by rw [h2]; simp), if_pos h1]; simp; omega
  ·have ih := TH l (fun y hy => h y uS_) ⟨y, hy, h1, h2⟩
   by_cases hp : p x = true
   ·rw [if_pos hp, if_pos (h x uY_ hp)]; simp; omega
   ·rw [if_neg hp]; split
    ·simp; omega
    ·exact ih
theorem Qx {R S : Nat -> Nat -> Bool} {i : Nat} (h : ∀ j, j < 10 -> R i j = S i j) (j : Nat) (hj : j < 10) : kV E R i j = kV E S i j := by
 unfold kV; rw [h j hj]; congr 1; rw [Bool.eq_iff_iff, List.any_eq_true, List.any_eq_true]
 constructor
 ·rintro ⟨k, hk, e⟩; exact ⟨k, hk, by rw [<- h k (List.mem_range.1 hk)]; exact e⟩
 ·rintro ⟨k, hk, e⟩; exact ⟨k, hk, by rw [h k (List.mem_range.1 hk)]; exact e⟩
theorem Np (i j : Nat) (hj : j < 10) : j8 E 11 i j = j8 E 10 i j := by
 apply Classical.byContradiction; intro hne; have next : ∀ n, (∀ j, j < 10 -> j8 E (n + 1) i j = j8 E n i j) -> ∀ j, j < 10 -> j8 E (n + 2) i j = j8 E (n + 1) i j := fun n h => Qx h
 have un : ∀ d, d <= 10 -> ∃ j, j < 10 /\ j8 E (10 - d + 1) i j ≠ j8 E (10 - d) i j := fun d => by
  induction d with
  | zero => exact fun _ => ⟨j, hj, hne⟩
  | succ d ih =>
   intro hd; obtain ⟨j', h1, h2⟩ := ih uX_; apply Classical.byContradiction; intro hno
   have all : ∀ j, j < 10 -> j8 E (10 - (d + 1) + 1) i j = j8 E (10 - (d + 1)) i j := fun j hj => by
    apply Classical.byContradiction; intro h; exact hno ⟨j, hj, h⟩
   have := next _ all j' h1; rw [show 10 - (d + 1) + 2 = 10 - d + 1 by omega, show 10 - (d + 1) + 1 = 10 - d by omega] at this; exact h2 this
 have cnt : ∀ n, n <= 11 -> n <= ((List.range 10).filter (j8 E n i)).length := fun n => by
  induction n with
  | zero => exact fun _ => Nat.zero_le _
  | succ n ih =>
   intro hn; have h1 := ih uX_; obtain ⟨j', h2, h3⟩ := un (10 - n) uX_; rw [show 10 - (10 - n) = n by omega] at h3
   have h4 := TH (p := j8 E n i) (q := j8 E (n + 1) i) (List.range 10) (fun x _ h => TN h) ⟨j', List.mem_range.2 h2, by
    cases e : j8 E (n + 1) i j' with
    | true => rfl
    | false =>
     cases e2 : j8 E n i j' with
     | false => exact absurd (e.trans e2.symm) h3
     | true => have := TN e2; rw [e] at this; exact this, by
    cases e2 : j8 E n i j' with
    | false => rfl
    | true => exact absurd ((TN e2).trans e2.symm) h3⟩
   omega
 have h1 := cnt 11 (Nat.le_refl _); have h2 := List.length_filter_le (j8 E 11 i) (List.range 10); simp at h2; omega
theorem zcp (hE : ∀ i j, E i j = true -> i < 10 /\ j < 10) {i j : Nat} (h : TC E i j) : j8 E 10 i j = true := by
 have base : ∀ n {i j : Nat}, E i j = true -> j8 E n i j = true := fun n => by
  induction n with
  | zero => exact fun h => h
  | succ n ih => exact fun h => TN (ih h)
 induction h with
 | base h => exact base 10 h
 | step h e ih =>
  have h1 := hE _ _ e; rw [<- Np _ _ h1.2]; show kV E (j8 E 10) _ _ = true; unfold kV; rw [Bool.or_eq_true, List.any_eq_true]; exact .inr ⟨_, List.mem_range.2 h1.1, by rw [ih, e]; rfl⟩
theorem za7 (hE : ∀ i j, E i j = true -> i < 10 /\ j < 10) (i j : Nat) : j8 E 10 i j = xo E 10 i j := by
 rw [Bool.eq_iff_iff]; exact ⟨fun h => (zbO hE (Dy 10 h)).1, fun h => zcp hE (NZ 10 h)⟩
end
abbrev qP (i j : Nat) : List V := [nV (i : Int), nV (j : Int)]
def xB (z : List Z) : Prop := ∀ y ∈ z, ∃ i j : Nat, i < 10 /\ j < 10 /\ y.1 = qP i j
def RL (z : List Z) (i j : Nat) : Bool := decide (0 < zW z (qP i j))
theorem WD {i : Nat} (h : i < 10) : RV (nV (i : Int)) := EW _ uX_ uX_
theorem DU {i j : Nat} (hi : i < 10) (hj : j < 10) : ∀ v ∈ qP i j, RV v := fun v hv => by
 rcases List.mem_cons.1 hv with rfl | hv
 ·exact WD hi
 ·simp at hv; subst hv; exact WD hj
theorem DZ {i j : Nat} (h : nV (i : Int) = nV (j : Int)) : i = j := by
 have := congrArg V.n h; simp [nV] at this; omega
theorem Qn {i j i' j' : Nat} (h : qP i j = qP i' j') : i = i' /\ j = j' := by
 simp only [qP, List.cons.injEq, and_true] at h; exact ⟨DZ h.1, DZ h.2⟩
theorem GK {i j : Nat} (hi : i < 10) (hj : j < 10) : jU [3, 3] (qP i j) := ⟨rfl, fun n v hv => by
 match n, hv with
 | 0, hv => simp at hv; subst hv; exact ⟨WD hi, .inr rfl⟩
 | 1, hv => simp at hv; subst hv; exact ⟨WD hj, .inr rfl⟩⟩
theorem VI {z : List Z} (h : xB z) : jo [3, 3] z := fun y hy => by
 obtain ⟨i, j, hi, hj, e⟩ := h y hy; rw [e]; exact GK hi hj
def Ge : List (List V) := (List.range 10).flatMap (fun i => (List.range 10).map (fun j => qP i j))
theorem Cn {r : List V} : r ∈ Ge ↔ ∃ i j : Nat, i < 10 /\ j < 10 /\ r = qP i j := by
 unfold Ge; simp only [List.mem_flatMap, List.mem_map, List.mem_range]
 constructor
 ·rintro ⟨i, hi, j, hj, rfl⟩; exact ⟨i, j, hi, hj, rfl⟩
 ·rintro ⟨i, j, hi, hj, rfl⟩; exact ⟨i, hi, j, hj, rfl⟩
theorem Wp {z : List Z} (h : yA z) : (z.map Prod.fst).Nodup := by
 unfold List.Nodup; rw [List.pairwise_map]; exact h.up.imp (fun {p q} hab e => by rw [e, J9] at hab; omega)
theorem Y7 {z : List Z} (hc : yA z) (h : xB z) : z.length <= 100 := by
 have h1 := List.Nodup.length_le_of_subset (l₂ := Ge) (Wp hc) (fun r hr => by
  obtain ⟨y, hy, rfl⟩ := List.mem_map.1 hr
  exact Cn.2 (h y hy))
 have h2 : Ge.length = 100 := by decide
 simp at h1; omega
theorem VH {a b : List Z} (ha : D1 a) (hb : D1 b) (pa : xB a) (pb : xB b) (h : ∀ i j : Nat, i < 10 -> j < 10 -> RL a i j = RL b i j) : a = b := by
 have key : ∀ {a b : List Z}, D1 a -> D1 b -> xB a -> (∀ i j : Nat, i < 10 -> j < 10 -> RL a i j = RL b i j) -> ∀ u, zW a u = 1 -> zW b u = 1 := fun {a b} ha hb pa h u hu => by
  obtain ⟨y, hy, e⟩ := ZR (r := u) (z := a) uX_; obtain ⟨i, j, hi, hj, ey⟩ := pa y hy; have e2 : zd (qP i j) = zd u := by rw [<- ey]; exact e
  have h1 : RL a i j = true := decide_eq_true (by rw [Xw a e2]; omega); rw [h i j hi hj] at h1; have h2 := of_decide_eq_true h1; rw [Xw b e2] at h2; rcases hb.o u with e | e <;> omega
 refine jt _ _ ha.c hb.c fun u _ => ?_
 rcases ha.o u with e | e
 ·rcases hb.o u with e' | e'
  ·rw [e, e']
  ·have := key hb ha pb (fun i j hi hj => (h i j hi hj).symm) u e'; omega
 ·rw [e, key ha hb pa h u e]
def qD (z : List Z) : Int := yn (fun _ => 1) z
theorem ji (x : Z) (z : List Z) : qD (x :: z) = x.2 + qD z := by unfold qD; simp [yn]
theorem zav (a b : List Z) : qD (a ++ b) = qD a + qD b := jI _ a b
theorem Kv : ∀ {z : List Z}, xh z -> (z.length : Int) <= qD z
 | [], _ => by simp [qD, yn]
 | x :: z, h => by
  have ih := Kv (fun y hy => h y uS_ : xh z); have := h x uY_; rw [ji]; simp; omega
theorem Uh : ∀ {z : List Z}, xh z -> ∀ y ∈ z, y.2 <= qD z
 | x :: z, h, y, hy => by
  have hz : xh z := fun y hy => h y uS_
  have h1 := Kv hz; have h2 := h x uY_; rw [ji]; rcases List.mem_cons.1 hy with rfl | hy
  ·omega
  ·have := Uh hz y hy; omega
theorem Ui {a b : List Z} (h : ∀ q, zW a q = zW b q) : qD a = qD b := Kp (fun _ _ _ => rfl) h
theorem Ub {l : List Z} (ok : Xk l) (p : xh l) (hl : (yE l).length <= 400) (ht : qD l <= 1000000) : yy l = (yE l, 0) /\ yA (yE l) /\ xh (yE l) /\ qD (yE l) = qD l /\ ∀ u, zW (yE l) u = zW l u := by
 obtain ⟨c, w⟩ := yW l (fun x hx => (ok x hx).2); have p2 : xh (yE l) := qL c (fun u => by rw [w]; exact (yz p u).1); have t := Ui w; refine ⟨YR hl (fun y hy => ?_), c, p2, t, w⟩; have := Uh p2 y hy; have := p2 y hy; omega
theorem MK (x : E) (y : Z) (hy : 0 <= y.2) : ∀ {b : List Z}, xh b -> qD (qR x y b) <= y.2 * qD b
 | [], _ => by simp [qR, qD, yn]
 | r :: b, h => by
  have ih := MK x y hy (fun q hq => h q (by simp [hq]) : xh b); have hr := h r uY_; have hm : 0 <= y.2 * r.2 := Int.mul_nonneg hy uX_; unfold qR at ih ⊢; rw [List.filter_cons, ji, Int.mul_add]; split
  ·rw [List.map_cons, ji]; show y.2 * r.2 + _ <= _; omega
  ·omega
theorem Rz (x : E) {b : List Z} (hb : xh b) : ∀ {a : List Z}, xh a -> qD (yS x a b) <= qD a * qD b
 | [], _ => by simp [yS, qD, yn]
 | y :: a, h => by
  have ih := Rz x hb (fun q hq => h q (by simp [hq]) : xh a); have hy := h y uY_; have h1 := MK x y uX_ hb; have e : yS x (y :: a) b = qR x y b ++ yS x a b := by unfold yS; rw [List.flatMap_cons]
  rw [e, zav, ji, Int.add_mul]; omega
theorem Ma (g i k k' j : Nat) : yD (N1 g 1 2) (qP i k ++ qP k' j) = decide (k = k') := by
 have e : yu (qP i k ++ qP k' j) (N1 g 1 2) = Nb (nV (k : Int)) (nV (k' : Int)) := rfl; unfold yD; rw [e]; have e2 : Nb (nV (k : Int)) (nV (k' : Int)) = qj (x4 (nV (k : Int)) (nV (k' : Int)) == 0) := rfl; have e3 : x4 (nV (k : Int)) (nV (k' : Int)) = Ec (jV 3 3) (jV (k : Int) (k' : Int)) (kL ⟨#[]⟩ ⟨#[]⟩) := rfl; rw [e2, e3]
 by_cases h : k = k'
 ·subst h; have e4 : jV (k : Int) (k : Int) = 0 := by unfold jV; simp
  rw [e4, decide_eq_true rfl]; decide
 ·have e4 : jV (k : Int) (k' : Int) = -1 \/ jV (k : Int) (k' : Int) = 1 := by
   unfold jV
   by_cases h1 : (k : Int) < (k' : Int)
   ·simp [h1]
   ·by_cases h2 : (k' : Int) < (k : Int)
    ·simp [h1, h2]
    ·omega
  rw [decide_eq_false h]; rcases e4 with e4 | e4 <;> rw [e4] <;> decide
section
variable {gs gj ge gk : Nat}
theorem Lz : zn [[3, 3], [3, 3]] (yF gs gj ge gk) = ([3, 3], 0) := by kernel_rfl
theorem US : zn [[3, 3], [3, 3]] (jG ge gk) = ([3, 3, 3, 3], 0) := by kernel_rfl
theorem QM : zn [[3, 3]] (jT 0) = ([3, 3], 0) := by kernel_rfl
theorem UU : yG ([3, 3] ++ [3, 3]) (N1 ge 1 2) = 0 := by kernel_rfl
theorem KE : (zB [3, 3, 3, 3] [cE 0, cE 3]).2 = 0 := by kernel_rfl
theorem SQ : zA 1 (yF gs gj ge gk) = (1, true) := by kernel_rfl
structure Tm (d : List Z) : Prop where
 r : jq d
 p : xh d
 q : xB d
 t : qD d <= 30
theorem JP {z : List Z} (h : xB z) (w : zC z = 0) : zo [3, 3] z = 0 := Nm uW_ (VI h) w
theorem Kl {z : List Z} (h : jq z) : yy z = (z, 0) := by
 have sm := SM.of h.2; obtain ⟨c, w⟩ := yW z sm.rv; have e : yE z = z := jt _ _ c h.1 fun u _ => w u
 unfold yy; rw [e]; exact YR (by have := sm.len; omega) sm.bd
theorem JU {a b : List Z} (pa : xB a) (pb : xB b) {y : Z} (hy : y ∈ yS (N1 ge 1 2) a b) : ∃ p ∈ a, ∃ q ∈ b, ∃ i k j : Nat, i < 10 /\ k < 10 /\ j < 10 /\ p.1 = qP i k /\ q.1 = qP k j /\ y = (qP i k ++ qP k j, p.2 * q.2) := by
 unfold yS at hy; obtain ⟨p, hp, hy⟩ := List.mem_flatMap.1 hy; unfold qR at hy; obtain ⟨q, hq, rfl⟩ := List.mem_map.1 hy; obtain ⟨hq, hh⟩ := List.mem_filter.1 hq; obtain ⟨i, k, hi, hk, e1⟩ := pa p hp; obtain ⟨k', j, hk', hj, e2⟩ := pb q hq; rw [e1, e2, Ma] at hh; have := of_decide_eq_true hh; subst this; exact ⟨p, hp, q, hq, i, k, j, hi, hk, hj, e1, e2, by rw [e1, e2]⟩
theorem CB (d : List Z) : (d.flatMap (fun q => (List.range 10).map (fun i : Nat => nV (i : Int) :: q.1.headD yj :: q.1))).length = 10 * d.length := by
 induction d with
 | nil => rfl
 | cons x d ih => rw [List.flatMap_cons, List.length_append, ih]; simp; omega
theorem JZ {d rows : List Z} (hd : Tm d) (hr : D1 rows) (pr : xB rows) : ∃ s, xd [[3, 3], [3, 3]] (yF gs gj ge gk) [d] rows = (s, 0) /\ D1 s /\ xB s /\ ∀ i j : Nat, RL s i j = (List.range 10).any (fun k => RL rows i k && RL d k j) := by
 have rr : jq rows := ⟨hr.c, hr.w⟩
 have i1 := JP hd.q hd.r.2; have i2 := JP pr hr.w
 have tr : qD rows <= 100 := by
  have h1 : ∀ {z : List Z}, (∀ y ∈ z, y.2 = 1) -> qD z = z.length := fun {z} => by
   induction z with
   | nil => intro _; rfl
   | cons x z ih => intro h; rw [ji, h x uY_, ih (fun y hy => h y uS_)]; simp; omega
  have := Y7 hr.c pr; rw [h1 (fun y hy => hr.one hy)]; omega
 have dl : d.length <= 30 := by have := Kv hd.p; have := hd.t; omega
 have two : qv [3, 3] [3, 3] (N1 ge 1 2) rows d = 0 := by
  unfold qv; rw [if_neg uW_, UU, i2, i1]; rfl
 have hj0 := je two
 have pj : xh (yS (N1 ge 1 2) rows d) := fun y hy => by
  obtain ⟨p, hp, q, hq, rfl⟩ := Xi hy; exact Int.mul_pos (hr.pos p hp) (hd.p q hq)
 have tj : qD (yS (N1 ge 1 2) rows d) <= 3000 := by
  have h1 := Rz (N1 ge 1 2) hd.p hr.pos; have h2 := Kv hr.pos; have h3 := Kv hd.p; have h4 := hd.t; have h5 : qD rows * qD d <= 100 * 30 := Int.mul_le_mul tr h4 uX_ uX_; omega
 have cj := yW (yS (N1 ge 1 2) rows d) (fun x hx => (hj0 x hx).2)
 have lj : (yE (yS (N1 ge 1 2) rows d)).length <= 400 := by
  have h1 := List.Nodup.length_le_of_subset (l₂ := d.flatMap (fun q => (List.range 10).map (fun i : Nat => nV (i : Int) :: q.1.headD yj :: q.1))) (Wp cj.1) (fun r hr => by
   obtain ⟨y, hy, rfl⟩ := List.mem_map.1 hr; obtain ⟨x, hx, e⟩ := kF hy; obtain ⟨p, hp, q, hq, i, k, j, hi, hk, hj, e1, e2, e3⟩ := JU pr hd.q hx; refine List.mem_flatMap.2 ⟨q, hq, List.mem_map.2 ⟨i, List.mem_range.2 hi, ?_⟩⟩; rw [e, e3, e2]
   rfl)
  rw [CB] at h1; simp at h1; omega
 obtain ⟨ej, kj, pj2, tj2, wj⟩ := Ub hj0 pj lj uX_; obtain ⟨J, hJ⟩ : ∃ J, yE (yS (N1 ge 1 2) rows d) = J := ⟨_, rfl⟩
 have Jmem : ∀ y ∈ J, ∃ p ∈ rows, ∃ q ∈ d, ∃ i k j : Nat, i < 10 /\ k < 10 /\ j < 10 /\ p.1 = qP i k /\ q.1 = qP k j /\ y.1 = qP i k ++ qP k j := fun y hy => by
  rw [<- hJ] at hy; obtain ⟨x, hx, e⟩ := kF hy; obtain ⟨p, hp, q, hq, i, k, j, hi, hk, hj, e1, e2, e3⟩ := JU pr hd.q hx; exact ⟨p, hp, q, hq, i, k, j, hi, hk, hj, e1, e2, by rw [e, e3]; rfl⟩
 rw [hJ] at ej kj pj2 tj2 wj
 have dE : yO [[3, 3], [3, 3]] [d, rows] = 0 := by
  unfold yO; rw [if_neg uY_]; simp only [y6, i1, i2]; simp
 have pJ : zZ [[3, 3], [3, 3]] [d, rows] (jG ge gk) = (J, 0) := by
  have e1 : zZ [[3, 3], [3, 3]] [d, rows] (jT 1) = (rows, 0) := by unfold zZ; rw [if_pos rfl]; exact Kl rr
  have e0 : zZ [[3, 3], [3, 3]] [d, rows] (jT 0) = (d, 0) := by unfold zZ; rw [if_pos rfl]; exact Kl hd.r
  have c1 : (zn [[3, 3], [3, 3]] (jT 1)).1 = [3, 3] := by kernel_rfl
  have c0 : (zn [[3, 3], [3, 3]] (jT 0)).1 = [3, 3] := by kernel_rfl
  have e2 := Yq (ts := [[3, 3], [3, 3]]) (k := 4) (n := 0) (x := N1 ge 1 2) (xs := zbk) (ag := D0) (A := some ⟨gk, 0, none⟩) (cap := 2) (kid := fun n => if n = 0 then jT 1 else jT 0) uW_ (d := [d, rows]) (z := rows) (y := d) e1 e0; refine Eq.trans e2 ?_; show X9 4 0 (N1 ge 1 2) [] [] [(zn [[3, 3], [3, 3]] (jT 1)).1, (zn [[3, 3], [3, 3]] (jT 0)).1] [rows, d] = _; rw [c1, c0]; show qy [3, 3] [3, 3] (N1 ge 1 2) rows d = (J, 0); unfold qy; rw [if_neg (by rw [two]; simp)]; exact ej
 have iJ : zo [3, 3, 3, 3] J = 0 := by
  refine Nm uW_ (fun y hy => ?_) ?_
  ·obtain ⟨p, hp, q, hq, i, k, j, hi, hk, hj, e1, e2, e3⟩ := Jmem y hy; rw [e3]; refine ⟨rfl, fun n v hv => ?_⟩
   match n, hv with
   | 0, hv => simp at hv; subst hv; exact ⟨WD hi, .inr rfl⟩
   | 1, hv => simp at hv; subst hv; exact ⟨WD hk, .inr rfl⟩
   | 2, hv => simp at hv; subst hv; exact ⟨WD hk, .inr rfl⟩
   | 3, hv => simp at hv; subst hv; exact ⟨WD hj, .inr rfl⟩
  ·exact (qC hj0 ej).2.1
 have mok : Xk (J.map (fun r => (yJ [cE 0, cE 3] r.1, r.2))) := YZ KE iJ
 have mmem : ∀ y ∈ J.map (fun r => (yJ [cE 0, cE 3] r.1, r.2)), ∃ i j : Nat, i < 10 /\ j < 10 /\ y.1 = qP i j := fun y hy => by
  obtain ⟨x, hx, rfl⟩ := List.mem_map.1 hy; obtain ⟨p, hp, q, hq, i, k, j, hi, hk, hj, e1, e2, e3⟩ := Jmem x hx; exact ⟨i, j, hi, hj, by show yJ _ x.1 = _; rw [e3]; rfl⟩
 have pm : xh (J.map (fun r => (yJ [cE 0, cE 3] r.1, r.2))) := fun y hy => by
  obtain ⟨x, hx, rfl⟩ := List.mem_map.1 hy; exact pj2 x hx
 have tm : qD (J.map (fun r => (yJ [cE 0, cE 3] r.1, r.2))) = qD J := by
  clear mok mmem pm iJ pJ Jmem pj2 kj ej tj2 wj hJ
  induction J with
  | nil => rfl
  | cons x J ih => rw [List.map_cons, ji, ji, ih]
 have cm := yW (J.map (fun r => (yJ [cE 0, cE 3] r.1, r.2))) (fun x hx => (mok x hx).2)
 have pset : xB (yE (J.map (fun r => (yJ [cE 0, cE 3] r.1, r.2)))) := fun y hy => by
  obtain ⟨x, hx, e⟩ := kF hy; obtain ⟨i, j, hi, hj, e2⟩ := mmem x hx; exact ⟨i, j, hi, hj, by rw [e, e2]; rfl⟩
 obtain ⟨em, km, pm2, tm2, wm⟩ := Ub mok pm (by have := Y7 cm.1 pset; omega) (by rw [tm, tj2]; omega); obtain ⟨M, hM⟩ : ∃ M, yE (J.map (fun r => (yJ [cE 0, cE 3] r.1, r.2))) = M := ⟨_, rfl⟩
 rw [hM] at em km pm2 tm2 wm pset
 have ev : xl [[3, 3], [3, 3]] (yF gs gj ge gk) ([d] ++ [rows]) = (M, 0) := by
  unfold xl; rw [if_neg (by rw [Lz]; simp), if_neg (by show ¬ yO _ [d, rows] ≠ 0; rw [dE]; simp)]; have c0 : (zn [[3, 3], [3, 3]] (jG ge gk)).1 = [3, 3, 3, 3] := by rw [US]
  have e2 := Kc (ts := [[3, 3], [3, 3]]) (k := 3) (n := 0) (x := .leaf) (xs := ⟨some ⟨gs, 0, none⟩, [cE 0, cE 3], 2⟩) (ag := D0) (A := some ⟨gj, 0, none⟩) (cap := 1) (kid := fun _ => jG ge gk) uW_ (d := [d, rows]) (z := J) pJ; refine Eq.trans e2 ?_; show X9 3 0 .leaf [cE 0, cE 3] [] [(zn [[3, 3], [3, 3]] (jG ge gk)).1] [J] = _; rw [c0]; show Xc [3, 3, 3, 3] [cE 0, cE 3] J = (M, 0); unfold Xc; rw [if_neg (by rw [KE]; simp), if_neg (by rw [iJ]; simp)]; exact em
 have wM := (qC mok em).2.1; obtain ⟨s, hs, cs, sms, ws⟩ := QN (SM.of wM) uX_ uX_ uX_; have ds := (jb hs).1; have pp : ∀ n : Int, 0 < yM n ↔ 0 < n := fun n => by unfold yM; split <;> omega
 refine ⟨s, ?_, ds, fun y hy => ?_, fun i j => ?_⟩
 ·unfold xd; rw [ev, if_neg uY_]; exact hs
 ·have h1 : zW s y.1 = 1 := by rw [xj ds.c y hy]; exact ds.one hy
  rw [ws] at h1; obtain ⟨t, ht, e⟩ := ZR (r := y.1) (z := M) (fun e => by rw [e] at h1; exact absurd h1 uW_); obtain ⟨i, j, hi, hj, e2⟩ := pset t ht; rw [ds.c.bare y hy, e2] at e; exact ⟨i, j, hi, hj, e.symm⟩
 ·unfold RL; rw [ws, Bool.eq_iff_iff, decide_eq_true_iff, pp, wm, (yz pm _).2, List.any_eq_true]
  constructor
  ·rintro ⟨y, hy, e⟩; obtain ⟨x, hx, rfl⟩ := List.mem_map.1 hy; obtain ⟨p, hp, q, hq, i', k, j', hi, hk, hj, e1, e2, e3⟩ := Jmem x hx; have e : zd (yJ [cE 0, cE 3] x.1) = zd (qP i j) := e; rw [e3] at e; have e : qP i' j' = qP i j := e; obtain ⟨rfl, rfl⟩ := Qn e; refine ⟨k, List.mem_range.2 hk, ?_⟩; rw [Bool.and_eq_true]; exact ⟨decide_eq_true ((yz hr.pos _).2.2 ⟨p, hp, by rw [e1]⟩), decide_eq_true ((yz hd.p _).2.2 ⟨q, hq, by rw [e2]⟩)⟩
  ·rintro ⟨k, hk, h⟩; rw [Bool.and_eq_true] at h; obtain ⟨p, hp, e1⟩ := (yz hr.pos _).2.1 (of_decide_eq_true h.1); obtain ⟨q, hq, e2⟩ := (yz hd.p _).2.1 (of_decide_eq_true h.2); obtain ⟨i1, k1, hi1, hk1, f1⟩ := pr p hp; obtain ⟨k2, j2, hk2, hj2, f2⟩ := hd.q q hq; rw [f1] at e1; rw [f2] at e2; have h1 := Qn (show qP i1 k1 = qP i k from e1); have h2 := Qn (show qP k2 j2 = qP k j from e2); rw [h1.1, h1.2] at f1; rw [h2.1, h2.2] at f2
   have hm : (qP i k ++ qP k j, p.2 * q.2) ∈ yS (N1 ge 1 2) rows d := by
    unfold yS; refine List.mem_flatMap.2 ⟨p, hp, ?_⟩; unfold qR; refine List.mem_map.2 ⟨q, List.mem_filter.2 ⟨hq, ?_⟩, by rw [f1, f2]⟩; rw [f1, f2, Ma]; exact decide_eq_true rfl
   have hw : 0 < zW J (qP i k ++ qP k j) := by
    rw [wj]; exact (yz pj _).2.2 ⟨_, hm, rfl⟩
   obtain ⟨x, hx, e⟩ := (yz pj2 _).2.1 hw; refine ⟨_, List.mem_map.2 ⟨x, hx, rfl⟩, ?_⟩; show zd (yJ [cE 0, cE 3] x.1) = _; rw [kj.bare x hx] at e; rw [e]; rfl
theorem Qc {rows s : List Z} (hr : D1 rows) (hs : D1 s) (pr : xB rows) (ps : xB s) : ∃ t, yN rows s = (t, 0) /\ D1 t /\ xB t /\ ∀ i j : Nat, RL t i j = (RL rows i j || RL s i j) := by
 have sr := SM.of hr.w; have ss := SM.of hs.w
 have pos : xh (rows ++ yI 1 s) := fun y hy => by
  rcases List.mem_append.1 hy with hy | hy
  ·exact hr.pos y hy
  ·obtain ⟨x, hx, rfl⟩ := List.mem_map.1 hy; have := hs.pos x hx; show 0 < 1 * x.2; omega
 have ok : Xk (rows ++ yI 1 s) := qQ sr.ok (fun y hy => by
  obtain ⟨x, hx, rfl⟩ := List.mem_map.1 hy
  exact ss.ok x hx)
 have pq : ∀ y ∈ rows ++ yI 1 s, ∃ i j : Nat, i < 10 /\ j < 10 /\ y.1 = qP i j := fun y hy => by
  rcases List.mem_append.1 hy with hy | hy
  ·exact pr y hy
  ·obtain ⟨x, hx, rfl⟩ := List.mem_map.1 hy; exact ps x hx
 obtain ⟨c, w⟩ := yW (rows ++ yI 1 s) (fun x hx => (ok x hx).2)
 have pset : xB (yE (rows ++ yI 1 s)) := fun y hy => by
  obtain ⟨x, hx, e⟩ := kF hy; obtain ⟨i, j, hi, hj, e2⟩ := pq x hx; exact ⟨i, j, hi, hj, by rw [e, e2]; rfl⟩
 have wt2 : ∀ u, zW (rows ++ yI 1 s) u = zW rows u + zW s u := fun u => by rw [qo, Xx]; omega
 have fit : yy (rows ++ yI 1 s) = (yE (rows ++ yI 1 s), 0) := by
  refine YR (by have := Y7 c pset; omega) (fun y hy => ?_); have h1 := xj c y hy; rw [w, wt2] at h1; have h2 := hr.le y.1; have h3 := hs.le y.1; have h4 := hr.o y.1; have h5 := hs.o y.1; omega
 obtain ⟨B, hB⟩ : ∃ B, yE (rows ++ yI 1 s) = B := ⟨_, rfl⟩
 rw [hB] at fit c w pset
 have hb : xf rows s 1 = (B, 0) := by
  unfold xf; rw [if_neg (by rw [hr.w]; simp), if_neg (by rw [hs.w]; simp)]; exact fit
 obtain ⟨_, _, _, wB, _⟩ := YM hb; obtain ⟨t, ht, ct, _, wt⟩ := QN (SM.of wB) uX_ uX_ uX_; have dt := (jb ht).1; have pp : ∀ n : Int, 0 < yM n ↔ 0 < n := fun n => by unfold yM; split <;> omega
 refine ⟨t, ?_, dt, fun y hy => ?_, fun i j => ?_⟩
 ·unfold yN; rw [hb, if_neg uY_]; exact ht
 ·have h1 : zW t y.1 = 1 := by rw [xj dt.c y hy]; exact dt.one hy
  rw [wt] at h1; obtain ⟨x, hx, e⟩ := ZR (r := y.1) (z := B) (fun e => by rw [e] at h1; exact absurd h1 uW_); obtain ⟨i, j, hi, hj, e2⟩ := pset x hx; rw [dt.c.bare y hy, e2] at e; exact ⟨i, j, hi, hj, e.symm⟩
 ·have h1 := hr.le (qP i j); have h2 := hs.le (qP i j); unfold RL; rw [wt, w, wt2, Bool.eq_iff_iff, Bool.or_eq_true, decide_eq_true_iff, decide_eq_true_iff, decide_eq_true_iff, pp]; omega
theorem Dq {d : List Z} (hd : Tm d) : ∀ (t r : Nat) (n : Int) (rows : List Z) (m : Nat), D1 rows -> xB rows -> (∀ i j : Nat, i < 10 -> j < 10 -> RL rows i j = j8 (RL d) m i j) -> 10 <= m + t -> t < r ->
  ∃ z m', K8 [[3, 3], [3, 3]] (yF gs gj ge gk) [d] r n rows = (z, m', 0) /\ D1 z /\ xB z /\ ∀ i j : Nat, i < 10 -> j < 10 -> RL z i j = j8 (RL d) 10 i j := by
 intro t
 induction t with
 | zero =>
  intro r n rows m hr pr hm h10 hlt; obtain ⟨r, rfl⟩ : ∃ r', r = r' + 1 := ⟨r - 1, by omega⟩
  obtain ⟨s, e1, ds, ps, hs⟩ := JZ (gs := gs) (gj := gj) (ge := ge) (gk := gk) hd hr pr; obtain ⟨u, e2, du, pu, hu⟩ := Qc hr ds pr ps
  have stay : ∀ q, ∀ i j : Nat, j < 10 -> j8 (RL d) (10 + q) i j = j8 (RL d) 10 i j := fun q => by
   induction q with
   | zero => exact fun i j _ => rfl
   | succ q ih =>
    intro i j hj; have h1 : j8 (RL d) (10 + q + 1) i j = j8 (RL d) 11 i j := Qx (fun j hj => ih i j hj) j hj; rw [show 10 + (q + 1) = 10 + q + 1 by omega, h1]; exact Np i j hj
  have rm : ∀ i j : Nat, i < 10 -> j < 10 -> RL rows i j = j8 (RL d) 10 i j := fun i j hi hj => by
   rw [hm i j hi hj, show m = 10 + (m - 10) by omega]; exact stay _ i j hj
  have e : u = rows := VH du hr pu pr (fun i j hi hj => by
   have e11 : kV (RL d) (j8 (RL d) 10) i j = j8 (RL d) 10 i j := Np i j hj; rw [hu, hs, rm i j hi hj]; refine Eq.trans ?_ e11; unfold kV; congr 1; rw [Bool.eq_iff_iff, List.any_eq_true, List.any_eq_true]
   constructor
   ·rintro ⟨k, hk, e⟩; exact ⟨k, hk, by rw [<- rm i k hi (List.mem_range.1 hk)]; exact e⟩
   ·rintro ⟨k, hk, e⟩; exact ⟨k, hk, by rw [rm i k hi (List.mem_range.1 hk)]; exact e⟩)
  refine ⟨rows, n, ?_, hr, pr, rm⟩; unfold K8; rw [e1]; simp only [e2, ne_eq, not_true_eq_false, if_false]; rw [e, if_pos (MB rows)]
 | succ t ih =>
  intro r n rows m hr pr hm h10 hlt; obtain ⟨r, rfl⟩ : ∃ r', r = r' + 1 := ⟨r - 1, by omega⟩
  obtain ⟨s, e1, ds, ps, hs⟩ := JZ (gs := gs) (gj := gj) (ge := ge) (gk := gk) hd hr pr; obtain ⟨u, e2, du, pu, hu⟩ := Qc hr ds pr ps
  have um : ∀ i j : Nat, i < 10 -> j < 10 -> RL u i j = j8 (RL d) (m + 1) i j := fun i j hi hj => by
   rw [hu, hs, hm i j hi hj]; show _ = kV (RL d) (j8 (RL d) m) i j; unfold kV; congr 1; rw [Bool.eq_iff_iff, List.any_eq_true, List.any_eq_true]
   constructor
   ·rintro ⟨k, hk, e⟩; exact ⟨k, hk, by rw [<- hm i k hi (List.mem_range.1 hk)]; exact e⟩
   ·rintro ⟨k, hk, e⟩; exact ⟨k, hk, by rw [hm i k hi (List.mem_range.1 hk)]; exact e⟩
  by_cases hsame : XV u rows = true
  ·have e := NJ du hr hsame; subst e; have h1 : ∀ i j : Nat, i < 10 -> j < 10 -> j8 (RL d) (m + 1) i j = j8 (RL d) m i j := fun i j hi hj => by rw [<- um i j hi hj, hm i j hi hj]
   have h2 : ∀ q, ∀ i j : Nat, i < 10 -> j < 10 -> j8 (RL d) (m + q) i j = j8 (RL d) m i j := fun q => by
    induction q with
    | zero => exact fun i j _ _ => rfl
    | succ q ih2 =>
     intro i j hi hj; have h3 : j8 (RL d) (m + q + 1) i j = j8 (RL d) (m + 1) i j := Qx (fun j hj => ih2 i j hi hj) j hj; rw [show m + (q + 1) = m + q + 1 by omega, h3]; exact h1 i j hi hj
   refine ⟨u, n, ?_, du, pu, fun i j hi hj => ?_⟩
   ·unfold K8; rw [e1]; simp only [e2, ne_eq, not_true_eq_false, if_false]; rw [if_pos hsame]
   ·rw [hm i j hi hj]; rcases Nat.le_total m 10 with h | h
    ·rw [show (10 : Nat) = m + (10 - m) by omega]; exact (h2 _ i j hi hj).symm
    ·have stay : ∀ q, ∀ i j : Nat, j < 10 -> j8 (RL d) (10 + q) i j = j8 (RL d) 10 i j := fun q => by
      induction q with
      | zero => exact fun i j _ => rfl
      | succ q ih =>
       intro i j hj; have h1 : j8 (RL d) (10 + q + 1) i j = j8 (RL d) 11 i j := Qx (fun j hj => ih i j hj) j hj; rw [show 10 + (q + 1) = 10 + q + 1 by omega, h1]; exact Np i j hj
     rw [show m = 10 + (m - 10) by omega]; exact stay _ i j hj
  ·obtain ⟨z, m', e3, h4⟩ := ih r (n + 1) u (m + 1) du pu um uX_ uX_; refine ⟨z, m', ?_, h4⟩
   conv => lhs; unfold K8
   rw [e1]; simp only [e2, ne_eq, not_true_eq_false, if_false]; rw [if_neg hsame]; exact e3
theorem U3 {d : List Z} (hd : Tm d) : ∃ z m, Zs [[3, 3]] (jT 0) (yF gs gj ge gk) [d] = (z, m, 0) /\ jy [[3, 3]] (jT 0) (yF gs gj ge gk) [d] = (z, 0) /\ D1 z /\ xB z /\ ∀ i j : Nat, i < 10 -> j < 10 -> RL z i j = xo (RL d) 10 i j := by
 have i1 := JP hd.q hd.r.2
 have dE : yO [[3, 3]] [d] = 0 := by
  unfold yO; rw [if_neg uY_]; simp only [y6, i1]; simp
 have hw : xp [[3, 3]] (jT 0) (yF gs gj ge gk) [d] = 0 := by
  have e0 : (zn [[3, 3]] (jT 0)) = ([3, 3], 0) := QM; unfold xp; rw [e0]; simp only [ne_eq, not_true_eq_false, if_false]; have e1 : (zn ([[3, 3]] ++ [[3, 3]]) (yF gs gj ge gk)) = ([3, 3], 0) := Lz; rw [e1]; simp only [ne_eq, not_true_eq_false, if_false]; exact dE
 have ev : xl [[3, 3]] (jT 0) [d] = (d, 0) := by
  unfold xl; rw [if_neg (by rw [QM]; simp), if_neg (by rw [dE]; simp)]; unfold zZ; rw [if_pos rfl]; exact Kl hd.r
 obtain ⟨g, hg, cg, _, wg⟩ := QN (SM.of hd.r.2) uX_ uX_ uX_; have dg := (jb hg).1; have pp : ∀ n : Int, 0 < yM n ↔ 0 < n := fun n => by unfold yM; split <;> omega
 have pg : xB g := fun y hy => by
  have h1 : zW g y.1 = 1 := by rw [xj dg.c y hy]; exact dg.one hy
  rw [wg] at h1; obtain ⟨x, hx, e⟩ := ZR (r := y.1) (z := d) (fun e => by rw [e] at h1; exact absurd h1 uW_); obtain ⟨i, j, hi, hj, e2⟩ := hd.q x hx; rw [dg.c.bare y hy, e2] at e; exact ⟨i, j, hi, hj, e.symm⟩
 have r0 : ∀ i j : Nat, RL g i j = RL d i j := fun i j => by
  unfold RL; rw [wg, Bool.eq_iff_iff, decide_eq_true_iff, decide_eq_true_iff, pp]
 obtain ⟨z, m, e, dz, pz, hz⟩ := Dq (gs := gs) (gj := gj) (ge := ge) (gk := gk) hd 10 50 1 g 0 dg pg (fun i j _ _ => r0 i j) uX_ uX_
 have hf : Zs [[3, 3]] (jT 0) (yF gs gj ge gk) [d] = (z, m, 0) := by
  unfold Zs; rw [if_neg (by rw [hw]; simp), ev]; simp only [ne_eq, not_true_eq_false, if_false]; rw [hg]; simp only [ne_eq, not_true_eq_false, if_false]; have e0 : (zn [[3, 3]] (jT 0)).1 = [3, 3] := by rw [QM]
  rw [e0]; exact e
 have hE : ∀ i j : Nat, RL d i j = true -> i < 10 /\ j < 10 := fun i j h => by
  obtain ⟨y, hy, e⟩ := (yz hd.p _).2.1 (of_decide_eq_true h); obtain ⟨i', j', hi, hj, e2⟩ := hd.q y hy; rw [e2] at e; obtain ⟨rfl, rfl⟩ := Qn (show qP i' j' = qP i j from e); exact ⟨hi, hj⟩
 refine ⟨z, m, hf, Ms hf SQ (fun z hz => by simp at hz; subst hz; exact hd.p), dz, pz, fun i j hi hj => ?_⟩; rw [hz i j hi hj]; exact za7 hE i j
end
theorem TU (i j i' j' : Nat) : zK (qP i j) (qP i' j') = if i < i' then -1 else if i' < i then 1 else if j < j' then -1 else if j' < j then 1 else 0 := by
 have o : ∀ a b : Nat, zO (nV (a : Int)) (nV (b : Int)) = if a < b then -1 else if b < a then 1 else 0 := fun a b => by
  unfold zO nV; simp
 show zv zO [nV (i : Int), nV (j : Int)] [nV (i' : Int), nV (j' : Int)] = _; simp only [zv, o]
 by_cases h1 : i < i'
 ·simp [h1]
 ·by_cases h2 : i' < i
  ·simp [h1, h2]
  ·by_cases h3 : j < j'
   ·simp [h1, h2, h3]
   ·by_cases h4 : j' < j
    ·simp [h1, h2, h3, h4]
    ·simp [h1, h2, h3, h4]
def kS (W : Nat -> Nat -> Bool) (i j : Nat) : List Z := ((List.range' j (10 - j)).filter (W i)).map (fun j => (qP i j, (1 : Int)))
def kE (W : Nat -> Nat -> Bool) (i : Nat) : List Z := (List.range' i (10 - i)).flatMap (fun i => kS W i 0)
section
variable {W : Nat -> Nat -> Bool}
theorem VY (i : Nat) : kS W i 10 = [] := rfl
theorem VX : kE W 10 = [] := rfl
theorem VZ {i j : Nat} (hj : j < 10) (h : W i j = true) : kS W i j = (qP i j, 1) :: kS W i (j + 1) := by
 unfold kS; rw [show 10 - j = (10 - (j + 1)) + 1 by omega, List.range'_succ, List.filter_cons, if_pos h, List.map_cons]
theorem EC {i j : Nat} (hj : j < 10) (h : W i j = false) : kS W i j = kS W i (j + 1) := by
 unfold kS; rw [show 10 - j = (10 - (j + 1)) + 1 by omega, List.range'_succ, List.filter_cons, if_neg uM_]
theorem SW {i : Nat} (hi : i < 10) : kE W i = kS W i 0 ++ kE W (i + 1) := by
 unfold kE; rw [show 10 - i = (10 - (i + 1)) + 1 by omega, List.range'_succ, List.flatMap_cons]
theorem Q5 {i j : Nat} {y : Z} : y ∈ kS W i j ↔ ∃ k, j <= k /\ k < 10 /\ W i k = true /\ y = (qP i k, 1) := by
 unfold kS; simp only [List.mem_map, List.mem_filter, List.mem_range'_1]
 constructor
 ·rintro ⟨k, ⟨⟨h1, h2⟩, h3⟩, rfl⟩; exact ⟨k, h1, by omega, h3, rfl⟩
 ·rintro ⟨k, h1, h2, h3, rfl⟩; exact ⟨k, ⟨⟨h1, by omega⟩, h3⟩, rfl⟩
theorem j9 {i : Nat} {y : Z} : y ∈ kE W i ↔ ∃ k j, i <= k /\ k < 10 /\ j < 10 /\ W k j = true /\ y = (qP k j, 1) := by
 unfold kE; simp only [List.mem_flatMap, List.mem_range'_1, Q5]
 constructor
 ·rintro ⟨k, ⟨h1, h2⟩, j, _, h3, h4, rfl⟩; exact ⟨k, j, h1, by omega, h3, h4, rfl⟩
 ·rintro ⟨k, j, h1, h2, h3, h4, rfl⟩; exact ⟨k, ⟨h1, by omega⟩, j, Nat.zero_le _, h3, h4, rfl⟩
theorem Zn : yA (kE W 0) := by
 refine ⟨?_, fun y hy => ?_, fun y hy => ?_, fun y hy => ?_⟩
 ·unfold kE; rw [List.pairwise_flatMap]; refine ⟨fun i hi => ?_, ?_⟩
  ·unfold kS; rw [List.pairwise_map]; exact (List.Pairwise.filter _ (List.pairwise_lt_range')).imp (fun {a b} h => by rw [TU]; simp [h])
  ·refine List.Pairwise.imp (fun {a b} h => ?_) (List.pairwise_lt_range'); intro x hx y hy; obtain ⟨k, _, _, _, rfl⟩ := Q5.1 hx; obtain ⟨k', _, _, _, rfl⟩ := Q5.1 hy; rw [TU]; simp [h]
 ·obtain ⟨k, j, _, h1, h2, _, rfl⟩ := j9.1 hy; exact DU h1 h2
 ·obtain ⟨k, j, _, h1, h2, _, rfl⟩ := j9.1 hy; rfl
 ·obtain ⟨k, j, _, h1, h2, _, rfl⟩ := j9.1 hy; exact Int.one_ne_zero
theorem En {z : List Z} (hz : D1 z) (pz : xB z) (h : ∀ i j : Nat, i < 10 -> j < 10 -> RL z i j = W i j) : z = kE W 0 := by
 refine jt _ _ hz.c Zn fun u _ => ?_
 by_cases h1 : ∃ y ∈ z, zd y.1 = zd u
 ·obtain ⟨y, hy, e⟩ := h1; obtain ⟨i, j, hi, hj, ey⟩ := pz y hy
  have e1 : zW z u = 1 := by
   rw [Xw z e.symm, xj hz.c y hy]; exact hz.one hy
  have e2 : zd (qP i j) = zd u := by rw [<- ey]; exact e
  have hw : W i j = true := by
   rw [<- h i j hi hj]; exact decide_eq_true (by rw [Xw z e2]; omega)
  have hm : (qP i j, (1 : Int)) ∈ kE W 0 := j9.2 ⟨i, j, Nat.zero_le _, hi, hj, hw, rfl⟩; rw [e1, Xw _ e2.symm]; exact (xj Zn _ hm).symm
 ·have e1 : zW z u = 0 := N0 fun y hy e => h1 ⟨y, hy, e⟩
  rw [e1]; refine (N0 fun y hy e => ?_).symm; obtain ⟨i, j, _, hi, hj, hw, rfl⟩ := j9.1 hy; rw [<- h i j hi hj] at hw; have := of_decide_eq_true hw; obtain ⟨y, hy, e2⟩ := ZR (r := qP i j) (z := z) uX_; exact h1 ⟨y, hy, e2.trans e⟩
end
def Ca (ps : List (Nat × Nat)) : List Z := ps.map (fun p => (qP p.1 p.2, (1 : Int)))
def K6 (ps : List (Nat × Nat)) (i j : Nat) : Bool := ps.any (fun p => decide (p.1 = i) && decide (p.2 = j))
theorem Dc {ps : List (Nat × Nat)} (hp : ∀ p ∈ ps, p.1 < 10 /\ p.2 < 10) (hl : ps.length <= 30) {d : List Z} (h : D4 (Ca ps) = (d, 0)) : Tm d /\ ∀ i j : Nat, RL d i j = K6 ps i j := by
 have hs : yy (Ca ps) = (d, 0) := by
  unfold D4 at h; split at h
  ·exact yH_
  ·split at h
   ·exact u8_
   ·exact h
 have pos : xh (Ca ps) := fun y hy => by
  obtain ⟨p, _, rfl⟩ := List.mem_map.1 hy; exact (by decide : (0 : Int) < 1)
 have ok : Xk (Ca ps) := fun y hy => by
  obtain ⟨p, hp', rfl⟩ := List.mem_map.1 hy; exact ⟨show 2 <= 8 by decide, DU (hp p hp').1 (hp p hp').2⟩
 obtain ⟨c, w, e⟩ := qC ok hs; have pd : xh d := Qz ok pos hs; have td : qD d = qD (Ca ps) := Ui e
 have tp : ∀ ps : List (Nat × Nat), qD (Ca ps) = ps.length := fun ps => by
  induction ps with
  | nil => rfl
  | cons p ps ih =>
   show qD ((qP p.1 p.2, 1) :: Ca ps) = _; rw [ji, ih]; simp; omega
 refine ⟨⟨⟨c, w⟩, pd, fun y hy => ?_, by rw [td, tp]; omega⟩, fun i j => ?_⟩
 ·have h1 := (yz pd y.1).2.2 ⟨y, hy, rfl⟩; rw [e] at h1; obtain ⟨x, hx, e2⟩ := (yz pos y.1).2.1 h1; obtain ⟨p, hp', rfl⟩ := List.mem_map.1 hx; rw [c.bare y hy] at e2; exact ⟨p.1, p.2, (hp p hp').1, (hp p hp').2, e2.symm⟩
 ·unfold RL K6; rw [Bool.eq_iff_iff, decide_eq_true_iff, e, (yz pos _).2, List.any_eq_true]
  constructor
  ·rintro ⟨y, hy, e2⟩; obtain ⟨p, hp', rfl⟩ := List.mem_map.1 hy; have := Qn (show qP p.1 p.2 = qP i j from e2); exact ⟨p, hp', by simp [this.1, this.2]⟩
  ·rintro ⟨p, hp', e2⟩; simp only [Bool.and_eq_true, decide_eq_true_eq] at e2; exact ⟨(qP p.1 p.2, 1), List.mem_map.2 ⟨p, hp', rfl⟩, by rw [e2.1, e2.2]⟩
