/-
 Joined texts of this claim: Nf. What each proves its own head says; no condition beside those that each theorem names.
-/
import Derived.Test.YtcaedcpjdmlilaaGreatGWc8
namespace Go.Proofs.YtcaedcpjdmlilaaGreat
open Go.RowKit Go.Calm
set_option linter.unusedSimpArgs false
set_option linter.unusedVariables false
theorem NE {cols : List Int} {a y x : E} (h : (zr cols (yO a (yO y x))).2 = 0) : (zr cols (yO a y)).2 = 0 := by
 have h1 := (xE cols (yO a (yO y x)) (zr cols (yO a (yO y x))).1).1 (by rw [<- h]); obtain ⟨c1, c2, w1, d1, s1⟩ := h1; generalize (zr cols (yO a (yO y x))).1 = T at w1; have w2 : 0 <= zk 4 /\ ((2 : Nat) : Int) = zk 4 /\ ∃ ts : List Int, ts.length = 2 /\ (∀ i, i < 2 -> wt cols ((fun i => if i = 0 then a else if i = 1 then yO y x else .leaf) i) (ts.getD i 0)) /\ Mh cols 4 ⟨0, 0, es⟩ 0 ts T := w1; obtain ⟨k0, k1, ts, hl, hw, ht⟩ := w2; have wa := hw 0 (by omega); have wz := hw 1 (by omega); simp only [if_pos, if_neg (show ¬ ((1 : Nat) = 0) by omega)] at wa wz; have w3 : 0 <= zk 4 /\ ((2 : Nat) : Int) = zk 4 /\ ∃ us : List Int, us.length = 2 /\ (∀ i, i < 2 -> wt cols ((fun i => if i = 0 then y else if i = 1 then x else .leaf) i) (us.getD i 0)) /\ Mh cols 4 ⟨0, 0, es⟩ 0 us (ts.getD 1 0) := wz; obtain ⟨_, _, us, hl2, hw2, ht2⟩ := w3; have wy := hw2 0 (by omega); simp only [if_pos] at wy
 have ka : yy (ts.getD 0 0) 2 = true := by
  match ts, hl with
  | [p, q], _ =>
   unfold Mh zJ at ht; simp at ht; split at ht
   ·rename_i hh; simpa using hh.1
   ·simp at ht
 have ky : yy (us.getD 0 0) 2 = true := by
  match us, hl2 with
  | [p, q], _ =>
   unfold Mh zJ at ht2; simp at ht2; split at ht2
   ·rename_i hh; simpa using hh.1
   ·simp at ht2
 have d2 : (1 : Int) <= 20 /\ ∀ i, i < 2 -> N6 ((fun i => if i = 0 then a else if i = 1 then yO y x else .leaf) i) (1 + 1) := d1; have da := d2.2 0 (by omega); have dz := d2.2 1 (by omega); simp only [if_pos, if_neg (show ¬ ((1 : Nat) = 0) by omega)] at da dz; have d3 : (2 : Int) <= 20 /\ ∀ i, i < 2 -> N6 ((fun i => if i = 0 then y else if i = 1 then x else .leaf) i) (1 + 1 + 1) := dz; have dy := d3.2 0 (by omega); simp only [if_pos] at dy; have s2 : Y9 (yO a (yO y x)) = 1 + (0 + Y9 a + (1 + (0 + Y9 y + Y9 x))) := rfl; have s3 : Y9 (yO a y) = 1 + (0 + Y9 a + Y9 y) := rfl; have px := Jh x
 have T9 : Mh cols 4 ⟨0, 0, es⟩ 0 [ts.getD 0 0, us.getD 0 0] 2 := by
  generalize ts.getD 0 0 = p at ka ⊢; generalize us.getD 0 0 = q at ky ⊢; unfold Mh zJ; simp [ka, ky]
 have : zr cols (yO a y) = (2, 0) := (xE cols (yO a y) 2).2 ⟨c1, c2, ⟨by decide, by decide, [ts.getD 0 0, us.getD 0 0], rfl, fun i hi => by
  rcases (show i = 0 \/ i = 1 by omega) with rfl | rfl
  ·exact wa
  ·exact wy, T9⟩, ⟨by decide, fun i hi => by
  rcases (show i = 0 \/ i = 1 by omega) with rfl | rfl
  ·exact da
  ·exact Bl y (by omega) dy⟩, by omega⟩
 rw [this]
theorem Wr (f : Int -> Bool) (x y : E) : zK f (yO x y) = (zK f x && zK f y) := by
 unfold yO; rw [xP, qE, qE]; simp
theorem PD (x y : E) : qB (yO x y) = false := by unfold yO qB; simp [E.kind]
theorem Ch (p : PL) : p.kid 0 = p -> p = .leaf := by
 induction p with
 | leaf => intro _; rfl
 | mk k n y xs ag A m cap kid ih =>
  intro h; have e : kid 0 = .mk k n y xs ag A m cap kid := h; have h2 := ih 0 (by rw [e]; exact h); rw [h2] at e; cases e
theorem Pj (x : E) (p : PL) : (xG x p).kid 0 = p := rfl
theorem Fa (x : E) (p : PL) : p ≠ xG x p := fun h => by
 have := Ch p (by (conv => lhs; rw [h]); exact Pj x p); rw [this] at h; cases h
section
variable {ts : List (List Int)}
theorem L5 {p : PL} {x : E} (h : qB x = true) : zn ts p x = p := by
 cases p with
 | leaf => unfold zn; rw [if_pos h]
 | mk k n y xs ag A m cap kid => unfold zn; rw [if_pos h]
theorem zbu (p : PL) (y x : E) (h : zn ts p y = xG y p) : zn ts p (yO y x) = xG (yO y x) p := by
 cases p with
 | leaf => unfold zn; rw [PD]; rfl
 | mk k n z xs ag A m cap kid =>
  unfold zn at h ⊢; rw [PD]; split at h
  ·exact absurd h (Fa _ _)
  ·split at h
   ·rename_i hk; split at h
    ·have h2 := congrArg (fun p => p.kid 0) h; simp only [Pj] at h2; have := Ch (PL.mk k n z xs ag A m cap kid) h2; cases this
    ·rename_i h3; have h4 : ¬ (zr (zi ts (kid 0)).1 (yO z (yO y x))).2 = 0 := fun h5 => h3 (NE h5)
     simp only [if_pos hk, if_neg h4]; rfl
   ·rename_i hk; simp only [if_neg hk]; split at h
    ·rename_i hk; have := congrArg PL.k h; simp only [yY, xG, PL.k] at this; omega
    ·rename_i hk8; simp only [if_neg hk8]; split at h
     ·rename_i hk; have := congrArg PL.k h; simp only [yY, xG, PL.k] at this; omega
     ·rename_i hk10; simp only [if_neg hk10]; split at h
      ·rename_i hk; have := congrArg PL.k h; simp only [yY, xG, PL.k] at this; omega
      ·rename_i hk5; simp only [if_neg hk5]; split at h
       ·rename_i hk4; simp only [if_pos hk4]; split at h
        ·have := congrArg PL.k h; simp only [yY, xG, PL.k] at this; omega
        ·rename_i c1; split at h
         ·have := congrArg PL.k h; simp only [yY, xG, PL.k] at this; omega
         ·rename_i c2; split at h
          ·have := congrArg PL.k h; simp only [yY, xG, PL.k] at this; omega
          ·rename_i c3; rw [Wr, Wr]; simp only [Bool.not_eq_true] at c1 c2; rw [c1, c2]; rw [if_neg (fun h5 => c3 (NE h5))]; rfl
       ·rename_i hk4; simp only [if_neg hk4]; rfl
def NF (ts : List (List Int)) : PL -> Prop
 | .leaf => True
 | .mk k n y xs ag A m cap kid => PL.mk k n y xs ag A m cap kid = yY k n y xs.l ag.l m kid /\ (∀ i, i < m -> NF ts (kid i)) /\ (k = 2 -> PL.mk k n y xs ag A m cap kid = xG y (kid 0) /\ zn ts (kid 0) y = xG y (kid 0)) /\ (k = 10 \/ k = 11 -> (kid 0).k ≠ 10 /\ (kid 0).k ≠ 11)
end
def KP : PL -> Prop
 | .leaf => False
 | .mk k n y xs ag A m cap kid => (m : Int) = zo k /\ ∀ i, i < m -> KP (kid i)
def zR (ts : List (List Int)) : PL -> List Int
 | .leaf => []
 | .mk k n x xs ag _ m _ kid => (zT ts k n x xs.l ag.l ((List.range m).map (fun i => zR ts (kid i)))).1
section
variable {ts : List (List Int)}
theorem kf {f : Nat -> Int -> List Int × Int × Int} {g : Nat -> List Int} (hf : ∀ i m, (f i m).2.1 = 0 -> (f i m).1 = g i) : ∀ (r i : Nat) (m : Int) (l : List (List Int)), (zE f r i m l).1 = 0 -> (zE f r i m l).2.2 = l ++ (List.range r).map (fun j => g (i + j))
 | 0, i, m, l, _ => by simp [zE]
 | r + 1, i, m, l, h => by
  unfold zE at h ⊢; split at h
  ·rename_i h0; rw [if_pos h0, kf hf r (i + 1) _ _ h, hf i m h0, List.range_succ_eq_map, List.map_cons, List.map_map, List.append_assoc]; congr 1; simp only [List.singleton_append, Nat.add_zero]; congr 1; apply List.map_congr_left; intro j _; simp only [Function.comp]; congr 1; omega
  ·rename_i h0; exact absurd h h0
theorem kN (p : PL) : ∀ deep m, (zN ts p deep m).2.1 = 0 -> (zN ts p deep m).1 = zR ts p /\ KP p := by
 induction p with
 | leaf => intro deep m h; unfold zN at h; split at h <;> simp at h
 | mk k n x xs ag A mm cap kid ih =>
  intro deep m
  by_cases h1 : 60 < m + 1 \/ 15 < deep
  ·unfold zN; rw [if_pos h1]; simp
  ·by_cases h2 : zo k < 0
   ·unfold zN; rw [if_neg h1, if_pos h2]; simp
   ·by_cases h3 : (mm : Int) = zo k
    ·rw [xf ts k n x xs ag A mm cap kid deep m h1 (by omega) h3]; unfold jm; split
     ·rename_i h0; exact fun h' => absurd h' h0
     ·rename_i h0; intro _; have h0 : (zE (fun i m' => zN ts (kid i) (deep + 1) m') mm 0 (m + 1) []).1 = 0 := by simpa using h0
      have e := kf (g := fun i => zR ts (kid i)) (fun i m' h => (ih i (deep + 1) m' h).1) mm 0 (m + 1) [] h0; refine ⟨?_, h3, fun i hi => ?_⟩
      ·simp only [e, List.nil_append, Nat.zero_add]
       conv => rhs; unfold zR
      ·have : ∀ (r j : Nat) (m : Int) (l : List (List Int)), (zE (fun i m' => zN ts (kid i) (deep + 1) m') r j m l).1 = 0 -> ∀ i, j <= i -> i < j + r -> KP (kid i) := fun r => by
        induction r with
        | zero => intro j m l _ i h1 h2; omega
        | succ r ihr =>
         intro j m l hz i h1 h2; unfold zE at hz; split at hz
         ·rename_i h5
          by_cases hij : i = j
          ·subst hij; exact (ih i _ _ h5).2
          ·exact ihr (j + 1) _ _ hz i (by omega) (by omega)
         ·rename_i h5; exact absurd hz h5
       exact this mm 0 (m + 1) [] h0 i (Nat.zero_le _) (by omega)
    ·unfold zN; rw [if_neg h1, if_neg h2, if_pos h3]; simp
theorem ye {p : PL} (h : (zi ts p).2 = 0) : (zi ts p).1 = zR ts p /\ KP p := by
 unfold zi at h ⊢; split at h
 ·simp at h
 ·split at h
  ·rename_i h1 h2; simp at h; omega
  ·rename_i h1 h2; rw [if_neg h1, if_neg h2]; split at h
   ·rename_i h3; simp at h; omega
   ·rename_i h3; rw [if_neg h3]; exact kN p 1 0 (by simpa using h3)
theorem zap (k n : Int) (x x' : E) (xs : List E) (ag : List Ag) (cs : List (List Int)) : (zT ts k n x xs ag cs).1 = (zT ts k n x' xs ag cs).1 := by
 unfold zT
 repeat' split
 all_goals rfl
theorem Bc {k : Int} (hk : k = 8 \/ k = 9 \/ k = 10 \/ k = 11) (n n' : Int) (x x' : E) (xs xs' : List E) (ag ag' : List Ag) (cs : List (List Int)) : (zT ts k n x xs ag cs).1 = (zT ts k n' x' xs' ag' cs).1 := by
 rcases hk with rfl | rfl | rfl | rfl <;> simp [zT]
theorem jD (k n : Int) (y : E) (xs : List E) (ag : List Ag) (m : Nat) (kid : Nat -> PL) : zR ts (yY k n y xs ag m kid) = (zT ts k n y xs ag ((List.range m).map (fun i => zR ts (kid i)))).1 := by
 unfold yY
 conv => lhs; unfold zR
 congr 2; apply List.map_congr_left; intro i hi; simp only [if_pos (List.mem_range.1 hi)]
theorem qo (k n : Int) (y : E) (xs : jj) (ag : jh) (A : Option Addr) (m cap : Nat) (kid : Nat -> PL) : zR ts (.mk k n y xs ag A m cap kid) = (zT ts k n y xs.l ag.l ((List.range m).map (fun i => zR ts (kid i)))).1 := by
 conv => lhs; unfold zR
theorem Jx (n : Int) (x : E) (xs : List E) (ag : List Ag) (cs : List (List Int)) : (zT ts 2 n x xs ag cs).1 = cs.getD 0 [] := by
 unfold zT; rw [if_neg (by decide), if_pos rfl]
theorem Z4 {k : Int} (hk : k = 10 \/ k = 11) (n : Int) (x : E) (xs : List E) (ag : List Ag) (cs : List (List Int)) : (zT ts k n x xs ag cs).1 = cs.getD 0 [] := by
 unfold zT; rw [if_neg (by omega), if_neg (by omega), if_neg (by omega), if_neg (by omega), if_pos hk]
theorem W5 (x : E) (p : PL) : zR ts (xG x p) = zR ts p := by
 unfold xG; rw [jD, Jx]; rfl
theorem Xx {k n : Int} {y : E} {xs : List E} {ag : List Ag} {m : Nat} {kid : Nat -> PL} (h : (m : Int) = zo k) (hk : ∀ i, i < m -> KP (kid i)) : KP (yY k n y xs ag m kid) := ⟨h, fun i hi => by simp only [if_pos hi]; exact hk i hi⟩
theorem ML {x : E} {p : PL} (h : KP p) : KP (xG x p) := Xx (by decide) (fun _ _ => h)
theorem kc {k : Int} (h : 4 <= k /\ k <= 9) : zo k = 2 := by unfold zo; rw [if_neg (by omega), if_pos h]
theorem qj {k : Int} (h : k = 2 \/ k = 10 \/ k = 11) : zo k = 1 := by unfold zo; rw [if_neg (by omega), if_neg (by omega), if_pos (by omega)]
theorem kV (f : Nat -> List Int) : (List.range 2).map f = [f 0, f 1] := rfl
theorem WW (f : Nat -> List Int) : (List.range 1).map f = [f 0] := rfl
theorem qv (p : PL) : ∀ x, KP p -> KP (zn ts p x) /\ zR ts (zn ts p x) = zR ts p := by
 induction p with
 | leaf => intro x h; exact absurd h id
 | mk k n y xs ag A m cap kid ih =>
  intro x h
  by_cases hl : qB x = true
  ·rw [L5 hl]; exact ⟨h, rfl⟩
  ·have hm := h.1; have hk := h.2; unfold zn; rw [if_neg hl]; split
   ·rename_i k2; subst k2; have m1 : m = 1 := by rw [qj (.inl rfl)] at hm; omega
    subst m1; split
    ·refine ⟨ML (hk 0 (by omega)), ?_⟩; rw [W5, qo, Jx]; rfl
    ·exact ⟨ML h, W5 _ _⟩
   ·rename_i k2; split
    ·rename_i k8; have m2 : m = 2 := by rw [kc (by omega)] at hm; omega
     subst m2; refine ⟨Xx hm (fun i _ => by split; exact (ih 0 x (hk 0 (by omega))).1; exact (ih 1 x (hk 1 (by omega))).1), ?_⟩; rw [jD, qo, kV, kV, if_pos rfl, if_neg (by decide), (ih 0 x (hk 0 (by omega))).2, (ih 1 x (hk 1 (by omega))).2]; exact Bc (by omega) _ _ _ _ _ _ _ _ _
    ·split
     ·rename_i k10; have m1 : m = 1 := by rw [qj (by omega)] at hm; omega
      subst m1; refine ⟨Xx hm (fun i _ => (ih 0 x (hk 0 (by omega))).1), ?_⟩; rw [jD, qo, WW, WW, (ih 0 x (hk 0 (by omega))).2]; exact Bc (by omega) _ _ _ _ _ _ _ _ _
     ·split
      ·rename_i k5; have m2 : m = 2 := by rw [kc (by omega)] at hm; omega
       subst m2; refine ⟨Xx hm (fun i _ => by split; exact (ih 0 x (hk 0 (by omega))).1; exact hk 1 (by omega)), ?_⟩; rw [jD, qo, kV, kV, if_pos rfl, if_neg (by decide), (ih 0 x (hk 0 (by omega))).2]
      ·split
       ·rename_i k4; have m2 : m = 2 := by rw [kc (by omega)] at hm; omega
        subst m2; split
        ·refine ⟨Xx hm (fun i _ => by split; exact (ih 0 x (hk 0 (by omega))).1; exact hk 1 (by omega)), ?_⟩; rw [jD, qo, kV, kV, if_pos rfl, if_neg (by decide), (ih 0 x (hk 0 (by omega))).2]
        ·split
         ·refine ⟨Xx hm (fun i _ => by split; exact hk 0 (by omega); exact (ih 1 _ (hk 1 (by omega))).1), ?_⟩; rw [jD, qo, kV, kV, if_pos rfl, if_neg (by decide), (ih 1 _ (hk 1 (by omega))).2]
         ·split
          ·refine ⟨Xx hm (fun i hi => hk i hi), ?_⟩; rw [jD, qo]; exact zap _ _ _ _ _ _ _
          ·exact ⟨ML h, W5 _ _⟩
       ·exact ⟨ML h, W5 _ _⟩
theorem Ka (p : PL) : KP p -> KP (zx ts p) /\ zR ts (zx ts p) = zR ts p := by
 induction p with
 | leaf => intro h; exact absurd h id
 | mk k n y xs ag A m cap kid ih =>
  intro h; have hm := h.1; have hk := h.2
  have all : KP (yY k n y xs.l ag.l m (fun i => zx ts (kid i))) /\ zR ts (yY k n y xs.l ag.l m (fun i => zx ts (kid i))) = zR ts (.mk k n y xs ag A m cap kid) := by
   refine ⟨Xx hm (fun i hi => (ih i (hk i hi)).1), ?_⟩; rw [jD, qo]; congr 2; apply List.map_congr_left; intro i hi; exact (ih i (hk i (List.mem_range.1 hi))).2
  unfold zx; split
  ·rename_i k2; have m1 : m = 1 := by rw [qj (by omega)] at hm; omega
   subst m1 k2; have h0 := ih 0 (hk 0 (by omega)); have h1 := qv (ts := ts) (zx ts (kid 0)) y h0.1; refine ⟨h1.1, ?_⟩; rw [h1.2, h0.2, qo, Jx]; rfl
  ·split
   ·rename_i k10; have m1 : m = 1 := by rw [qj (by omega)] at hm; omega
    subst m1; have h0 := ih 0 (hk 0 (by omega))
    have e : zR ts (.mk k n y xs ag A 1 cap kid) = zR ts (zx ts (kid 0)) := by
     rw [qo, Z4 k10, h0.2]; rfl
    split
    ·exact ⟨h0.1, e.symm⟩
    ·split
     ·rename_i h10
      revert h0 e h10
      generalize zx ts (kid 0) = q; intro h0 e h10; cases q with
      | leaf => simp [PL.k] at h10
      | mk k' n' y' xs' ag' A' m' cap' kid' =>
       have k10' : k' = 10 := h10; subst k10'; have hm' := h0.1.1; have m1' : m' = 1 := by rw [qj (by omega)] at hm'; omega
       subst m1'; refine ⟨Xx (by rw [qj (by omega)]; rfl) (fun _ _ => h0.1.2 0 (by omega)), ?_⟩; rw [e, jD, qo, Z4 k10, Z4 (.inl rfl)]; rfl
     ·exact all
   ·exact all
end
theorem zbV {S : Nat -> Prop} {w : World} {k n : Int} {y z : E} {xs : jj} {ag : jh} {A : Option Addr} {m cap : Nat} {kid : Nat -> PL} (h : qI S w (.mk k n y xs ag A m cap kid)) (hz : Xj S w z) : qI S w (.mk k n z xs ag A m cap kid) := fun W a => by
 cases h W a with
 | mk hm hc hk hx hs ha hl hi => exact .mk hm hc hk (hz W a) hs ha hl hi
theorem D4 (e : E) : WfE (nE e) ↔ WfE e := by
 induction e with
 | leaf => exact Iff.rfl
 | mk k v c A n cap kid ih =>
  rw [JZ]; show (n <= 3 /\ (k = 2 -> n = 0 /\ 0 <= c /\ c <= 16) /\ ∀ i, i < n -> WfE (if i < n then nE (kid i) else .leaf)) ↔ (n <= 3 /\ (k = 2 -> n = 0 /\ 0 <= c /\ c <= 16) /\ ∀ i, i < n -> WfE (kid i)); refine and_congr_right fun _ => and_congr_right fun _ => ⟨fun h i hi => ?_, fun h i hi => ?_⟩
  ·have := h i hi; rw [if_pos hi] at this; exact (ih i).1 this
  ·rw [if_pos hi]; exact (ih i).2 (h i hi)
theorem T0 (n0 : Int) (h0 : 0 <= n0) (e : E) : WfE e -> zK (fun c => decide (n0 <= c)) e = true -> WfE (qO (-n0) e) := by
 induction e with
 | leaf => intro h _; exact h
 | mk k v c A n cap kid ih =>
  intro h hc; refine ⟨h.1, fun hk => ?_, fun i hi => ?_⟩
  ·have h2 := h.2.1 hk; rw [xP, if_pos hk, Bool.and_eq_true] at hc; have h3 := of_decide_eq_true hc.1; rw [if_pos hk]; exact ⟨h2.1, by omega, by omega⟩
  ·simp only [if_pos hi]; exact ih i (h.2.2 i hi) (xO hc hi)
theorem Wo (p : PL) : Jo (nP p) ↔ Jo p := by
 induction p with
 | leaf => exact Iff.rfl
 | mk k n x xs ag A m cap kid ih =>
  show ((m : Int) = zo k /\ 0 <= zo k /\ (k = 2 \/ (4 <= k /\ k <= 7) -> WfE (nE x)) /\ ∀ i, i < m -> Jo (if i < m then nP (kid i) else .leaf)) ↔ ((m : Int) = zo k /\ 0 <= zo k /\ (k = 2 \/ (4 <= k /\ k <= 7) -> WfE x) /\ ∀ i, i < m -> Jo (kid i)); rw [D4]; refine and_congr_right fun _ => and_congr_right fun _ => and_congr_right fun _ => ⟨fun h i hi => ?_, fun h i hi => ?_⟩
  ·have := h i hi; rw [if_pos hi] at this; exact (ih i).1 this
  ·rw [if_pos hi]; exact (ih i).2 (h i hi)
theorem TZ {x y : E} (hx : WfE x) (hy : WfE y) : WfE (yO x y) := ⟨by decide, fun h => absurd h (by decide), fun i hi => by
 rcases (show i = 0 \/ i = 1 by omega) with rfl | rfl
 ·exact hx
 ·exact hy⟩
theorem XH {k n : Int} {y : E} {xs : List E} {ag : List Ag} {m : Nat} {kid : Nat -> PL} (h : (m : Int) = zo k) (hx : k = 2 \/ (4 <= k /\ k <= 7) -> WfE y) (hk : ∀ i, i < m -> Jo (kid i)) : Jo (yY k n y xs ag m kid) := ⟨h, by omega, hx, fun i hi => by simp only [if_pos hi]; exact hk i hi⟩
theorem Jk {x : E} {p : PL} (hx : WfE x) (h : Jo p) : Jo (xG x p) := XH (by decide) (fun _ => hx) (fun _ _ => h)
section
variable {ts : List (List Int)}
theorem D5 (p : PL) : ∀ x, Jo p -> WfE x -> Jo (zn ts p x) := by
 induction p with
 | leaf => intro x h; exact absurd h id
 | mk k n y xs ag A m cap kid ih =>
  intro x h hx
  by_cases hl : qB x = true
  ·rw [L5 hl]; exact h
  ·have hm := h.1; have hy := h.2.2.1; have hk := h.2.2.2; unfold zn; rw [if_neg hl]; split
   ·rename_i k2; have m1 : m = 1 := by rw [qj (.inl k2)] at hm; omega
    split
    ·exact Jk (TZ (hy (.inl k2)) hx) (hk 0 (by omega))
    ·exact Jk hx h
   ·rename_i k2; split
    ·rename_i k8; have m2 : m = 2 := by rw [kc (by omega)] at hm; omega
     subst m2; exact XH hm (fun h => by omega) (fun i _ => by split; exact ih 0 x (hk 0 (by omega)) hx; exact ih 1 x (hk 1 (by omega)) hx)
    ·split
     ·rename_i k10; have m1 : m = 1 := by rw [qj (by omega)] at hm; omega
      subst m1; exact XH hm (fun h => by omega) (fun i _ => ih 0 x (hk 0 (by omega)) hx)
     ·split
      ·rename_i k5; have m2 : m = 2 := by rw [kc (by omega)] at hm; omega
       subst m2; exact XH hm hy (fun i _ => by split; exact ih 0 x (hk 0 (by omega)) hx; exact hk 1 (by omega))
      ·split
       ·rename_i k4; have m2 : m = 2 := by rw [kc (by omega)] at hm; omega
        subst m2; split
        ·exact XH hm hy (fun i _ => by split; exact ih 0 x (hk 0 (by omega)) hx; exact hk 1 (by omega))
        ·split
         ·rename_i c2; exact XH hm hy (fun i _ => by split; exact hk 0 (by omega); exact ih 1 _ (hk 1 (by omega)) (T0 _ (by omega) x hx c2))
         ·split
          ·exact XH hm (fun _ => TZ (hy (by omega)) hx) (fun i hi => hk i hi)
          ·exact Jk hx h
       ·exact Jk hx h
theorem Kw (p : PL) : Jo p -> Jo (zx ts p) := by
 induction p with
 | leaf => intro h; exact absurd h id
 | mk k n y xs ag A m cap kid ih =>
  intro h; have hm := h.1; have hy := h.2.2.1; have hk := h.2.2.2; have all : Jo (yY k n y xs.l ag.l m (fun i => zx ts (kid i))) := XH hm hy (fun i hi => ih i (hk i hi)); unfold zx; split
  ·rename_i k2; have m1 : m = 1 := by rw [qj (by omega)] at hm; omega
   exact D5 _ _ (ih 0 (hk 0 (by omega))) (hy (.inl k2))
  ·split
   ·rename_i k10; have m1 : m = 1 := by rw [qj (by omega)] at hm; omega
    have h0 := ih 0 (hk 0 (by omega)); split
    ·exact h0
    ·split
     ·rename_i h10
      revert h0 h10
      generalize zx ts (kid 0) = q; intro h0 h10; cases q with
      | leaf => simp [PL.k] at h10
      | mk k' n' y' xs' ag' A' m' cap' kid' =>
       have k10' : k' = 10 := h10; subst k10'; have hm' := h0.1; have m1' : m' = 1 := by rw [qj (by omega)] at hm'; omega
       exact XH (by rw [qj (by omega)]; rfl) (fun h => by omega) (fun _ _ => h0.2.2.2 0 (by omega))
     ·exact all
   ·exact all
theorem zb1 {cols : List Int} (hc : cols.length <= 16) (e : E) : ∀ {T : Int}, wt cols e T -> WfE e := by
 induction e with
 | leaf => intro T h; exact absurd h id
 | mk k v c A n cap kid ih =>
  intro T h; obtain ⟨h0, h1, us, h2, h3, h4⟩ := h; refine ⟨?_, fun hk => ?_, fun i hi => ih i (h3 i hi)⟩
  ·have : zk k <= 3 := by
    unfold zk
    repeat' split
    all_goals omega
   omega
  ·subst hk; unfold Mh at h4; rw [if_neg (by decide), if_pos rfl] at h4; have : zk 2 = 0 := by decide
   exact ⟨by omega, h4.1, by omega⟩
theorem Mw {cols : List Int} {x : E} (h : zD cols x = 0) : WfE x := by
 have h2 := (jZ h).1; have h1 := (xE cols x (zr cols x).1).1 (by rw [<- h2]); exact zb1 h1.1 x h1.2.2.1
theorem EU (p : PL) : ∀ deep m, (zN ts p deep m).2.1 = 0 -> Jo p := by
 induction p with
 | leaf => intro deep m h; unfold zN at h; split at h <;> simp at h
 | mk k n x xs ag A mm cap kid ih =>
  intro deep m
  by_cases h1 : 60 < m + 1 \/ 15 < deep
  ·unfold zN; rw [if_pos h1]; simp
  ·by_cases h2 : zo k < 0
   ·unfold zN; rw [if_neg h1, if_pos h2]; simp
   ·by_cases h3 : (mm : Int) = zo k
    ·rw [xf ts k n x xs ag A mm cap kid deep m h1 (by omega) h3]; unfold jm; split
     ·rename_i h0; exact fun h' => absurd h' h0
     ·rename_i h0; intro hc; have h0 : (zE (fun i m' => zN ts (kid i) (deep + 1) m') mm 0 (m + 1) []).1 = 0 := by simpa using h0
      refine ⟨h3, by omega, fun hk => ?_, fun i hi => ?_⟩
      ·simp only at hc; unfold zT at hc; rcases hk with hk | hk
       ·rw [if_neg (by omega), if_pos hk] at hc; exact Mw hc
       ·rw [if_neg (by omega), if_neg (by omega), if_neg (by omega), if_neg (by omega), if_neg (by omega), if_neg (by omega)] at hc; split at hc
        ·simp at hc
        ·split at hc
         ·exact Mw hc
         ·exact Mw hc
      ·have : ∀ (r j : Nat) (m : Int) (l : List (List Int)), (zE (fun i m' => zN ts (kid i) (deep + 1) m') r j m l).1 = 0 -> ∀ i, j <= i -> i < j + r -> Jo (kid i) := fun r => by
        induction r with
        | zero => intro j m l _ i h1 h2; omega
        | succ r ihr =>
         intro j m l hz i h1 h2; unfold zE at hz; split at hz
         ·rename_i h5
          by_cases hij : i = j
          ·subst hij; exact ih i _ _ h5
          ·exact ihr (j + 1) _ _ hz i (by omega) (by omega)
         ·rename_i h5; exact absurd hz h5
       exact this mm 0 (m + 1) [] h0 i (Nat.zero_le _) (by omega)
    ·unfold zN; rw [if_neg h1, if_neg h2, if_pos h3]; simp
theorem Bi {p : PL} (h : (zi ts p).2 = 0) : Jo p := by
 unfold zi at h; split at h
 ·simp at h
 ·split at h
  ·rename_i h1 h2; simp at h; omega
  ·split at h
   ·rename_i h3; simp at h; omega
   ·rename_i h3; exact EU p 1 0 (by simpa using h3)
end
end Go.Proofs.YtcaedcpjdmlilaaGreat

