/- Parts of a proof. No condition. -/
import Derived.Test.YtflggnopgnoeiaaGreatGFq
set_option maxRecDepth 100000
set_option maxHeartbeats 16000000
set_option maxRecDepth 100000
set_option linter.unusedSimpArgs false
set_option linter.unusedVariables false
namespace Go
variable {p : Prop}
theorem w3_ (h : p := by
 exact ⟨j + 1, by omega, by go_num, (fun i hi => by
  rcases Nat.lt_succ_iff_lt_or_eq.1 hi with h | rfl
  ·exact All.out i h
  ·exact HB.out), hg.trans (za.trans ze hg6)⟩) : p := h
theorem w7_ (h : p := by
 exact ⟨0, Nat.zero_le _, rfl, (fun i hi => absurd hi (Nat.not_lt_zero i)), za.refl _⟩) : p := h
end Go
namespace Go.Proofs.YtflggnopgnoeiaaGreat
open Go.RowKit Go.Calm
def Xt (f : Nat -> Int) : Nat -> Int
 | 0 => 0
 | m + 1 => Xt f m + f m
def ym (t : Int) : PL -> Int
 | .leaf => 0
 | .mk k n _ _ _ _ m _ kid => if k = 1 then (if n = t then 1 else 0) else Xt (fun i => ym t (kid i)) m
def xU (t : Int) : PL -> Bool
 | .leaf => true
 | .mk k n xs x y z m c kid => if ym t (.mk k n xs x y z m c kid) = 0 \/ k = 1 then true else if k ≠ 2 /\ k ≠ 3 /\ k ≠ 4 /\ k ≠ 5 then false
  else (List.range m).all (fun i => !(decide (k = 5) && decide (i = 1) && decide (0 < ym t (kid i))) && xU t (kid i))
def xC : PL -> Bool
 | .leaf => false
 | .mk k _ _ _ _ _ m _ kid => if k = 9 then true else (List.range m).any (fun i => xC (kid i))
theorem Yp (k : Int) (f : Nat -> Int × Bool) : ∀ m, (zR k f m).1 = Xt (fun i => (f i).1) m
 | 0 => rfl
 | m + 1 => by simp only [zR, Xt]; rw [Yp k f m]
theorem xJ (t : Int) (p : PL) : (zA t p).1 = ym t p := by
 induction p with
 | leaf => rfl
 | mk k n x xs ag A m cap kid ih =>
  unfold zA ym; split
  ·rfl
  ·unfold Qs; simp only; rw [Yp]; congr 1; funext i; exact ih i
theorem VK {ts : List (List Int)} (t : Int) (p : PL) : (zn ts p).2 = 0 -> ((zA t p).2 = true ↔ ym t p <= 1 /\ xU t p = true /\ xC p = false) := by
 induction p with
 | leaf => intro h; exact absurd rfl (yY h)
 | mk k n x xs ag A m cap kid ih =>
  intro hc; obtain ⟨hm, hk0, hct⟩ := yZ hc; clear hct
  by_cases k1 : k = 1
  ·subst k1; obtain rfl : m = 0 := by unfold zJ at hm; simp at hm; omega
   have h1 : ym t (.mk 1 n x xs ag A 0 cap kid) <= 1 := by unfold ym; rw [if_pos rfl]; split <;> decide
   have a1 : (zA t (.mk 1 n x xs ag A 0 cap kid)).2 = true := by unfold zA; rw [if_pos rfl]
   have a2 : xU t (.mk 1 n x xs ag A 0 cap kid) = true := by unfold xU; exact if_pos (.inr rfl)
   have a3 : xC (.mk 1 n x xs ag A 0 cap kid) = false := by unfold xC; exact if_neg uW_
   exact ⟨fun _ => ⟨h1, a2, a3⟩, fun _ => a1⟩
  ·obtain ⟨h2, h13, hkm⟩ := Zz hm hk0 k1; have tm : ym t (.mk k n x xs ag A m cap kid) = Xt (fun i => ym t (kid i)) m := by conv => lhs; unfold ym; rw [if_neg k1]
   have nn : ∀ i, 0 <= ym t (kid i) := fun i => by rw [<- xJ]; exact Xn t _
   have z0 : ∀ i, ym t (kid i) = 0 -> (zn ts (kid i)).2 = 0 -> xU t (kid i) = true := fun i h0 hci => by
    cases hq : kid i with
    | leaf => rw [hq] at hci; exact absurd rfl (yY hci)
    | mk k' n' x' xs' ag' A' m' cap' kid' =>
     unfold xU; rw [if_pos (.inl (by rw [<- hq]; exact h0))]
   have e : (zA t (.mk k n x xs ag A m cap kid)).2 = ((if k = 2 \/ k = 3 \/ k = 4 \/ k = 5 then (zR k (fun i => zA t (kid i)) m).2 else if k = 9 then false else (zR k (fun i => zA t (kid i)) m).2 && decide ((zR k (fun i => zA t (kid i)) m).1 = 0)) && decide ((zR k (fun i => zA t (kid i)) m).1 <= 1)) := by
    conv => lhs; unfold zA; rw [if_neg k1]
    rfl
   have e1 : (zR k (fun i => zA t (kid i)) m).1 = Xt (fun i => ym t (kid i)) m := by
    rw [Yp]; congr 1; funext i; exact xJ t (kid i)
   have tk : xC (.mk k n x xs ag A m cap kid) = if k = 9 then true else (List.range m).any (fun i => xC (kid i)) := by conv => lhs; unfold xC
   have pt : xU t (.mk k n x xs ag A m cap kid) = if Xt (fun i => ym t (kid i)) m = 0 then true else if k ≠ 2 /\ k ≠ 3 /\ k ≠ 4 /\ k ≠ 5 then false else (List.range m).all (fun i => !(decide (k = 5) && decide (i = 1) && decide (0 < ym t (kid i))) && xU t (kid i)) := by
    conv => lhs; unfold xU
    rw [tm]
    by_cases h0 : Xt (fun i => ym t (kid i)) m = 0
    ·rw [if_pos (.inl h0), if_pos h0]
    ·rw [if_neg (by rintro (h | h); exact h0 h; exact k1 h), if_neg h0]
   rw [e, e1, tm, tk, pt]; rcases hkm with ⟨rfl, hk⟩ | ⟨rfl, hk⟩
   ·have i0 := ih 0 (yp hc uX_); have c0 := yp hc (i := 0) uX_; have n0 := nn 0; have zz := z0 0; have p0 := xJ t (kid 0); simp only [zR, Xt, Bool.true_and, Int.zero_add, List.range_succ, List.range_zero, List.nil_append, List.any_cons, List.any_nil, List.all_cons, List.all_nil, Bool.or_false, Bool.and_true]; generalize ym t (kid 0) = T0 at *; have k5 : k ≠ 5 := by omega
    rw [show decide (k = 5) = false from decide_eq_false k5]; simp only [Bool.false_and, Bool.not_false, Bool.and_true, Bool.true_and]; simp only [if_neg (by omega : ¬ k = 9)]
    by_cases h0 : T0 = 0
    ·have hp0 := zz h0 c0; rw [if_pos h0]; subst h0
     by_cases h3 : k = 2 \/ k = 3 \/ k = 4 \/ k = 5
     ·rw [if_pos h3]
      constructor
      ·intro h; rw [Bool.and_eq_true] at h; exact ⟨by decide, rfl, (i0.1 h.1).2.2⟩
      ·rintro ⟨_, _, h⟩; rw [Bool.and_eq_true]; exact ⟨i0.2 ⟨by decide, hp0, h⟩, by decide⟩
     ·rw [if_neg h3]
      constructor
      ·intro h; simp only [Bool.and_eq_true] at h; exact ⟨by decide, rfl, (i0.1 h.1.1).2.2⟩
      ·rintro ⟨_, _, h⟩; simp only [Bool.and_eq_true]; exact ⟨⟨i0.2 ⟨by decide, hp0, h⟩, by decide⟩, by decide⟩
    ·rw [if_neg h0]
     by_cases h3 : k = 2 \/ k = 3 \/ k = 4 \/ k = 5
     ·rw [if_pos h3, if_neg uX_]
      constructor
      ·intro h; rw [Bool.and_eq_true] at h; exact i0.1 h.1
      ·rintro h; rw [Bool.and_eq_true]; exact ⟨i0.2 h, decide_eq_true h.1⟩
     ·rw [if_neg h3, if_pos uX_]
      constructor
      ·intro h; simp only [Bool.and_eq_true, decide_eq_true_eq] at h; exact absurd h.1.2 h0
      ·rintro ⟨_, h, _⟩; cases h
   ·have i0 := ih 0 (yp hc uX_); have i1 := ih 1 (yp hc uX_); have c0 := yp hc (i := 0) uX_; have c1 := yp hc (i := 1) uX_; have n0 := nn 0; have n1 := nn 1; have z00 := z0 0; have z01 := z0 1; have p0 := xJ t (kid 0); have p1 := xJ t (kid 1); simp only [zR, Xt, Bool.true_and, Int.zero_add, List.range_succ, List.range_zero, List.nil_append, List.cons_append, List.any_cons, List.any_nil, List.all_cons, List.all_nil, Bool.or_false, Bool.and_true, p0, p1]; generalize ym t (kid 0) = T0 at *; generalize ym t (kid 1) = T1 at *; generalize (zA t (kid 0)).2 = P0 at *; generalize (zA t (kid 1)).2 = P1 at *; generalize xU t (kid 0) = Q0 at *; generalize xU t (kid 1) = Q1 at *; generalize xC (kid 0) = S0 at *; generalize xC (kid 1) = S1 at *; have z00 := fun h => z00 h c0
    have z01 := fun h => z01 h c1
    clear p0 p1 z0 nn tm e e1 tk pt ih hc hm hk0 c0 c1
    by_cases h9 : k = 9
    ·subst h9; simp
    ·simp only [if_neg h9]
     by_cases hT : T0 + T1 = 0
     ·obtain ⟨rfl, rfl⟩ : T0 = 0 /\ T1 = 0 := by omega
      have q0 := z00 rfl; have q1 := z01 rfl; rw [if_pos (show (0 : Int) + 0 = 0 from rfl)]; subst q0 q1; clear z00 z01 n0 n1 hT
      by_cases h3 : k = 2 \/ k = 3 \/ k = 4 \/ k = 5
      ·rw [if_pos h3]; clear h3 h9 hk h13 h2 k1; cases P0 <;> cases P1 <;> cases S0 <;> cases S1 <;> simp_all
      ·rw [if_neg h3]; clear h3 h9 hk h13 h2 k1; cases P0 <;> cases P1 <;> cases S0 <;> cases S1 <;> simp_all
     ·rw [if_neg hT]
      by_cases h3 : k = 2 \/ k = 3 \/ k = 4 \/ k = 5
      ·rw [if_pos h3, if_neg uX_]
       by_cases k5 : k = 5
       ·subst k5
        by_cases t1 : 0 < T1
        ·simp [t1]
        ·obtain rfl : T1 = 0 := by omega
         have q1 := z01 rfl; subst q1; clear z00 z01 n1 hT h9 h3 hk h13 h2 k1; have e0 : (0 : Int) <= 1 := by decide
         have e1 : ¬ (0 : Int) < 0 := by decide
         have e2 : T0 + 0 <= 1 ↔ T0 <= 1 := by omega
         simp only [e0, true_and, decide_eq_false e1, Bool.and_false, Bool.not_false, Bool.and_true, Bool.and_eq_true, decide_eq_true_eq, e2] at i0 i1 ⊢; simp only [show decide ((0 : Nat) = 1) = false from rfl, Bool.and_false, Bool.false_and, Bool.not_false, true_and, and_true, Bool.or_eq_false_iff]; rw [i0, i1]
         constructor
         ·rintro ⟨⟨⟨a, b, c⟩, d⟩, _⟩; exact ⟨a, b, c, d⟩
         ·rintro ⟨a, b, c, d⟩; exact ⟨⟨⟨a, b, c⟩, d⟩, a⟩
       ·have d5 : decide (k = 5) = false := decide_eq_false k5; simp only [d5, Bool.false_and, Bool.not_false, Bool.and_true, Bool.true_and, Bool.and_eq_true, Bool.or_eq_false_iff, decide_eq_true_eq]; rw [i0, i1]
        constructor
        ·rintro ⟨⟨⟨a, b, c⟩, ⟨d, e, f⟩⟩, g⟩; exact ⟨g, ⟨b, e⟩, c, f⟩
        ·rintro ⟨g, ⟨b, e⟩, c, f⟩; exact ⟨⟨⟨by omega, b, c⟩, ⟨by omega, e, f⟩⟩, g⟩
      ·rw [if_neg h3, if_pos uX_]; simp [hT]
theorem SO {ts : List (List Int)} {t : Int} {p : PL} (hc : (zn ts p).2 = 0) : zA t p = (1, true) ↔ (decide (ym t p = 1) && xU t p && !xC p) = true := by
 have h1 := xJ t p; have h2 := VK t p hc; simp only [Bool.and_eq_true, decide_eq_true_eq, Bool.not_eq_true']
 constructor
 ·intro h; rw [h] at h1 h2; have h3 := h2.1 rfl; exact ⟨⟨h1.symm, h3.2.1⟩, h3.2.2⟩
 ·rintro ⟨⟨a, b⟩, c⟩; exact Prod.ext (by rw [h1]; exact a) (h2.2 ⟨by omega, b, c⟩)
theorem FA (t : Int) (p : PL) : 0 <= ym t p := by rw [<- xJ]; exact Xn t p
theorem Fz {ts : List (List Int)} {t : Int} {p : PL} (h : (zn ts p).2 = 0) : ym t p <= 60 := by rw [<- xJ]; exact Rx h
theorem FB {f : Nat -> Int} (h : ∀ i, 0 <= f i) {j : Nat} : ∀ {m : Nat}, j <= m -> Xt f j <= Xt f m
 | 0, hj => by
  obtain rfl : j = 0 := by omega
  exact Int.le_refl _
 | m + 1, hj => by
  by_cases e : j = m + 1
  ·subst e; exact Int.le_refl _
  ·have h1 := FB h (j := j) (m := m) uX_; have h2 := h m; simp only [Xt]; omega
theorem FC {f : Nat -> Int} (h : ∀ i, 0 <= f i) : ∀ m, 0 <= Xt f m
 | 0 => Int.le_refl _
 | m + 1 => by have h1 := FC h m; have h2 := h m; simp only [Xt]; omega
theorem ZI {ts : List (List Int)} (t : Int) (p : PL) : (zn ts p).2 = 0 -> ∀ w, PX w p -> Calls Tryz.prog 56 #[p.val, .int .i64 t] w fun en w' => en = .returned (.int .i64 (ym t p)) /\ za w w' := by
 induction p with
 | leaf => intro h; exact absurd rfl (yY h)
 | mk k n x xs ag A mm cap kid ih =>
  intro hc w hP; have HC := hh_ hc; have HP := hh_ hP; have IH := hh_ ih; obtain ⟨T, hT⟩ : ∃ T, ym t (.mk k n x xs ag A mm cap kid) = T := ⟨_, rfl⟩
  have HT := hh_ hT; rw [hT]; unfold PL.val; simp only [PL.k, PL.n, PL.x, PL.xs, PL.ag, PL.A, PL.m, PL.cap]; clear hc hP ih hT; go_enter Tryz.func56, Tryz.ntmps56; go_upto_region 1 with fail
  refine zc (fun X => zb X w.heap.size 39 #[.int .i64 k, .int .i64 n, .int .i64 x.kind, .int .i64 x.v.k, .int .i64 x.v.n, .string x.v.s, .int .i64 x.col, .slice x.A x.n x.cap, .slice xs.A xs.l.length xs.c, .slice ag.A ag.l.length ag.c, .slice A mm cap] /\ za w X) ⟨zb.new _ _ _, (za.refl w).al _⟩ ?_; rintro X ⟨BX, G⟩; obtain ⟨bx, fx⟩ := BX.rules; have lx := BX.lt; clear BX; generalize w.heap.size = gx at *
  by_cases hk1 : k = 1
  ·subst hk1; have hT := HT.out; unfold ym at hT; rw [if_pos rfl] at hT
   by_cases hn : n = t
   ·have dn : (n == t) = true := by simpa using hn
    rw [if_pos hn] at hT; subst hT; clear hn HT; go_wp2; go_ret; exact ⟨rfl, G⟩
   ·have dn : (n == t) = false := by simpa using hn
    rw [if_neg hn] at hT; subst hT; clear hn HT; go_wp2; go_ret; exact ⟨rfl, G⟩
  ·have dk : (k == 1) = false := by simpa using hk1
   have eT : Xt (fun i => ym t (kid i)) mm = T := by
    have h := HT.out; unfold ym at h; rw [if_neg hk1] at h; exact h
   have t60 := Fz (t := t) HC.out; rw [HT.out] at t60; have nn : ∀ i, 0 <= (fun i => ym t (kid i)) i := fun i => FA t (kid i)
   obtain ⟨F, hF⟩ : ∃ F, (fun i => ym t (kid i)) = F := ⟨_, rfl⟩
   rw [hF] at eT nn; have FI := hh_ (show ∀ i, ym t (kid i) = F i from fun i => by rw [<- hF]); have ET := hh_ eT; have T60 := hh_ t60; have NN := hh_ nn
   have m2 : mm <= 2 := by
    have h := (Zz (yZ HC.out).1 (yZ HC.out).2.1 hk1).2.2; rcases h with ⟨h, _⟩ | ⟨h, _⟩ <;> omega
   clear eT t60 nn hF hk1; go_wp2
   go_loopw [5, 18] (fun a i wr => ∃ j : Nat, j <= mm /\ i = .int .i64 j /\ a = .int .i64 (Xt F j) /\ za X wr) (fun _ i _ => mm - (intOf i).toNat)
   case atStart => exact w8_
   case round =>
    rename World => wr
    obtain ⟨j, hj, rfl, rfl, hg⟩ := hrel; clear bx fx lx
    by_cases hlt : j < mm
    ·obtain ⟨gk, ok, hA, hck, hEk⟩ : ∃ gk ok, A = some ⟨gk, ok, none⟩ /\ yt w gk (ok + j * 11) (kid j) /\ PX w (kid j) := by
      cases HP.out with
      | mk hm' hc hk =>
       obtain ⟨gk, ok, h1, h2⟩ := hc j hlt; exact ⟨gk, ok, h1, h2, hk j hlt⟩
     subst hA; have Gw := G.trans hg; obtain ⟨k0, k1, k2, k3, k4, k5, k6, k7, k8, k9, k10⟩ := hck.grow Gw; have cs := fun W (h : za w W) => IH.out j (yp HC.out hlt) W (hEk.grow h)
     rw [FI.out] at cs; unfold PL.val at cs; have st : Xt F (j + 1) = Xt F j + F j := rfl; have le1 := FB NN.out (show j + 1 <= mm by omega); have n0 := FC NN.out j; have n1 := NN.out j; have t60 := T60.out; rw [<- ET.out] at t60; rw [st] at le1; obtain ⟨T0, h0⟩ : ∃ a, Xt F j = a := ⟨_, rfl⟩
     obtain ⟨T1, h1⟩ : ∃ a, F j = a := ⟨_, rfl⟩
     rw [h0, h1] at st le1; rw [h1] at cs n1; rw [h0] at n0 ⊢; have hwp : wrap64 (T0 + T1) = T0 + T1 := by unfold wrap64; omega
     have CS := hh_ cs; have ST := hh_ st; have q0 : (0 : Int) <= (j : Int) := by omega
     have q1 : (j : Int) < (mm : Int) := by omega
     clear cs st h0 h1 hck hEk le1 t60 n0 n1
     go_wp2_with (go_at_call 56; ((with_reducible refine (CS.out _ ze).mono ?_); rintro e w6 ⟨rfl, hg6⟩))
     go_roundw
     case rel => exact ⟨j + 1, by omega, by go_num, by rw [ST.out]; first | done | simp [hwp], hg.trans (za.trans ze hg6)⟩
     case measure => exact u1_
    ·obtain rfl : j = mm := by omega
     rw [ET.out]; go_wp2; go_ret; exact ⟨rfl, G.trans hg⟩
theorem BF (k n : Int) (x : E) (xs : X5) (ag : XY) (A : Option Addr) (m cap : Nat) (kid : Nat -> PL) : xC (.mk k n x xs ag A m cap kid) = if k = 9 then true else (List.range m).any (fun i => xC (kid i)) := by rw [xC]
theorem S2 (p : PL) : ∀ w, PX w p -> Calls Tryz.prog 58 #[p.val] w fun en w' => en = .returned (.bool (xC p)) /\ za w w' := by
 have node : ∀ (p : PL) (w : World), p.m <= zp -> (∀ i, i < p.m -> (∃ g o, p.A = some ⟨g, o, none⟩ /\ yt w g (o + i * 11) (p.kid i)) /\ PX w (p.kid i)) -> (∀ i, i < p.m -> ∀ W, PX W (p.kid i) -> Calls Tryz.prog 58 #[(p.kid i).val] W fun en w' => en = .returned (.bool (xC (p.kid i))) /\ za W w') -> ∀ R, (if p.k = 9 then true else (List.range p.m).any (fun i => xC (p.kid i))) = R ->
   Calls Tryz.prog 58 #[p.val] w fun en w' => en = .returned (.bool R) /\ za w w' := by
  intro p w hmr hk ih R hR; have HK := hh_ hk; have IH := hh_ ih; have HR := hh_ hR; unfold zp at hmr; unfold PL.val; clear hk ih hR; go_enter Tryz.func58, Tryz.ntmps58; go_upto_region 1 with fail
  refine zc (fun X => zb X w.heap.size 39 (pC p) /\ za w X) ⟨zb.new _ _ _, (za.refl w).al _⟩ ?_; rintro X ⟨BX, G⟩; obtain ⟨bx, fx⟩ := BX.rules; have lx := BX.lt; clear BX; generalize w.heap.size = gx at *
  by_cases hk9 : p.k = 9
  ·have d9 : (p.k == 9) = true := by simpa using hk9
   have e : true = R := (if_pos hk9).symm.trans HR.out; subst e; clear hk9 HR; go_wp2; go_ret; exact ⟨rfl, G⟩
  ·have d9 : (p.k == 9) = false := by simpa using hk9
   have inv : (List.range p.m).any (fun i => xC (p.kid i)) = R := (if_neg hk9).symm.trans HR.out; have xt := hh_ inv; clear inv hk9 HR; go_wp2
   go_loopw [11] (fun i wr => ∃ k : Nat, k <= p.m /\ i = .int .i64 k /\ (∀ i, i < k -> xC (p.kid i) = false) /\ za X wr) (fun i _ => p.m - (intOf i).toNat)
   case atStart => exact w7_
   case round =>
    rename World => wr
    obtain ⟨j, hj, rfl, hall, hg⟩ := hrel; have All := hh_ hall; clear hall bx fx lx
    by_cases hlt : j < p.m
    ·obtain ⟨⟨g, o, hA, hc⟩, hpx⟩ := HK.out j hlt; have Gw := G.trans hg; obtain ⟨k0, k1, k2, k3, k4, k5, k6, k7, k8, k9, k10⟩ := hc.grow Gw; have cs := fun W (h : za w W) => IH.out j hlt W (hpx.grow h)
     unfold PL.val at cs; obtain ⟨b, hb⟩ : ∃ b, xC (p.kid j) = b := ⟨_, rfl⟩
     rw [hb] at cs; have CS := hh_ cs; have HB := hh_ hb; have q0 : (0 : Int) <= (j : Int) := by omega
     have q1 : (j : Int) < (p.m : Int) := by omega
     clear cs hb hc hpx; rw [hA]; cases b with
     | true =>
      have e : true = R := by rw [<- xt.out]; exact (List.any_eq_true.2 ⟨j, List.mem_range.2 hlt, HB.out⟩).symm
      subst e
      go_wp2_with (go_at_call 58; ((with_reducible refine (CS.out _ ze).mono ?_); rintro e w6 ⟨rfl, hg6⟩))
      go_ret; exact ⟨rfl, Gw.trans (za.trans ze hg6)⟩
     | false =>
      go_wp2_with (go_at_call 58; ((with_reducible refine (CS.out _ ze).mono ?_); rintro e w6 ⟨rfl, hg6⟩))
      go_roundw
      case rel => exact w3_
      case measure => exact u1_
    ·obtain rfl : j = p.m := by omega
     have e : false = R := by
      rw [<- xt.out]; refine (List.any_eq_false.2 fun i hi => ?_).symm; rw [All.out i (List.mem_range.1 hi)]; simp
     subst e; go_wp2; go_ret; exact ⟨rfl, G.trans hg⟩
 induction p with
 | leaf => intro w hp; exact node .leaf w (Nat.zero_le _) (fun i hi => absurd hi (Nat.not_lt_zero i)) (fun i hi => absurd hi (Nat.not_lt_zero i)) _ rfl
 | mk k n x xs ag A m cap kid ih =>
  intro w hp; cases hp with
  | mk hm hc hk hx hs ha hl hi => exact node (.mk k n x xs ag A m cap kid) w hm (fun i hi => ⟨hc i hi, hk i hi⟩) (fun i hi w hp => ih i w hp) _ (BF k n x xs ag A m cap kid).symm
theorem V7 {ts : List (List Int)} (t : Int) (p : PL) : (zn ts p).2 = 0 -> ∀ w, PX w p -> Calls Tryz.prog 57 #[p.val, .int .i64 t] w fun en w' => en = .returned (.bool (xU t p)) /\ za w w' := by
 induction p with
 | leaf => intro h; exact absurd rfl (yY h)
 | mk k n x xs ag A mm cap kid ih =>
  intro hc w hP; have HC := hh_ hc; have HP := hh_ hP; have IH := hh_ ih; obtain ⟨R, hR⟩ : ∃ R, xU t (.mk k n x xs ag A mm cap kid) = R := ⟨_, rfl⟩
  obtain ⟨T, hT⟩ : ∃ T, ym t (.mk k n x xs ag A mm cap kid) = T := ⟨_, rfl⟩
  have eR : (if T = 0 \/ k = 1 then true else if k ≠ 2 /\ k ≠ 3 /\ k ≠ 4 /\ k ≠ 5 then false else (List.range mm).all (fun i => !(decide (k = 5) && decide (i = 1) && decide (0 < ym t (kid i))) && xU t (kid i))) = R := by
   rw [<- hR, <- hT]; conv => rhs; unfold xU
  have ER := hh_ eR; have ct := fun W (h : za w W) => ZI t (.mk k n x xs ag A mm cap kid) hc W (hP.grow h)
  rw [hT] at ct; rw [hR]; unfold PL.val at ct ⊢; simp only [PL.k, PL.n, PL.x, PL.xs, PL.ag, PL.A, PL.m, PL.cap] at ct ⊢; have CT := hh_ ct; clear hc hP ih hR hT eR ct; go_enter Tryz.func57, Tryz.ntmps57; go_upto_region 1 with fail
  refine zc (fun X => zb X w.heap.size 39 #[.int .i64 k, .int .i64 n, .int .i64 x.kind, .int .i64 x.v.k, .int .i64 x.v.n, .string x.v.s, .int .i64 x.col, .slice x.A x.n x.cap, .slice xs.A xs.l.length xs.c, .slice ag.A ag.l.length ag.c, .slice A mm cap] /\ za w X) ⟨zb.new _ _ _, (za.refl w).al _⟩ ?_; rintro X ⟨BX, G⟩; have BX0 := hh_ BX; obtain ⟨bx, fx⟩ := BX.rules; have lx := BX.lt; clear BX; generalize w.heap.size = gx at *
  go_cut [15] (fun z wx => ∃ b, z = .bool b /\ b = decide (T = 0 \/ k = 1) /\ za X wx)
  case first =>
   by_cases hT0 : T = 0
   ·have d0 : (T == 0) = true := by simpa using hT0
    have dd : decide (T = 0 \/ k = 1) = true := decide_eq_true (.inl hT0); clear hT0
    go_wp2_with (go_at_call 56; ((with_reducible refine (CT.out _ G).mono ?_); rintro e w2 ⟨rfl, hg2⟩))
    go_meet; exact ⟨_, rfl, dd.symm, hg2⟩
   ·have d0 : (T == 0) = false := by simpa using hT0
    have cc : ∀ W, za X W -> ∀ i, W.cell? ⟨gx, i, none⟩ = _ := fun W h i => ((BX0.out.grow h).rules).1 i
    by_cases hk1 : k = 1
    ·have d1 : (k == 1) = true := by simpa using hk1
     have dd : decide (T = 0 \/ k = 1) = true := decide_eq_true (.inr hk1); clear hT0 hk1
     go_wp2_with (go_at_call 56; ((with_reducible refine (CT.out _ G).mono ?_); rintro e w2 ⟨rfl, hg2⟩; have cc := cc w2 hg2))
     go_meet; exact ⟨_, rfl, dd.symm, hg2⟩
    ·have d1 : (k == 1) = false := by simpa using hk1
     have dd : decide (T = 0 \/ k = 1) = false := decide_eq_false (by rintro (h | h); exact hT0 h; exact hk1 h); clear hT0 hk1
     go_wp2_with (go_at_call 56; ((with_reducible refine (CT.out _ G).mono ?_); rintro e w2 ⟨rfl, hg2⟩; have cc := cc w2 hg2))
     go_meet; exact ⟨_, rfl, dd.symm, hg2⟩
  case rest =>
  obtain ⟨b0, rfl, hb0, hg2⟩ := hcut; rename World => w2
  clear bx fx lx; obtain ⟨bx, fx⟩ := (BX0.out.grow hg2).rules; have G2 := G.trans hg2
  by_cases h01 : T = 0 \/ k = 1
  ·obtain rfl : b0 = true := hb0.trans (decide_eq_true h01); clear hb0; have e : true = R := (if_pos h01).symm.trans ER.out; subst e; clear h01 ER; go_wp2; go_ret; exact ⟨rfl, G2⟩
  ·obtain rfl : b0 = false := hb0.trans (decide_eq_false h01); clear hb0; have ER := hh_ ((if_neg h01).symm.trans ER.out); have k1 : k ≠ 1 := fun e => h01 (.inr e)
   clear h01
   by_cases hk : k = 2 \/ k = 3 \/ k = 4 \/ k = 5
   ·have inv : (List.range mm).all (fun i => !(decide (k = 5) && decide (i = 1) && decide (0 < ym t (kid i))) && xU t (kid i)) = R := (if_neg uX_).symm.trans ER.out; have xt := hh_ inv; clear inv ER k1; have loop : ∀ (hk5 : Bool), decide (k = 5) = hk5 -> (List.range mm).all (fun i => !(hk5 && decide (i = 1) && decide (0 < ym t (kid i))) && xU t (kid i)) = R := fun b hb => by rw [<- hb]; exact xt.out
    have kids : ∀ j, j < mm -> ∃ gk ok, A = some ⟨gk, ok, none⟩ /\ yt w gk (ok + j * 11) (kid j) /\ PX w (kid j) := fun j hlt => by
     cases HP.out with
     | mk hm' hc hk =>
      obtain ⟨gk, ok, h1, h2⟩ := hc j hlt; exact ⟨gk, ok, h1, h2, hk j hlt⟩
    have LOOP := hh_ loop; have KIDS := hh_ kids
    have m2 : mm <= 2 := by
     have h := (Zz (yZ HC.out).1 (yZ HC.out).2.1 uX_).2.2; rcases h with ⟨h, _⟩ | ⟨h, _⟩ <;> omega
    clear loop kids xt
    by_cases h5 : k = 5
    ·subst h5; have INV := hh_ (LOOP.out true (decide_eq_true rfl)); clear hk LOOP; go_wp2
     go_loopw [37] (fun i wr => ∃ j : Nat, j <= mm /\ i = .int .i64 j /\ (∀ i, i < j -> (!(true && decide (i = 1) && decide (0 < ym t (kid i))) && xU t (kid i)) = true) /\ za w2 wr) (fun i _ => mm - (intOf i).toNat)
     case atStart => exact w7_
     case round =>
      rename World => wr
      obtain ⟨j, hj, rfl, hall, hg⟩ := hrel; have All := hh_ hall; clear hall bx fx; obtain ⟨bx, fx⟩ := (BX0.out.grow (hg2.trans hg)).rules; have lx := (BX0.out.grow (hg2.trans hg)).lt
      by_cases hlt : j < mm
      ·obtain ⟨gk, ok, hA, hck, hEk⟩ := KIDS.out j hlt; subst hA; have Gw := G2.trans hg; obtain ⟨k0, k1, k2, k3, k4, k5, k6, k7, k8, k9, k10⟩ := hck.grow Gw; have hcj := yp HC.out hlt; have cs := fun W (h : za w W) => IH.out j hcj W (hEk.grow h)
       have cz := fun W (h : za w W) => ZI t (kid j) hcj W (hEk.grow h)
       unfold PL.val at cs cz; obtain ⟨b, hb⟩ : ∃ b, xU t (kid j) = b := ⟨_, rfl⟩
       obtain ⟨T1, hT1⟩ : ∃ b, ym t (kid j) = b := ⟨_, rfl⟩
       rw [hb] at cs; rw [hT1] at cz; have CS := hh_ cs; have CZ := hh_ cz; have HB := hh_ (And.intro hb hT1); have HLT := hh_ hlt
       have bad : (!(true && decide (j = 1) && decide (0 < T1)) && b) = false -> false = R := fun h => by
        rw [<- INV.out]; refine (Bool.eq_false_iff.2 fun h2 => ?_).symm; have h3 := List.all_eq_true.1 h2 j (List.mem_range.2 HLT.out); rw [HB.out.1, HB.out.2, h] at h3; cases h3
       have good : (!(true && decide (j = 1) && decide (0 < T1)) && b) = true -> ∀ i, i < j + 1 -> (!(true && decide (i = 1) && decide (0 < ym t (kid i))) && xU t (kid i)) = true := fun h i hi => by
        rcases Nat.lt_succ_iff_lt_or_eq.1 hi with h9 | rfl
        ·exact All.out i h9
        ·rw [HB.out.1, HB.out.2]; exact h
       have BAD := hh_ bad; have GOOD := hh_ good; have q0 : (0 : Int) <= (j : Int) := by omega
       have q1 : (j : Int) < (mm : Int) := by omega
       clear cs cz hb hT1 hck hEk hcj bad good; go_upto_region 8 with fail
       refine zc (fun Z => zb Z wr.heap.size 39 (pC (kid j)) /\ za wr Z) ⟨zb.new _ _ _, (za.refl wr).al _⟩ ?_; rintro Z ⟨BZ0, GZ⟩; have BZ := hh_ BZ0; clear k0 k1 k2 k3 k4 k5 k6 k7 k8 k9 k10 bx fx lx BZ0; generalize wr.heap.size = gz at *; obtain ⟨bx, fx⟩ := (BX0.out.grow (hg2.trans (hg.trans GZ))).rules; have lx := (BX0.out.grow (hg2.trans (hg.trans GZ))).lt; obtain ⟨bz, fz⟩ := BZ.out.rules; have lz := BZ.out.lt
       by_cases h1 : j = 1
       ·subst h1
        by_cases hT : 0 < T1
        ·have dT : decide (0 < T1) = true := decide_eq_true hT; have e : false = R := BAD.out (by simp [hT]); subst e; clear hT
         go_wp2_with (go_at_call 56; ((with_reducible refine (CZ.out _ (Gw.trans GZ)).mono ?_); rintro e w6 ⟨rfl, hg6⟩))
         go_ret; exact ⟨rfl, Gw.trans (GZ.trans hg6)⟩
        ·have dT : decide (0 < T1) = false := decide_eq_false hT; cases b with
         | false =>
          have e : false = R := BAD.out uY_; subst e; clear hT
          go_wp2_with (first
           | (go_at_call 56; ((with_reducible refine (CZ.out _ (Gw.trans GZ)).mono ?_); rintro e w6 ⟨rfl, hg6⟩; clear bz fz lz; obtain ⟨bz, fz⟩ := (BZ.out.grow hg6).rules; have lz := (BZ.out.grow hg6).lt))
           | (go_at_call 57; ((with_reducible refine (CS.out _ (Gw.trans (GZ.trans hg6))).mono ?_); rintro e w7 ⟨rfl, hg7⟩)))
          go_ret; exact ⟨rfl, Gw.trans (GZ.trans (hg6.trans hg7))⟩
         | true =>
          have gd := hh_ (GOOD.out (by simp [hT])); clear hT
          go_wp2_with (first
           | (go_at_call 56; ((with_reducible refine (CZ.out _ (Gw.trans GZ)).mono ?_); rintro e w6 ⟨rfl, hg6⟩; clear bz fz lz; obtain ⟨bz, fz⟩ := (BZ.out.grow hg6).rules; have lz := (BZ.out.grow hg6).lt))
           | (go_at_call 57; ((with_reducible refine (CS.out _ (Gw.trans (GZ.trans hg6))).mono ?_); rintro e w7 ⟨rfl, hg7⟩)))
          go_roundw
          case rel => exact ⟨2, by omega, by go_num, gd.out, hg.trans (GZ.trans (hg6.trans hg7))⟩
          case measure => exact u1_
       ·have d1 : ((j : Int) == 1) = false := by rw [beq_eq_false_iff_ne]; omega
        cases b with
        | false =>
         have e : false = R := BAD.out uY_; subst e; clear h1
         go_wp2_with (go_at_call 57; ((with_reducible refine (CS.out _ (Gw.trans GZ)).mono ?_); rintro e w6 ⟨rfl, hg6⟩))
         go_ret; exact ⟨rfl, Gw.trans (GZ.trans hg6)⟩
        | true =>
         have gd := hh_ (GOOD.out (by simp [h1])); clear h1
         go_wp2_with (go_at_call 57; ((with_reducible refine (CS.out _ (Gw.trans GZ)).mono ?_); rintro e w6 ⟨rfl, hg6⟩))
         go_roundw
         case rel => exact ⟨j + 1, by omega, by go_num, gd.out, hg.trans (GZ.trans hg6)⟩
         case measure => exact u1_
      ·obtain rfl : j = mm := by omega
       have e : true = R := by
        rw [<- INV.out]; exact (List.all_eq_true.2 fun i hi => All.out i (List.mem_range.1 hi)).symm
       subst e; go_wp2; go_ret; exact ⟨rfl, G2.trans hg⟩
    ·have INV := hh_ (LOOP.out false (decide_eq_false h5)); clear LOOP; rcases (show k = 2 \/ k = 3 \/ k = 4 by omega) with rfl | rfl | rfl
     all_goals
      clear hk h5; go_wp2
      go_loopw [37] (fun i wr => ∃ j : Nat, j <= mm /\ i = .int .i64 j /\ (∀ i, i < j -> xU t (kid i) = true) /\ za w2 wr) (fun i _ => mm - (intOf i).toNat)
      case atStart => exact w7_
      case round =>
       rename World => wr
       obtain ⟨j, hj, rfl, hall, hg⟩ := hrel; have All := hh_ hall; clear hall bx fx; obtain ⟨bx, fx⟩ := (BX0.out.grow (hg2.trans hg)).rules; have lx := (BX0.out.grow (hg2.trans hg)).lt
       by_cases hlt : j < mm
       ·obtain ⟨gk, ok, hA, hck, hEk⟩ := KIDS.out j hlt; subst hA; have Gw := G2.trans hg; obtain ⟨k0, k1, k2, k3, k4, k5, k6, k7, k8, k9, k10⟩ := hck.grow Gw; have cs := fun W (h : za w W) => IH.out j (yp HC.out hlt) W (hEk.grow h)
        unfold PL.val at cs; obtain ⟨b, hb⟩ : ∃ b, xU t (kid j) = b := ⟨_, rfl⟩
        rw [hb] at cs; have CS := hh_ cs; have HB := hh_ hb; have q0 : (0 : Int) <= (j : Int) := by omega
        have q1 : (j : Int) < (mm : Int) := by omega
        clear cs hb hck hEk; cases b with
        | false =>
         have e : false = R := by
          rw [<- INV.out]; refine (Bool.eq_false_iff.2 fun h2 => ?_).symm; have h3 := List.all_eq_true.1 h2 j (List.mem_range.2 hlt); rw [HB.out] at h3; simp at h3
         subst e
         go_wp2_with (go_at_call 57; ((with_reducible refine (CS.out _ ze).mono ?_); rintro e w6 ⟨rfl, hg6⟩))
         go_ret; exact ⟨rfl, Gw.trans (za.trans ze hg6)⟩
        | true =>
         go_wp2_with (go_at_call 57; ((with_reducible refine (CS.out _ ze).mono ?_); rintro e w6 ⟨rfl, hg6⟩))
         go_roundw
         case rel => exact w3_
         case measure => exact u1_
       ·obtain rfl : j = mm := by omega
        have e : true = R := by
         rw [<- INV.out]; refine (List.all_eq_true.2 fun i hi => ?_).symm; rw [All.out i (List.mem_range.1 hi)]; simp
        subst e; go_wp2; go_ret; exact ⟨rfl, G2.trans hg⟩
   ·have e : false = R := (if_pos uX_).symm.trans ER.out; subst e; have d2 : (k != 2) = true := by simp; omega
    have d3 : (k != 3) = true := by simp; omega
    have d4 : (k != 4) = true := by simp; omega
    have d5 : (k != 5) = true := by simp; omega
    clear hk ER k1; go_wp2; go_ret; exact ⟨rfl, G2⟩
theorem SY {ts : List (List Int)} (t : Int) (p : PL) (hc : (zn ts p).2 = 0) (w : World) (hP : PX w p) : Calls Tryz.prog 15 #[p.val, .int .i64 t] w fun en w' => en = .returned (.bool (decide (zA t p = (1, true)))) /\ za w w' := by
 have ct := fun W (h : za w W) => ZI t p hc W (hP.grow h)
 have cp := fun W (h : za w W) => V7 t p hc W (hP.grow h)
 have ck := fun W (h : za w W) => S2 p W (hP.grow h)
 have hR := SO (t := t) hc; obtain ⟨R, eR⟩ : ∃ R, decide (zA t p = (1, true)) = R := ⟨_, rfl⟩
 rw [eR]
 have hR2 : R = (decide (ym t p = 1) && xU t p && !xC p) := by
  rw [<- eR, Bool.eq_iff_iff, decide_eq_true_iff]; exact hR
 obtain ⟨T, hT⟩ : ∃ T, ym t p = T := ⟨_, rfl⟩
 obtain ⟨P9, hP9⟩ : ∃ b, xU t p = b := ⟨_, rfl⟩
 obtain ⟨K9, hK9⟩ : ∃ b, xC p = b := ⟨_, rfl⟩
 rw [hT] at ct hR2; rw [hP9] at cp hR2; rw [hK9] at ck hR2; have HR := hh_ hR2; unfold PL.val at ct cp ck ⊢; have CT := hh_ ct; have CP := hh_ cp; have CK := hh_ ck; clear hc hP hR eR hR2 hT hP9 hK9 ct cp ck; go_enter Tryz.func15, Tryz.ntmps15; go_upto_region 1 with fail
 refine zc (fun X => zb X w.heap.size 39 (pC p) /\ za w X) ⟨zb.new _ _ _, (za.refl w).al _⟩ ?_; rintro X ⟨BX, G⟩; have BX0 := hh_ BX; obtain ⟨bx, fx⟩ := BX.rules; have lx := BX.lt; clear BX; generalize w.heap.size = gx at *
 by_cases h1 : T = 1
 ·have E := hh_ (show R = (P9 && !K9) by rw [HR.out, decide_eq_true h1, Bool.true_and]); subst h1; cases P9 <;> cases K9
  all_goals
   first | (obtain rfl : R = true := E.out) | (obtain rfl : R = false := E.out)
   clear E HR
   go_wp2_with (first
    | (go_at_call 56; ((with_reducible refine (CT.out _ G).mono ?_); rintro e w2 ⟨rfl, hg2⟩; clear bx fx lx; obtain ⟨bx, fx⟩ := (BX0.out.grow hg2).rules; have lx := (BX0.out.grow hg2).lt))
    | (go_at_call 57; ((with_reducible refine (CP.out _ (G.trans hg2)).mono ?_); rintro e w3 ⟨rfl, hg3⟩; clear bx fx lx; obtain ⟨bx, fx⟩ := (BX0.out.grow (hg2.trans hg3)).rules; have lx := (BX0.out.grow (hg2.trans hg3)).lt))
    | (go_at_call 58; ((with_reducible refine (CK.out _ (G.trans (hg2.trans hg3))).mono ?_); rintro e w4 ⟨rfl, hg4⟩)))
   go_ret
   first | exact ⟨rfl, G.trans (hg2.trans (hg3.trans hg4))⟩ | exact ⟨rfl, G.trans (hg2.trans hg3)⟩
 ·have d1 : (T == 1) = false := by simpa using h1
  obtain rfl : R = false := by rw [HR.out, decide_eq_false h1, Bool.false_and, Bool.false_and]
  clear h1 HR
  go_wp2_with (go_at_call 56; ((with_reducible refine (CT.out _ G).mono ?_); rintro e w2 ⟨rfl, hg2⟩))
  go_ret; exact ⟨rfl, G.trans hg2⟩
