/-
 Joined texts of this claim: Rw8. What each proves its own head says; no condition beside those that each theorem names.
-/
import Derived.Test.YtcaedcpjdmlilaaGreatGWb7
namespace Go.Proofs.YtcaedcpjdmlilaaGreat
open Go.RowKit Go.Calm
set_option linter.unusedSimpArgs false
set_option linter.unusedVariables false
def S5 (ts : List (L2 Int)) (At : Option Addr) (nt : Nat) (p : PL) : Prop := ∀ (S : Nat -> Prop) (gw : Nat) (x : E) (w : World), WrS w gw ts At nt -> Jo p -> WfE x -> qI S w p -> Xj S w x ->
 Calls Tryz.prog 90 #[.pointer (some ⟨gw, 0, none⟩), x.val, p.val] w fun en w' => RP S (zn (zh ts) (nP p) (nE x)) w w' en
def He (ts : List (L2 Int)) (At : Option Addr) (nt : Nat) (p : PL) : Prop := ∀ (S : Nat -> Prop) (gw : Nat) (x : E) (w : World), WrS w gw ts At nt -> Jo p -> WfE x -> qI S w p -> Xj S w x -> p.k = 4 -> qB x = false ->
 Calls Tryz.prog 131 #[.pointer (some ⟨gw, 0, none⟩), x.val, p.val] w fun en w' => RP S (zn (zh ts) (nP p) (nE x)) w w' en
theorem Xy (x : E) : qB (nE x) = qB x := by unfold qB; rw [Fw, zci]
theorem Fq (b : Int) (e : E) : qO b (nE e) = qO b e := by
 induction e with
 | leaf => rfl
 | mk k v c A n cap kid ih =>
  rw [JZ]; unfold qO; congr 1; funext i
  by_cases hi : i < n
  ·simp only [if_pos hi]; exact ih i
  ·simp only [if_neg hi]
theorem RU (f : Int -> Bool) (e : E) : zK f (nE e) = zK f e := by
 induction e with
 | leaf => rfl
 | mk k v c A n cap kid ih =>
  rw [JZ, xP, xP]; congr 1
  have : ∀ m, m <= n -> (List.range m).all (fun i => zK f (if i < n then nE (kid i) else .leaf)) = (List.range m).all (fun i => zK f (kid i)) := fun m => by
   induction m with
   | zero => intro _; rfl
   | succ m ihm =>
    intro hm; rw [qE, qE, ihm (by omega), if_pos (by omega), ih]
  exact this n (Nat.le_refl _)
section
variable {ts : List (List Int)} {k n : Int} {y x : E} {xs : jj} {ag : jh} {A : Option Addr} {m cap : Nat} {kid : Nat -> PL}
theorem Dn (h : qB x = true) : zn ts (nP (.mk k n y xs ag A m cap kid)) (nE x) = nP (.mk k n y xs ag A m cap kid) := by
 show zn ts (yY k n (nE y) (xs.l.map nE) (ag.l.map nA) m (fun i => nP (kid i))) (nE x) = yY k n (nE y) (xs.l.map nE) (ag.l.map nA) m (fun i => nP (kid i)); unfold yY zn; rw [Xy, if_pos h]
theorem Di (h : qB x = false) (hm : m = 1) : zn ts (nP (.mk 2 n y xs ag A m cap kid)) (nE x) = if (zr (zi ts (kid 0)).1 (yO (nE y) (nE x))).2 = 0 then xG (yO (nE y) (nE x)) (nP (kid 0)) else xG (nE x) (nP (.mk 2 n y xs ag A m cap kid)) := by
 subst hm; show zn ts (yY 2 n (nE y) (xs.l.map nE) (ag.l.map nA) 1 (fun i => nP (kid i))) (nE x) = _; unfold yY zn; rw [Xy, if_neg (by simp [h])]; simp only [if_pos (show (0 : Nat) < 1 by decide), jX]; rfl
theorem Dk (h : qB x = false) (hm : m = 2) (hk : k = 8 \/ k = 9) : zn ts (nP (.mk k n y xs ag A m cap kid)) (nE x) = yY k 0 .leaf [] [] 2 (fun i => if i = 0 then zn ts (nP (kid 0)) (nE x) else zn ts (nP (kid 1)) (nE x)) := by
 subst hm; show zn ts (yY k n (nE y) (xs.l.map nE) (ag.l.map nA) 2 (fun i => nP (kid i))) (nE x) = _
 conv => lhs; unfold yY zn
 rw [Xy, if_neg (by simp [h]), if_neg (by omega), if_pos hk]; rfl
theorem TI (h : qB x = false) (hm : m = 1) (hk : k = 10 \/ k = 11) : zn ts (nP (.mk k n y xs ag A m cap kid)) (nE x) = yY k 0 .leaf [] [] 1 (fun _ => zn ts (nP (kid 0)) (nE x)) := by
 subst hm; show zn ts (yY k n (nE y) (xs.l.map nE) (ag.l.map nA) 1 (fun i => nP (kid i))) (nE x) = _
 conv => lhs; unfold yY zn
 rw [Xy, if_neg (by simp [h]), if_neg (by omega), if_neg (by omega), if_pos hk]; rfl
theorem Dj (h : qB x = false) (hm : m = 2) (hk : k = 5 \/ k = 6) : zn ts (nP (.mk k n y xs ag A m cap kid)) (nE x) = yY k n (nE y) (xs.l.map nE) (ag.l.map nA) 2 (fun i => if i = 0 then zn ts (nP (kid 0)) (nE x) else nP (kid 1)) := by
 subst hm; show zn ts (yY k n (nE y) (xs.l.map nE) (ag.l.map nA) 2 (fun i => nP (kid i))) (nE x) = _
 conv => lhs; unfold yY zn
 rw [Xy, if_neg (by simp [h]), if_neg (by omega), if_neg (by omega), if_neg (by omega), if_pos hk]; rfl
theorem Na (h : qB x = false) (hm : m = 2) : zn ts (nP (.mk 4 n y xs ag A m cap kid)) (nE x) =
  if zK (fun c => decide (c < ((zi ts (kid 0)).1.length : Int))) x = true then yY 4 n (nE y) (xs.l.map nE) (ag.l.map nA) 2 (fun i => if i = 0 then zn ts (nP (kid 0)) (nE x) else nP (kid 1))
  else if zK (fun c => decide (((zi ts (kid 0)).1.length : Int) <= c)) x = true then yY 4 n (nE y) (xs.l.map nE) (ag.l.map nA) 2 (fun i => if i = 0 then nP (kid 0) else zn ts (nP (kid 1)) (qO (-((zi ts (kid 0)).1.length : Int)) x))
  else if (zr (zi ts (.mk 4 n y xs ag A m cap kid)).1 (yO (nE y) (nE x))).2 = 0 then yY 4 n (yO (nE y) (nE x)) (xs.l.map nE) (ag.l.map nA) 2 (fun i => nP (kid i))
  else xG (nE x) (nP (.mk 4 n y xs ag A m cap kid)) := by
 subst hm; have e2 : zi ts (yY 4 n (nE y) (xs.l.map nE) (ag.l.map nA) 2 (fun i => nP (kid i))) = zi ts (.mk 4 n y xs ag A 2 cap kid) := jX ts (.mk 4 n y xs ag A 2 cap kid); unfold yY at e2; show zn ts (yY 4 n (nE y) (xs.l.map nE) (ag.l.map nA) 2 (fun i => nP (kid i))) (nE x) = _
 conv => lhs; unfold yY zn
 rw [Xy, if_neg (by simp [h]), if_neg (by omega), if_neg (by omega), if_neg (by omega), if_neg (by omega), if_pos rfl]; simp only [if_pos (show (0 : Nat) < 2 by decide), if_pos (show (1 : Nat) < 2 by decide), jX, RU, Fq]; have e1 : yY 4 n (yO (nE y) (nE x)) (xs.l.map nE) (ag.l.map nA) 2 (fun i => if i < 2 then nP (kid i) else .leaf) = yY 4 n (yO (nE y) (nE x)) (xs.l.map nE) (ag.l.map nA) 2 (fun i => nP (kid i)) := kW (fun i hi => by rw [if_pos hi]); rw [e1, e2]; rfl
theorem Kf (h : qB x = false) (hk : k = 1 \/ k = 3 \/ k = 7 \/ k = 12 \/ k = 13) : zn ts (nP (.mk k n y xs ag A m cap kid)) (nE x) = xG (nE x) (nP (.mk k n y xs ag A m cap kid)) := by
 show zn ts (yY k n (nE y) (xs.l.map nE) (ag.l.map nA) m (fun i => nP (kid i))) (nE x) = _
 conv => lhs; unfold yY zn
 rw [Xy, if_neg (by simp [h]), if_neg (by omega), if_neg (by omega), if_neg (by omega), if_neg (by omega), if_neg (by omega)]; rfl
end
end Go.Proofs.YtcaedcpjdmlilaaGreat

