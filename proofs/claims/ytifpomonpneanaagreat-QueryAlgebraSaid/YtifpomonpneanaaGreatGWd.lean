/-
 Joined texts of this claim: Nf, RwA, RwB0. What each proves its own head says; no condition beside those that each theorem names.
-/
import Derived.Test.YtifpomonpneanaaGreatGWc
namespace Go.Proofs.YtifpomonpneanaaGreat
open Go.RowKit Go.Calm
set_option linter.unusedSimpArgs false
set_option linter.unusedVariables false
section
variable {ts : List (List Int)}
def NF (ts : List (List Int)) : PL → Prop
 | .leaf => True
 | .mk k n y xs ag A m cap kid => PL.mk k n y xs ag A m cap kid = mkP k n y xs.l ag.l m kid ∧ (∀ i, i < m → NF ts (kid i)) ∧ (k = 2 → PL.mk k n y xs ag A m cap kid = fltP y (kid 0) ∧ pushP ts (kid 0) y = fltP y (kid 0)) ∧ (k = 10 ∨ k = 11 → (kid 0).k ≠ 10 ∧ (kid 0).k ≠ 11)
end
def KP : PL → Prop
 | .leaf => False
 | .mk k n y xs ag A m cap kid => (m : Int) = kidsP k ∧ ∀ i, i < m → KP (kid i)
def clsP (ts : List (List Int)) : PL → List Int
 | .leaf => []
 | .mk k n x xs ag _ m _ kid => (colT ts k n x xs.l ag.l ((List.range m).map (fun i => clsP ts (kid i)))).1
section
variable {ts : List (List Int)}
theorem kids_cls {f : Nat → Int → List Int × Int × Int} {g : Nat → List Int} (hf : ∀ i m, (f i m).2.1 = 0 → (f i m).1 = g i) : ∀ (r i : Nat) (m : Int) (l : List (List Int)), (kidsGo f r i m l).1 = 0 → (kidsGo f r i m l).2.2 = l ++ (List.range r).map (fun j => g (i + j))
 | 0, i, m, l, _ => by simp [kidsGo]
 | r + 1, i, m, l, h => by
  unfold kidsGo at h ⊢
  split at h
  ·rename_i h0
   rw [if_pos h0, kids_cls hf r (i + 1) _ _ h, hf i m h0, List.range_succ_eq_map, List.map_cons, List.map_map, List.append_assoc]
   congr 1
   simp only [List.singleton_append, Nat.add_zero]
   congr 1
   apply List.map_congr_left
   intro j _
   simp only [Function.comp]
   congr 1
   omega
  ·rename_i h0; exact absurd h h0
theorem colP_cls (p : PL) : ∀ deep m, (colP ts p deep m).2.1 = 0 → (colP ts p deep m).1 = clsP ts p ∧ KP p := by
 induction p with
 | leaf => intro deep m h; unfold colP at h; split at h <;> simp at h
 | mk k n x xs ag A mm cap kid ih =>
  intro deep m
  by_cases h1 : 60 < m + 1 ∨ 15 < deep
  ·unfold colP; rw [if_pos h1]; simp
  ·by_cases h2 : kidsP k < 0
   ·unfold colP; rw [if_neg h1, if_pos h2]; simp
   ·by_cases h3 : (mm : Int) = kidsP k
    ·rw [colP_kids ts k n x xs ag A mm cap kid deep m h1 (by omega) h3]
     unfold colOf
     split
     ·rename_i h0; exact fun h' => absurd h' h0
     ·rename_i h0
      intro _
      have h0 : (kidsGo (fun i m' => colP ts (kid i) (deep + 1) m') mm 0 (m + 1) []).1 = 0 := by simpa using h0
      have e := kids_cls (g := fun i => clsP ts (kid i)) (fun i m' h => (ih i (deep + 1) m' h).1) mm 0 (m + 1) [] h0
      refine ⟨?_, h3, fun i hi => ?_⟩
      ·simp only [e, List.nil_append, Nat.zero_add]
       conv => rhs; unfold clsP
      ·have : ∀ (r j : Nat) (m : Int) (l : List (List Int)), (kidsGo (fun i m' => colP ts (kid i) (deep + 1) m') r j m l).1 = 0 → ∀ i, j ≤ i → i < j + r → KP (kid i) := fun r => by
        induction r with
        | zero => intro j m l _ i h1 h2; omega
        | succ r ihr =>
         intro j m l hz i h1 h2
         unfold kidsGo at hz
         split at hz
         ·rename_i h5
          by_cases hij : i = j
          ·subst hij; exact (ih i _ _ h5).2
          ·exact ihr (j + 1) _ _ hz i (by omega) (by omega)
         ·rename_i h5; exact absurd hz h5
       exact this mm 0 (m + 1) [] h0 i (Nat.zero_le _) (by omega)
    ·unfold colP; rw [if_neg h1, if_neg h2, if_pos h3]; simp
theorem colsE_cls {p : PL} (h : (colsE ts p).2 = 0) : (colsE ts p).1 = clsP ts p ∧ KP p := by
 unfold colsE at h ⊢
 split at h
 ·simp at h
 ·split at h
  ·rename_i h1 h2; simp at h; omega
  ·rename_i h1 h2
   rw [if_neg h1, if_neg h2]
   split at h
   ·rename_i h3; simp at h; omega
   ·rename_i h3
    rw [if_neg h3]
    exact colP_cls p 1 0 (by simpa using h3)
theorem cls_mk (k n : Int) (y : E) (xs : XsS) (ag : AgS) (A : Option Addr) (m cap : Nat) (kid : Nat → PL) : clsP ts (.mk k n y xs ag A m cap kid) = (colT ts k n y xs.l ag.l ((List.range m).map (fun i => clsP ts (kid i)))).1 := by
 conv => lhs; unfold clsP
end
section
variable {ts : List (List Int)}
end
end Go.Proofs.YtifpomonpneanaaGreat
namespace Go.Proofs.YtifpomonpneanaaGreat
open Go.RowKit Go.Calm
set_option linter.unusedSimpArgs false
set_option linter.unusedVariables false
section
variable {ts : List (List Int)} {k n : Int} {y : E} {xs : XsS} {ag : AgS} {A : Option Addr} {m cap : Nat} {kid : Nat → PL}
variable {fk fn : Int} {fy : E} {fxs : XsS} {fag : AgS} {fA : Option Addr} {fm fcap : Nat} {fkid : Nat → PL}
end
end Go.Proofs.YtifpomonpneanaaGreat
