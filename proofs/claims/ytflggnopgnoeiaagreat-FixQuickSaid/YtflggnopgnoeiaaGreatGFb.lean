/- Parts of a proof. No condition. -/
import Derived.Test.YtflggnopgnoeiaaGreatGFa
set_option linter.unusedSimpArgs false
set_option linter.unusedVariables false
namespace Go.Proofs.YtflggnopgnoeiaaGreat
open Go.RowKit Go.Calm
def xh (z : List Z) : Prop := ∀ y ∈ z, 0 < y.2
def LeZ (a b : List Z) : Prop := ∀ u, 0 < zW a u -> 0 < zW b u
def MM (a b : List Z) : Prop := xh a /\ xh b /\ LeZ a b
theorem yv {f : List V -> Int} (hf : ∀ r, 0 <= f r) : ∀ {z : List Z}, xh z -> 0 <= yn f z /\ (0 < yn f z -> ∃ y ∈ z, 0 < f y.1) /\ ((∃ y ∈ z, 0 < f y.1) -> 0 < yn f z)
 | [], _ => ⟨Int.le_refl _, fun h => absurd h (by simp [yn]), fun ⟨y, hy, _⟩ => by simp at hy⟩
 | x :: z, h => by
  obtain ⟨h1, h2, h3⟩ := yv hf (fun y hy => h y (List.mem_cons_of_mem _ hy) : xh z); have hx := h x (List.mem_cons_self ..); have h0 : 0 <= x.2 * f x.1 := Int.mul_nonneg uX_ (hf _); refine ⟨by simp only [yn]; omega, fun h4 => ?_, fun ⟨y, hy, hp⟩ => ?_⟩
  ·simp only [yn] at h4; rcases Int.lt_or_le 0 (yn f z) with h5 | h5
   ·obtain ⟨y, hy, hp⟩ := h2 h5; exact ⟨y, List.mem_cons_of_mem _ hy, hp⟩
   ·refine ⟨x, List.mem_cons_self .., ?_⟩; rcases Int.lt_or_le 0 (f x.1) with h6 | h6
    ·exact h6
    ·have h7 : f x.1 = 0 := by have := hf x.1; omega
     rw [h7] at h4; simp at h4; omega
  ·simp only [yn]; rcases List.mem_cons.1 hy with rfl | hy
   ·have := Int.mul_pos hx hp; omega
   ·have := h3 ⟨y, hy, hp⟩; omega
theorem Jc (u r : List V) : 0 <= Q6 u r := by unfold Q6; split <;> decide
theorem yz {z : List Z} (h : xh z) (u : List V) : 0 <= zW z u /\ (0 < zW z u ↔ ∃ y ∈ z, zd y.1 = zd u) := by
 rw [zaC]; obtain ⟨h1, h2, h3⟩ := yv (Jc u) h; refine ⟨h1, fun h4 => ?_, fun ⟨y, hy, e⟩ => h3 ⟨y, hy, by unfold Q6; rw [if_pos e]; decide⟩⟩; obtain ⟨y, hy, hp⟩ := h2 h4; refine ⟨y, hy, ?_⟩; unfold Q6 at hp; split at hp
 ·assumption
 ·omega
theorem MM.like {a b : List Z} (h : MM a b) {y : Z} (hy : y ∈ a) : ∃ y' ∈ b, zd y'.1 = zd y.1 := (yz h.2.1 y.1).2.1 (h.2.2 y.1 ((yz h.1 y.1).2.2 ⟨y, hy, rfl⟩))
theorem qL {s : List Z} (hc : yA s) (h : ∀ u, 0 <= zW s u) : xh s := fun y hy => by
 have h1 := xj hc y hy; have h2 := hc.w y hy; have h3 := h y.1; omega
theorem PU {a b s t : List Z} (cs : yA s) (ct : yA t) (h1 : ∀ u, 0 <= zW s u) (h2 : ∀ u, 0 <= zW t u) (h3 : ∀ u, 0 < zW s u -> 0 < zW t u) : MM s t := ⟨qL cs h1, qL ct h2, h3⟩
theorem JO (x : E) (u r : List V) : 0 <= jR x u r := by unfold jR; split; exact Jc u r; decide
theorem Uz {a b c d : List V} (h1 : zd a = zd b) (h2 : zd c = zd d) : zd (a ++ c) = zd (b ++ d) := by
 unfold zd at h1 h2 ⊢; rw [List.map_append, List.map_append, h1, h2]
theorem UZ {c : List Int} {x : E} {a b s t : List Z} (h : MM a b) (h1 : xE c x a = (s, 0)) (h2 : xE c x b = (t, 0)) : MM s t := by
 obtain ⟨_, _, c1, _, w1⟩ := LH h1; obtain ⟨_, _, c2, _, w2⟩ := LH h2; refine PU (a := a) (b := b) c1 c2 (fun u => ?_) (fun u => ?_) (fun u hu => ?_)
 ·rw [w1]; split; exact (yz h.1 u).1; decide
 ·rw [w2]; split; exact (yz h.2.1 u).1; decide
 ·rw [w1] at hu; rw [w2]; split at hu
  ·rename_i hh; rw [if_pos hh]; exact h.2.2 u hu
  ·omega
theorem zbe {c : List Int} {es : List E} {a b s t : List Z} (h : MM a b) (h1 : Xc c es a = (s, 0)) (h2 : Xc c es b = (t, 0)) : MM s t := by
 obtain ⟨c1, _, w1⟩ := TO h1; obtain ⟨c2, _, w2⟩ := TO h2; have nn : ∀ u r, 0 <= Vn es u r := fun u r => Jc u _
 refine PU (a := a) (b := b) c1 c2 (fun u => ?_) (fun u => ?_) (fun u hu => ?_)
 ·rw [w1]; exact (yv (nn u) h.1).1
 ·rw [w2]; exact (yv (nn u) h.2.1).1
 ·rw [w1] at hu; rw [w2]; obtain ⟨y, hy, hp⟩ := (yv (nn u) h.1).2.1 hu; obtain ⟨y', hy', e⟩ := h.like hy; exact (yv (nn u) h.2.1).2.2 ⟨y', hy', by rw [Mg es u _ _ e]; exact hp⟩
theorem GJ {l r : List Int} {x : E} {a b a' b' s t : List Z} (h : MM a a') (hb : MM b b') (h1 : qy l r x a b = (s, 0)) (h2 : qy l r x a' b' = (t, 0)) : MM s t := by
 obtain ⟨_, c1, _, w1⟩ := Nq h1; obtain ⟨_, c2, _, w2⟩ := Nq h2; have nn : ∀ (u p q : List V), 0 <= jR x u (p ++ q) := fun u p q => JO x u _
 have n1 : ∀ u p, 0 <= yn (fun q => jR x u (p ++ q)) b := fun u p => (yv (nn u p) hb.1).1
 have n2 : ∀ u p, 0 <= yn (fun q => jR x u (p ++ q)) b' := fun u p => (yv (nn u p) hb.2.1).1
 refine PU (a := a) (b := a') c1 c2 (fun u => ?_) (fun u => ?_) (fun u hu => ?_)
 ·rw [w1]; exact (yv (n1 u) h.1).1
 ·rw [w2]; exact (yv (n2 u) h.2.1).1
 ·rw [w1] at hu; rw [w2]; obtain ⟨p, hp, hp2⟩ := (yv (n1 u) h.1).2.1 hu; obtain ⟨q, hq, hq2⟩ := (yv (nn u p.1) hb.1).2.1 hp2; obtain ⟨p', hp', e1⟩ := h.like hp; obtain ⟨q', hq', e2⟩ := hb.like hq; refine (yv (n2 u) h.2.1).2.2 ⟨p', hp', (yv (nn u p'.1) hb.2.1).2.2 ⟨q', hq', ?_⟩⟩; rw [Zx x u _ _ (Uz e1 e2)]; exact hq2
theorem zaW {a b a' b' s t : List Z} (h : MM a a') (hb : MM b b') (h1 : xf a b 1 = (s, 0)) (h2 : xf a' b' 1 = (t, 0)) : MM s t := by
 obtain ⟨_, _, c1, _, w1⟩ := YM h1; obtain ⟨_, _, c2, _, w2⟩ := YM h2; have p1 := fun u => (yz h.1 u).1
 have p2 := fun u => (yz hb.1 u).1
 have p3 := fun u => (yz h.2.1 u).1
 have p4 := fun u => (yz hb.2.1 u).1
 refine PU (a := a) (b := a') c1 c2 (fun u => ?_) (fun u => ?_) (fun u hu => ?_)
 ·rw [w1]; have := p1 u; have := p2 u; omega
 ·rw [w2]; have := p3 u; have := p4 u; omega
 ·rw [w1] at hu; rw [w2]; have q3 := p3 u; have q4 := p4 u; rcases Int.lt_or_le 0 (zW a u) with h5 | h5
  ·have := h.2.2 u h5; omega
  ·have := hb.2.2 u uX_; omega
theorem Tz {f : Int -> Int} {a a' s t : List Z} (f0 : f 0 = 0) (fb : ∀ n, -1000000 <= n -> n <= 1000000 -> -1000000 <= f n /\ f n <= 1000000) (fn : ∀ n, 0 <= f n) (fp : ∀ n, 0 < f n ↔ 0 < n) (h : LeZ a a') (h1 : ye f a = (s, 0)) (h2 : ye f a' = (t, 0)) : MM s t := by
 obtain ⟨d, e1, c1, _, w1⟩ := Qb (SM.of (YP h1)) f0 fb uX_ uX_; obtain ⟨d', e2, c2, _, w2⟩ := Qb (SM.of (YP h2)) f0 fb uX_ uX_; rw [h1] at e1; rw [h2] at e2; obtain rfl := (Prod.mk.inj e1).1; obtain rfl := (Prod.mk.inj e2).1; refine PU (a := a) (b := a') c1 c2 (fun u => by rw [w1]; exact fn _) (fun u => by rw [w2]; exact fn _) (fun u hu => ?_); rw [w1] at hu; rw [w2]; exact (fp _).2 (h u ((fp _).1 hu))
theorem za2 {a a' s t : List Z} (h : LeZ a a') (h1 : ye yM a = (s, 0)) (h2 : ye yM a' = (t, 0)) : MM s t := Tz rfl (fun n _ _ => by unfold yM; split <;> omega) (fun n => by unfold yM; split <;> omega) (fun n => by unfold yM; split <;> omega) h h1 h2
theorem zbC {a a' s t : List Z} (h : LeZ a a') (h1 : ye xy a = (s, 0)) (h2 : ye xy a' = (t, 0)) : MM s t := Tz rfl (fun n _ _ => by unfold xy; split <;> omega) (fun n => by unfold xy; split <;> omega) (fun n => by unfold xy; split <;> omega) h h1 h2
theorem D1.pos {z : List Z} (h : D1 z) : xh z := fun y hy => by rw [h.one hy]; decide
theorem Xw (z : List Z) {r q : List V} (h : zd r = zd q) : zW z r = zW z q := by unfold zW; rw [h]
