/- Parts of a proof. No condition. -/
import Derived.Test.YtflggnopgnoeiaaGreatGTc
import Derived.Test.YtflggnopgnoeiaaGreatGZb
set_option maxRecDepth 100000
set_option linter.unusedSimpArgs false
set_option linter.unusedVariables false
namespace Go
variable {p : Prop}
theorem yi_ (h : p := by
 obtain rfl : i = j := by omega
 rw [hx] at hu; cases hu; exact Int.le_of_eq (Lu _ _)) : p := h
end Go
namespace Go.Proofs.YtflggnopgnoeiaaGreat
open Go.RowKit Go.Calm
structure Zf (w : World) (g : Nat) (wr : World) (t : Value) (l : List Z) : Prop where
 sl : ∃ (B : Option Addr) (ys : List I) (cap : Nat), t = .slice B ys.length cap /\ xe wr B ys /\ ys.map zh = yE l /\ yf B ys.length cap /\ N3 g B /\ ∀ y ∈ ys, N3 g y.A
 grow : za w wr
 pl : F5 l
theorem Zf.nil (w : World) (g : Nat) (wr : World) (hg : za w wr) : Zf w g wr (.slice none 0 0) [] := ⟨⟨none, [], 0, rfl, zX _ _, rfl, yf.nil, fun a h => (by cases h), fun y hy => by simp at hy⟩, hg, F5.nil⟩
theorem Zf.more {w : World} {g : Nat} {wr wq : World} {t : Value} {l : List Z} (h : Zf w g wr t l) (hg : za wr wq) : Zf w g wq t l := by
 obtain ⟨⟨B, ys, cap, h1, h2, h3, h4, h7, h8⟩, h5, h6⟩ := h; exact ⟨⟨B, ys, cap, h1, h2.grow hg, h3, h4, h7, h8⟩, h5.trans hg, h6⟩
theorem zbQ {g : Nat} {w w' : World} {A : Option Addr} {xs : List V} (hx : xi w A xs) (hA : N3 g A) (hg : GX g w w') : xi w' A xs := fun i x hi => by
 obtain ⟨g', o', e, a, b, c⟩ := hx i x hi; have hne : g' ≠ g := hA _ e; exact ⟨g', o', e, World.grownBy.cell hg a us_, World.grownBy.cell hg b us_, World.grownBy.cell hg c us_⟩
theorem zbT {g : Nat} {w w' : World} {A : Option Addr} {ys : List I} (hz : xe w A ys) (hA : N3 g A) (hr : ∀ y ∈ ys, N3 g y.A) (hg : GX g w w') : xe w' A ys := fun i x hx => by
 obtain ⟨g', o', e, a, b, c⟩ := hz i x hx; have hne : g' ≠ g := hA _ e; exact ⟨g', o', e, World.grownBy.cell hg a us_, World.grownBy.cell hg b us_, zbQ c (hr x (qZ_ hx)) hg⟩
theorem Zf.gx {w : World} {g : Nat} {wr wq : World} {t : Value} {l : List Z} (h : Zf w g wr t l) (hg : GX g wr wq) (hb : w.heap.size <= g) : Zf w g wq t l := by
 obtain ⟨⟨B, ys, cap, h1, h2, h3, h4, h7, h8⟩, h5, h6⟩ := h; exact ⟨⟨B, ys, cap, h1, zbT h2 h7 h8 hg, h3, h4, h7, h8⟩, GX.base h5 hb hg, h6⟩
theorem Zf.slice {w : World} {g : Nat} {wr : World} {t : Value} {l : List Z} (h : Zf w g wr t l) : ∃ (B : Option Addr) (n cap : Nat), t = .slice B n cap := yu_
def Ll (xs R : List I) : Prop := R.map (fun x => (x.A, x.row, x.cap)) = xs.map (fun x => (x.A, x.row, x.cap)) /\ ∀ x ∈ R, -1000000 <= x.w /\ x.w <= 1000000
theorem Ll.len {xs R : List I} (h : Ll xs R) : R.length = xs.length := by
 have := congrArg List.length h.1; simpa using this
theorem Ll.mem {xs R : List I} (h : Ll xs R) {x : I} (hx : x ∈ R) : ∃ y ∈ xs, y.A = x.A /\ y.row = x.row /\ y.cap = x.cap := by
 have h1 : (x.A, x.row, x.cap) ∈ R.map (fun x => (x.A, x.row, x.cap)) := qZ9 (f := fun x : I => (x.A, x.row, x.cap)) hx; rw [h.1] at h1; obtain ⟨y, hy, e⟩ := List.mem_map.1 h1; simp only [Prod.mk.injEq] at e; exact ⟨y, hy, e⟩
theorem Ll.up {xs R : List I} (h : Ll xs R) (hu : (xs.map zh).Pairwise (fun a b => zK a.1 b.1 < 0)) : (R.map zh).Pairwise (fun a b => zK a.1 b.1 < 0) := by
 rw [List.pairwise_map] at hu ⊢; have h1 : (xs.map (fun x => (x.A, x.row, x.cap))).Pairwise (fun a b => zK a.2.1 b.2.1 < 0) := by rw [List.pairwise_map]; exact hu
 rw [<- h.1, List.pairwise_map] at h1; exact h1
def ZU (es : List E) (R : List I) (j : Nat) (b : Value) : Prop := (b = .int .i64 (-1) /\ ∀ (i : Nat) (x : I), i < j -> R[i]? = some x -> x.w <= 0) \/ ∃ (m : Nat) (y : I), m < j /\ b = .int .i64 (m : Int) /\ R[m]? = some y /\ 0 < y.w /\ ∀ (i : Nat) (x : I), i < j -> R[i]? = some x -> 0 < x.w -> kZ es (zh y) (zh x) <= 0
theorem ZU.skip {es : List E} {R : List I} {j : Nat} {b : Value} {x : I} (h : ZU es R j b) (hx : R[j]? = some x) (hw : x.w <= 0) : ZU es R (j + 1) b := by
 rcases h with ⟨h1, h2⟩ | ⟨m, y, h1, h2, h3, h4, h5⟩
 ·refine .inl ⟨h1, fun i u hi hu => ?_⟩; rcases Nat.lt_or_ge i j with h | h
  ·exact h2 i u h hu
  ·obtain rfl : i = j := by omega
   rw [hx] at hu; cases hu; exact hw
 ·refine .inr ⟨m, y, by omega, h2, h3, h4, fun i u hi hu hp => ?_⟩; rcases Nat.lt_or_ge i j with h | h
  ·exact h5 i u h hu hp
  ·obtain rfl : i = j := by omega
   rw [hx] at hu; cases hu; omega
theorem Lu (es : List E) (a : Z) : kZ es a a = 0 := by
 have := QL es a a; omega
theorem ZU.first {es : List E} {R : List I} {j : Nat} {x : I} (h : ∀ (i : Nat) (x : I), i < j -> R[i]? = some x -> x.w <= 0) (hx : R[j]? = some x) (hw : 0 < x.w) : ZU es R (j + 1) (.int .i64 (j : Int)) := by
 refine .inr ⟨j, x, by omega, rfl, hx, hw, fun i u hi hu hp => ?_⟩; rcases Nat.lt_or_ge i j with h1 | h1
 ·have := h i u h1 hu; omega
 ·exact yi_
theorem ZU.take {es : List E} {R : List I} {j m : Nat} {x y : I} (h5 : ∀ (i : Nat) (x : I), i < j -> R[i]? = some x -> 0 < x.w -> kZ es (zh y) (zh x) <= 0) (hx : R[j]? = some x) (hw : 0 < x.w) (hc : zv zO (es.map (yu x.row)) (es.map (yu y.row)) < 0) : ZU es R (j + 1) (.int .i64 (j : Int)) := by
 have h0 : kZ es (zh x) (zh y) <= 0 := by
  show (if zv zO (es.map (yu x.row)) (es.map (yu y.row)) ≠ 0 then zv zO (es.map (yu x.row)) (es.map (yu y.row)) else zv zO x.row y.row) <= 0; rw [if_pos uX_]; omega
 refine .inr ⟨j, x, by omega, rfl, hx, hw, fun i u hi hu hp => ?_⟩; rcases Nat.lt_or_ge i j with h1 | h1
 ·exact Jt es _ _ _ h0 (h5 i u h1 hu hp)
 ·exact yi_
theorem ZU.keep {es : List E} {R : List I} {j m : Nat} {x y : I} (hu : (R.map zh).Pairwise (fun a b => zK a.1 b.1 < 0)) (hm : m < j) (hy : R[m]? = some y) (hyw : 0 < y.w) (h5 : ∀ (i : Nat) (x : I), i < j -> R[i]? = some x -> 0 < x.w -> kZ es (zh y) (zh x) <= 0) (hx : R[j]? = some x) (hc : ¬ zv zO (es.map (yu x.row)) (es.map (yu y.row)) < 0) : ZU es R (j + 1) (.int .i64 (m : Int)) := by
 have hxy : zK y.row x.row < 0 := by
  obtain ⟨h1, e1⟩ := qQ9.1 hy; obtain ⟨h2, e2⟩ := qQ9.1 hx; have := List.pairwise_iff_getElem.1 hu m j uB_ uE_ hm; rw [List.getElem_map, List.getElem_map, e1, e2] at this; exact this
 have h0 : kZ es (zh y) (zh x) <= 0 := by
  have sw := yo zO yq (es.map (yu x.row)) (es.map (yu y.row)); show (if zv zO (es.map (yu y.row)) (es.map (yu x.row)) ≠ 0 then zv zO (es.map (yu y.row)) (es.map (yu x.row)) else zv zO y.row x.row) <= 0; split
  ·omega
  ·unfold zK at hxy; omega
 refine .inr ⟨m, y, by omega, rfl, hy, hyw, fun i u hi hu hp => ?_⟩; rcases Nat.lt_or_ge i j with h1 | h1
 ·exact h5 i u h1 hu hp
 ·obtain rfl : i = j := by omega
  rw [hx] at hu; cases hu; exact h0
