/-
 A text of the proof of the law QueryAlgebra; no condition beside the row's own.
-/
import Derived.Test.YtifpomonpneanaaGreatHLawQ0
namespace Go.Proofs.YtifpomonpneanaaGreat
open Go.RowKit Go.Calm
set_option linter.unusedSimpArgs false
set_option linter.unusedVariables false
abbrev stq6 (w : World) (g : Nat) (x : E) : World := (((((w.setCell ⟨g, 2, none⟩ (.int .i64 x.kind)).setCell ⟨g, 3, none⟩ (.int .i64 x.v.k)).setCell ⟨g, 4, none⟩ (.int .i64 x.v.n)).setCell ⟨g, 5, none⟩ (.string x.v.s)).setCell ⟨g, 6, none⟩ (.int .i64 x.col)).setCell ⟨g, 7, none⟩ (.slice x.A x.n x.cap)
theorem stq6_blk {w : World} {g : Nat} {t : TypeId} {k : Int} {y x : E} {A : Option Addr} {c : Nat} {p q : PL} (h : Blk w g t (pC (nod2 k y A c p q))) : Blk (stq6 w g x) g t (pC (nod2 k x A c p q)) := by
 have h2 := (((((h.set 2 (.int .i64 x.kind)).set 3 (.int .i64 x.v.k)).set 4 (.int .i64 x.v.n)).set 5 (.string x.v.s)).set 6 (.int .i64 x.col)).set 7 (.slice x.A x.n x.cap)
 simp only [List.setIfInBounds_toArray, List.set_cons_zero, List.set_cons_succ] at h2
 exact h2
theorem stq6_oth {w : World} {g h : Nat} {t : TypeId} {cs : Array Value} {x : E} (hb : Blk w g t cs) (hn : h ≠ g) : Blk (stq6 w h x) g t cs := Blk.other (Blk.other (Blk.other (Blk.other (Blk.other (Blk.other hb hn _ _) hn _ _) hn _ _) hn _ _) hn _ _) hn _ _
theorem stq6_grow {w0 w : World} {g : Nat} {x : E} (hg : Grow w0 w) (h : w0.heap.size ≤ g) : Grow w0 (stq6 w g x) := Grow.set (Grow.set (Grow.set (Grow.set (Grow.set (Grow.set hg h _) h _) h _) h _) h _) h _
def Is (p r : PL) : Prop := r = p
def N1 (k : Int) (S : PL → Prop) (r : PL) : Prop := ∃ A c a, S a ∧ r = nod1 k A c a
def N2 (k : Int) (x : E) (S T : PL → Prop) (r : PL) : Prop := ∃ A c a b, S a ∧ T b ∧ r = nod2 k x A c a b
def QPv (S : PL → Prop) (v : Value) (W : World) : Prop := ∃ r : PL, S r ∧ v = r.val ∧ PX W r
def QS1 (S : PL → Prop) (v : Value) (W : World) : Prop := ∃ (r : PL) (g : Nat), S r ∧ PX W r ∧ v = .slice (some ⟨g, 0, none⟩) 1 1 ∧ Blk W g 31 (pC r)
def QS2 (S T : PL → Prop) (v : Value) (W : World) : Prop := ∃ (r s : PL) (g : Nat), S r ∧ T s ∧ PX W r ∧ PX W s ∧ v = .slice (some ⟨g, 0, none⟩) 2 2 ∧ Blk W g 31 (pC2 r s)
def QAl (lo : Nat) (v : Value) (W : World) : Prop := ∃ g : Nat, v = .pointer (some ⟨g, 0, none⟩) ∧ lo ≤ g ∧ Blk W g 31 #[.int .i64 0, .int .i64 0, .int .i64 0, .int .i64 0, .int .i64 0, .string ⟨#[]⟩, .int .i64 0, .slice none 0 0, .slice none 0 0, .slice none 0 0, .slice none 0 0]
def QK2 (p q : PL) (v : Value) (W : World) : Prop := ∃ g : Nat, v = .slice (some ⟨g, 0, none⟩) 2 2 ∧ Blk W g 31 (pC2 p q)
def QPk (k : Int) (p q : PL) (v : Value) (W : World) : Prop := ∃ g : Nat, v = (nod2 k .leaf (some ⟨g, 0, none⟩) 2 p q).val ∧ Blk W g 31 (pC2 p q)
theorem QK2.pers (p q : PL) : Pers (QK2 p q) := fun v w w' hg ⟨g, e, hb⟩ => ⟨g, e, hb.grow hg⟩
theorem QPk.pers (k : Int) (p q : PL) : Pers (QPk k p q) := fun v w w' hg ⟨g, e, hb⟩ => ⟨g, e, hb.grow hg⟩
theorem blk_ne_size {w : World} {g h : Nat} {t u : TypeId} {cs ds : Array Value} (h1 : Blk w g t cs) (h2 : Blk w h u ds) (hs : cs.size ≠ ds.size) : h ≠ g := fun e => by
 subst e
 unfold Blk at h1 h2
 rw [h1] at h2
 simp at h2
 exact hs (by rw [h2.1])
theorem px_two' {w : World} {k n : Int} {x : E} {xs : XsS} {ag : AgS} {g : Nat} {t : TypeId} {p q : PL} (cap : Nat) (h : Blk w g t (pC2 p q)) (hn : NX w k n x xs ag) (hp : PX w p) (hq : PX w q) : PX w (.mk k n x xs ag (some ⟨g, 0, none⟩) 2 cap (fun i => if i = 0 then p else q)) := px_two cap h hn hp hq
theorem QPv.pers (S : PL → Prop) : Pers (QPv S) := fun v w w' hg ⟨r, h, e, hp⟩ => ⟨r, h, e, hp.grow hg⟩
theorem QS1.pers (S : PL → Prop) : Pers (QS1 S) := fun v w w' hg ⟨r, g, h, hp, e, hb⟩ => ⟨r, g, h, hp.grow hg, e, hb.grow hg⟩
theorem QS2.pers (S T : PL → Prop) : Pers (QS2 S T) := fun v w w' hg ⟨r, s, g, h, h2, hp, hq, e, hb⟩ => ⟨r, s, g, h, h2, hp.grow hg, hq.grow hg, e, hb.grow hg⟩
theorem QAl.pers (lo : Nat) : Pers (QAl lo) := fun v w w' hg ⟨g, e, h, hb⟩ => ⟨g, e, h, hb.grow hg⟩
theorem px_n1 {k : Int} (hk : inI64 k) {w w' : World} {g : Nat} {r : PL} (h : Blk w g 31 (pC r)) (hr : PX w r) (hg : Grow w w') : PX w' (nod1 k (some ⟨g, 0, none⟩) 1 r) := (px_one 1 h (nx_zero hk) hr).grow hg
theorem px_n2 {k : Int} (hk : inI64 k) {w w' : World} {g : Nat} {r s : PL} (h : Blk w g 31 (pC2 r s)) (hr : PX w r) (hs : PX w s) (hg : Grow w w') : PX w' (nod2 k .leaf (some ⟨g, 0, none⟩) 2 r s) := (px_two 2 h (nx_zero hk) hr hs).grow hg
section
variable {ts : List (List Int)} {data : List (List Z)} {p q r s : PL} {x : E} {a b : List Z}
theorem qa_add (h1 : N2 8 .leaf (Is p) (Is q) r) (h2 : N2 8 .leaf (Is q) (Is p) s) : evalZ ts r data = (a, 0) → evalZ ts s data = (b, 0) → a = b := by
 obtain ⟨A, c, p1, q1, e1, e2, e3⟩ := h1
 obtain ⟨B, d, q2, p2, e4, e5, e6⟩ := h2
 unfold Is at e1 e2 e4 e5
 subst e1 e2 e4 e5 e3 e6
 exact fun h1 h2 => alg_add h1 h2
theorem qa_sub (h1 : N2 9 .leaf (N2 8 .leaf (Is p) (Is q)) (Is q) r) : evalZ ts r data = (a, 0) → evalZ ts p data = (b, 0) → a = b := by
 obtain ⟨A, c, p1, q1, ⟨B, d, p2, q2, e4, e5, e6⟩, e2, e3⟩ := h1
 unfold Is at e2 e4 e5
 subst e4 e5 e6 e2 e3
 exact fun h1 h2 => alg_sub h1 h2
theorem qa_once (h1 : N1 11 (N1 11 (Is p)) r) (h2 : N1 11 (Is p) s) : evalZ ts r data = (a, 0) → evalZ ts s data = (b, 0) → a = b := by
 obtain ⟨A, c, p1, ⟨B, d, p2, e4, e6⟩, e3⟩ := h1
 obtain ⟨C, e, p3, e7, e8⟩ := h2
 unfold Is at e4 e7
 subst e4 e6 e3 e7 e8
 exact fun h1 h2 => alg_once h1 h2
theorem qa_pos (h1 : N1 11 (N1 10 (Is p)) r) (h2 : N1 11 (Is p) s) : evalZ ts r data = (a, 0) → evalZ ts s data = (b, 0) → a = b := by
 obtain ⟨A, c, p1, ⟨B, d, p2, e4, e6⟩, e3⟩ := h1
 obtain ⟨C, e, p3, e7, e8⟩ := h2
 unfold Is at e4 e7
 subst e4 e6 e3 e7 e8
 exact fun h1 h2 => alg_pos h1 h2
theorem qa_part (h1 : N2 8 .leaf (N2 5 x (Is p) (Is q)) (N2 6 x (Is p) (Is q)) r) : evalZ ts r data = (a, 0) → evalZ ts p data = (b, 0) → a = b := by
 obtain ⟨A, c, p1, q1, ⟨B, d, p2, q2, e4, e5, e6⟩, ⟨C, e, p3, q3, e7, e8, e9⟩, e3⟩ := h1
 unfold Is at e4 e5 e7 e8
 subst e4 e5 e6 e7 e8 e9 e3
 exact fun h1 h2 => alg_part h1 h2
end
end Go.Proofs.YtifpomonpneanaaGreat
