/-
  Joined texts of this claim: Tt0, Tt1, Tt2, Tt3. What each proves its own head says; no condition beside those that each theorem names.
-/
import Derived.Test.YtigpbihjjadmlaaGH
import Derived.Shelf.SlicesQ.Reverse
import Derived.Test.YtigpbihjjadmlaaGS
namespace Go.Proofs.Ytigpbihjjadmlaa
open Go.RowKit Go.Calm
set_option linter.unusedSimpArgs false
set_option linter.unusedVariables false

def DBx (w : World) (g : Nat) (xs : List I) : Prop := ∃ rest : List Value, Blk w g 51 (flatI xs ++ rest).toArray
theorem DBx.lt {w : World} {g : Nat} {xs : List I} (h : DBx w g xs) : g < w.heap.size := by
  obtain ⟨r, h⟩ := h
  exact Blk.lt h
theorem DBx.at {w : World} {g : Nat} {xs : List I} (h : DBx w g xs) {i : Nat} {x : I} (hx : xs[i]? = some x) : w.cell? ⟨g, i * 2, none⟩ = some (.slice x.A x.row.length x.cap) ∧ w.cell? ⟨g, i * 2 + 1, none⟩ = some (.int .i64 x.w) := by
  obtain ⟨r, h⟩ := h
  obtain ⟨a, b⟩ := flatI_get xs i x hx
  have la := (List.getElem?_eq_some_iff.1 a).1
  have lb := (List.getElem?_eq_some_iff.1 b).1
  rw [Blk.cell h, Blk.cell h]
  rw [List.getElem?_toArray, List.getElem?_toArray, List.getElem?_append_left la, List.getElem?_append_left lb]
  exact ⟨a, b⟩
theorem DBx.frozen {w : World} {g : Nat} {xs : List I} (h : DBx w g xs) (i : Nat) : w.frozen? ⟨g, i, none⟩ = false := by
  obtain ⟨r, h⟩ := h
  exact Blk.frozen h i
theorem DBx.grow {w w' : World} {g : Nat} {xs : List I} (h : DBx w g xs) (hg : Grow w w') : DBx w' g xs := by
  obtain ⟨r, h⟩ := h
  exact ⟨r, Blk.grow h hg⟩
theorem DBx.drew {w : World} {g : Nat} {xs : List I} (h : DBx w g xs) : DBx w.drew g xs := h
theorem DBx.put {w : World} {g : Nat} {xs : List I} (h : DBx w g xs) {i : Nat} (hi : i < xs.length) (y : I) : DBx ((w.setCell ⟨g, i * 2, none⟩ (.slice y.A y.row.length y.cap)).setCell ⟨g, i * 2 + 1, none⟩ (.int .i64 y.w)) g (xs.set i y) := by
  obtain ⟨r, h⟩ := h
  have hb := ((Blk.set h (i * 2) (.slice y.A y.row.length y.cap)).set (i * 2 + 1) (.int .i64 y.w))
  refine ⟨r, ?_⟩
  rw [← flatI_set xs i y hi]
  have l1 : i * 2 < (flatI xs).length := by rw [flatI_len]; omega
  have l2 : i * 2 + 1 < ((flatI xs).set (i * 2) (.slice y.A y.row.length y.cap)).length := by rw [List.length_set, flatI_len]; omega
  simp only [List.setIfInBounds_toArray, List.set_append_left _ _ l1, List.set_append_left _ _ l2] at hb
  exact hb
end Go.Proofs.Ytigpbihjjadmlaa

namespace Go.Proofs.Ytigpbihjjadmlaa
open Go.RowKit Go.Calm
set_option linter.unusedSimpArgs false
set_option linter.unusedVariables false

end Go.Proofs.Ytigpbihjjadmlaa

namespace Go.Proofs.Ytigpbihjjadmlaa
open Go.RowKit Go.Calm
set_option linter.unusedSimpArgs false
set_option linter.unusedVariables false

end Go.Proofs.Ytigpbihjjadmlaa

namespace Go.Proofs.Ytigpbihjjadmlaa
open Go.RowKit Go.Calm
set_option linter.unusedSimpArgs false
set_option linter.unusedVariables false

structure KS where
  es : List E
  A : Option Addr
  c : Nat
  gk : Nat
def keyT (K : KS) (x : I) : List V := K.es.map (ofE x.row)
structure GoodT (K : KS) (g : Nat) (w0 : World) (x : I) : Prop where
  sl : ∀ W, GX g w0 W → VSl W x.A x.row
  ks : ∀ W, GX g w0 W → Blk W K.gk 25 #[.slice K.A K.es.length K.c] ∧ ESl W K.A K.es
  len : x.row.length ≤ 9223372036854775807
  kl : K.es.length ≤ 1000
  rv : ∀ v ∈ x.row, RV v
  re : ∀ e ∈ K.es, RE x.row.length e
theorem GoodT.kv {K : KS} {g : Nat} {w0 : World} {x : I} (h : GoodT K g w0 x) : ∀ v ∈ keyT K x, RV v := fun v hv => by
  obtain ⟨e, he, rfl⟩ := List.mem_map.1 hv
  exact rv_of x.row h.rv e (h.re e he)
theorem rows_tr (a b c : List V) : (rowsG ordV a b ≤ 0 → rowsG ordV b c ≤ 0 → rowsG ordV a c ≤ 0) ∧ (rowsG ordV a b ≤ 0 → rowsG ordV b c ≤ 0 → rowsG ordV a c = 0 → rowsG ordV a b = 0 ∧ rowsG ordV b c = 0) := by
  have t1 := rowsG_trans' a b c
  have t2 := rowsG_trans' c a b
  have t3 := rowsG_trans' b c a
  have s1 := rowsG_swap ordV ordV_swap a b
  have s2 := rowsG_swap ordV ordV_swap b c
  have s3 := rowsG_swap ordV ordV_swap a c
  refine ⟨t1, fun h1 h2 h3 => ?_⟩
  omega
theorem own_vs2 {w : World} {base cap n : Nat} {B : Option Addr} {ys : List V} (hn : ys.length = n) (h : w.ownsRow base 24 3 (.slice B n cap) n (flatW ys)) : VSl w B ys := by
  rw [← hn] at h
  obtain ⟨B', c', e, hv⟩ := own_vsl h
  simp at e
  rw [e.1]; exact hv
end Go.Proofs.Ytigpbihjjadmlaa
