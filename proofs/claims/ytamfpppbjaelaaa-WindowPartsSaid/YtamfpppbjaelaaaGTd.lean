/-
  Joined texts of this claim: Tt0, Tt3, Kv. What each proves its own head says; no condition beside those that each theorem names.
-/
import Derived.Test.YtamfpppbjaelaaaGH
import Derived.Test.YtamfpppbjaelaaaGS
namespace Go.Proofs.Ytamfpppbjaelaaa
open Go.RowKit Go.Calm
set_option linter.unusedSimpArgs false
set_option linter.unusedVariables false
def DBx (w : World) (g : Nat) (xs : List I) : Prop := ∃ rest : List Value, Blk w g 39 (flatI xs ++ rest).toArray
theorem DBx.lt {w : World} {g : Nat} {xs : List I} (h : DBx w g xs) : g < w.heap.size := by
  obtain ⟨r, h⟩ := h
  exact Blk.lt h
theorem DBx.at {w : World} {g : Nat} {xs : List I} (h : DBx w g xs) {i : Nat} {x : I} (hx : xs[i]? = some x) : w.cell? ⟨g, i * 2, none⟩ = some (.slice x.A x.row.length x.cap) ∧ w.cell? ⟨g, i * 2 + 1, none⟩ = some (.int .i64 x.w) := by
  obtain ⟨r, h⟩ := h
  obtain ⟨a, b⟩ := flatI_get xs i x hx
  have la := (List.getElem?_eq_some_iff.1 a).1
  have lb := (List.getElem?_eq_some_iff.1 b).1
  rw [Blk.cell h, Blk.cell h]
  rw [List.getElem?_toArray, List.getElem?_toArray, List.getElem?_append_left la, List.getElem?_append_left lb]
  exact ⟨a, b⟩
theorem DBx.frozen {w : World} {g : Nat} {xs : List I} (h : DBx w g xs) (i : Nat) : w.frozen? ⟨g, i, none⟩ = false := by
  obtain ⟨r, h⟩ := h
  exact Blk.frozen h i
theorem DBx.grow {w w' : World} {g : Nat} {xs : List I} (h : DBx w g xs) (hg : Grow w w') : DBx w' g xs := by
  obtain ⟨r, h⟩ := h
  exact ⟨r, Blk.grow h hg⟩
theorem DBx.drew {w : World} {g : Nat} {xs : List I} (h : DBx w g xs) : DBx w.drew g xs := h
theorem DBx.put {w : World} {g : Nat} {xs : List I} (h : DBx w g xs) {i : Nat} (hi : i < xs.length) (y : I) : DBx ((w.setCell ⟨g, i * 2, none⟩ (.slice y.A y.row.length y.cap)).setCell ⟨g, i * 2 + 1, none⟩ (.int .i64 y.w)) g (xs.set i y) := by
  obtain ⟨r, h⟩ := h
  have hb := ((Blk.set h (i * 2) (.slice y.A y.row.length y.cap)).set (i * 2 + 1) (.int .i64 y.w))
  refine ⟨r, ?_⟩
  rw [← flatI_set xs i y hi]
  have l1 : i * 2 < (flatI xs).length := by rw [flatI_len]; omega
  have l2 : i * 2 + 1 < ((flatI xs).set (i * 2) (.slice y.A y.row.length y.cap)).length := by rw [List.length_set, flatI_len]; omega
  simp only [List.setIfInBounds_toArray, List.set_append_left _ _ l1, List.set_append_left _ _ l2] at hb
  exact hb
structure KS where
  es : List E
  A : Option Addr
  c : Nat
  gk : Nat
def keyT (K : KS) (x : I) : List V := K.es.map (ofE x.row)
def tg (x y : I) : Prop := ordR x.row y.row < 0
structure GoodT (K : KS) (g : Nat) (w0 : World) (x : I) : Prop where
  sl : ∀ W, GX g w0 W → VSl W x.A x.row
  ks : ∀ W, GX g w0 W → Blk W K.gk 23 #[.slice K.A K.es.length K.c] ∧ ESl W K.A K.es
  len : x.row.length ≤ 9223372036854775807
  kl : K.es.length ≤ 1000
  rv : ∀ v ∈ x.row, RV v
  re : ∀ e ∈ K.es, RE x.row.length e
theorem GoodT.kv {K : KS} {g : Nat} {w0 : World} {x : I} (h : GoodT K g w0 x) : ∀ v ∈ keyT K x, RV v := fun v hv => by
  obtain ⟨e, he, rfl⟩ := List.mem_map.1 hv
  exact rv_of x.row h.rv e (h.re e he)
theorem rows_tr (a b c : List V) : (rowsG ordV a b ≤ 0 → rowsG ordV b c ≤ 0 → rowsG ordV a c ≤ 0) ∧ (rowsG ordV a b ≤ 0 → rowsG ordV b c ≤ 0 → rowsG ordV a c = 0 → rowsG ordV a b = 0 ∧ rowsG ordV b c = 0) := by
  have t1 := rowsG_trans' a b c
  have t2 := rowsG_trans' c a b
  have t3 := rowsG_trans' b c a
  have s1 := rowsG_swap ordV ordV_swap a b
  have s2 := rowsG_swap ordV ordV_swap b c
  have s3 := rowsG_swap ordV ordV_swap a c
  refine ⟨t1, fun h1 h2 h3 => ?_⟩
  omega
theorem own_vs2 {w : World} {base cap n : Nat} {B : Option Addr} {ys : List V} (hn : ys.length = n) (h : w.ownsRow base 30 3 (.slice B n cap) n (flatW ys)) : VSl w B ys := by
  rw [← hn] at h
  obtain ⟨B', c', e, hv⟩ := own_vsl h
  simp at e
  rw [e.1]; exact hv
theorem blk_type {w : World} {g : Nat} {t t' : TypeId} {cs cs' : Array Value} (h : Blk w g t cs) (h' : Blk w g t' cs') : t = t' := by
  unfold Blk at h h'
  rw [h] at h'
  simp at h'
  exact h'.2
def KV (w : World) (A : Option Addr) (row : List V) : Prop := VSl w A row ∧ ∀ (i : Nat) (x : V), row[i]? = some x → ∃ g o cs, A = some ⟨g, o, none⟩ ∧ Blk w g 30 cs
theorem KV.grow {w w' : World} {A : Option Addr} {row : List V} (h : KV w A row) (hg : Grow w w') : KV w' A row := ⟨h.1.grow hg, fun i x hx => by
  obtain ⟨g, o, cs, a, b⟩ := h.2 i x hx
  exact ⟨g, o, cs, a, b.grow hg⟩⟩
theorem KV.gx {w w' : World} {A : Option Addr} {row : List V} {g : Nat} {t : TypeId} {cs : Array Value} (h : KV w A row) (hb : Blk w g t cs) (ht : t ≠ 30) (hg : w.grownBy w' (some g)) : KV w' A row := by
  refine ⟨fun i x hx => ?_, fun i x hx => ?_⟩
  · obtain ⟨g1, o1, e1, a, b, c⟩ := h.1 i x hx
    obtain ⟨g2, o2, cs2, e2, b2⟩ := h.2 i x hx
    rw [e1] at e2
    simp at e2
    have hne : g1 ≠ g := fun e => ht (by rw [e2.1] at e; rw [e] at b2; exact blk_type hb b2)
    exact ⟨g1, o1, e1, World.grownBy.cell hg a (by simpa using hne), World.grownBy.cell hg b (by simpa using hne), World.grownBy.cell hg c (by simpa using hne)⟩
  · obtain ⟨g2, o2, cs2, e2, b2⟩ := h.2 i x hx
    have hne : g2 ≠ g := fun e => ht (by rw [e] at b2; exact blk_type hb b2)
    exact ⟨g2, o2, cs2, e2, GX.blk hg hne b2⟩
theorem own_kv {w : World} {base cap n : Nat} {B : Option Addr} {ys : List V} (hn : ys.length = n) (h : w.ownsRow base 30 3 (.slice B n cap) n (flatW ys)) : KV w B ys := by
  refine ⟨own_vs2 hn h, fun i x hx => ?_⟩
  rcases h.2 with ⟨e, h0⟩ | ⟨g', cap', cur, e, hB, hgb, _⟩
  · rw [← hn] at h0
    have := List.length_eq_zero_iff.1 h0
    subst this
    simp at hx
  · simp at e
    exact ⟨g', 0, cur, e.1, hgb⟩
theorem own_blk {w : World} {base n s g : Nat} {e : TypeId} {v : Value} {xs : List Value} (h : w.ownsRow base e s v n xs) (hg : v.ownBlock = some g) : base ≤ g ∧ ∃ cs, Blk w g e cs := by
  rcases h.2 with ⟨rfl, _⟩ | ⟨g', cap, cur, rfl, hB, hgb, _⟩
  · cases hg
  · simp [Value.ownBlock] at hg
    subst hg
    exact ⟨hB, cur, hgb⟩
theorem own_apart {w : World} {b1 b2 n1 n2 s1 s2 : Nat} {e1 e2 : TypeId} {v1 v2 : Value} {x1 x2 : List Value} (h1 : w.ownsRow b1 e1 s1 v1 n1 x1) (h2 : w.ownsRow b2 e2 s2 v2 n2 x2) (hne : e1 ≠ e2) : v1.ownBlock = none ∨ v1.ownBlock ≠ v2.ownBlock := by
  cases e : v1.ownBlock with
  | none => exact .inl rfl
  | some g =>
    refine .inr (fun e' => ?_)
    obtain ⟨_, cs, c1⟩ := own_blk h1 e
    obtain ⟨_, cs', c2⟩ := own_blk h2 e'.symm
    exact hne (blk_type c1 c2)
theorem blk_own {w w' : World} {g base n s : Nat} {t e : TypeId} {cs : Array Value} {v : Value} {xs : List Value} (h : Blk w g t cs) (own : w.ownsRow base e s v n xs) (hne : t ≠ e) (hg : w.grownBy w' v.ownBlock) : Blk w' g t cs := by
  refine (hg.block g h.lt (fun e' => ?_)).trans h
  obtain ⟨_, cs', c2⟩ := own_blk own e'.symm
  exact hne (blk_type h c2)
theorem kv_own {w w' : World} {base n s : Nat} {e : TypeId} {v : Value} {xs : List Value} {A : Option Addr} {row : List V} (h : KV w A row) (own : w.ownsRow base e s v n xs) (he : e ≠ 30) (hg : w.grownBy w' v.ownBlock) : KV w' A row := by
  cases e' : v.ownBlock with
  | none =>
    rw [e'] at hg
    exact h.grow (Grow.own (Grow.refl w) hg (fun i hi => by cases hi))
  | some g =>
    rw [e'] at hg
    obtain ⟨_, cs, c⟩ := own_blk own e'
    exact h.gx c he hg
end Go.Proofs.Ytamfpppbjaelaaa
