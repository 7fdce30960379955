/-
  Expressions in memory: a tree, with the addresses at which its kids lie; how an argument is read as one.
-/
import Derived.Test.YtjhcbehnopmnpaaRead
import Derived.Deep.Slices
namespace Go.Proofs.Ytjhcbehnopmnpaa
open Go.ChangeShapes Go.WideShapes Go.ChangeAt Go.RowKit Go.Calm
set_option maxRecDepth 100000
set_option linter.unusedVariables false
set_option linter.unusedSimpArgs false

/-- An expression: its own cells, and its kids by their index. -/
inductive E where
  | leaf : E
  | mk (kind : Int) (v : V) (col : Int) (A : Option Addr) (n cap : Nat) (kid : Nat → E) : E
instance : Inhabited E := ⟨.leaf⟩
namespace E
def kind : E → Int
  | .leaf => 0
  | .mk k _ _ _ _ _ _ => k
def v : E → V
  | .leaf => ⟨0, 0, es⟩
  | .mk _ v _ _ _ _ _ => v
def col : E → Int
  | .leaf => 0
  | .mk _ _ c _ _ _ _ => c
def A : E → Option Addr
  | .leaf => none
  | .mk _ _ _ a _ _ _ => a
def n : E → Nat
  | .leaf => 0
  | .mk _ _ _ _ n _ _ => n
def cap : E → Nat
  | .leaf => 0
  | .mk _ _ _ _ _ c _ => c
def kid : E → Nat → E
  | .leaf, _ => .leaf
  | .mk _ _ _ _ _ _ k, i => k i
/-- the cells of an expression -/
def cells (e : E) : List Value := [.int .i64 e.kind, .int .i64 e.v.k, .int .i64 e.v.n, .string e.v.s, .int .i64 e.col, .slice e.A e.n e.cap]
abbrev val (e : E) : Value := .agg #[.int .i64 e.kind, .int .i64 e.v.k, .int .i64 e.v.n, .string e.v.s, .int .i64 e.col, .slice e.A e.n e.cap]
end E

/-- the six cells of an expression at a place -/
structure ECells (w : World) (g o : Nat) (e : E) : Prop where
  c0 : w.cell? ⟨g, o, none⟩ = some (.int .i64 e.kind)
  c1 : w.cell? ⟨g, o + 1, none⟩ = some (.int .i64 e.v.k)
  c2 : w.cell? ⟨g, o + 2, none⟩ = some (.int .i64 e.v.n)
  c3 : w.cell? ⟨g, o + 3, none⟩ = some (.string e.v.s)
  c4 : w.cell? ⟨g, o + 4, none⟩ = some (.int .i64 e.col)
  c5 : w.cell? ⟨g, o + 5, none⟩ = some (.slice e.A e.n e.cap)

/-- what memory holds of an expression: its kids, and theirs -/
inductive EX (w : World) : E → Prop
  | leaf : EX w .leaf
  | mk {k : Int} {v : V} {c : Int} {A : Option Addr} {n cap : Nat} {kid : Nat → E} (hn : n ≤ maxLen) (hc : ∀ i, i < n → ∃ g o, A = some ⟨g, o, none⟩ ∧ ECells w g (o + i * 6) (kid i)) (hk : ∀ i, i < n → EX w (kid i)) (hv : VB v) (hi : inI64 k ∧ inI64 c) : EX w (.mk k v c A n cap kid)
theorem ECells.grow {w w' : World} (h : Grow w w') {g o : Nat} {e : E} (hc : ECells w g o e) : ECells w' g o e :=
  ⟨h.cell hc.c0, h.cell hc.c1, h.cell hc.c2, h.cell hc.c3, h.cell hc.c4, h.cell hc.c5⟩
theorem EX.grow {w w' : World} (h : Grow w w') {e : E} (he : EX w e) : EX w' e := by
  induction he with
  | leaf => exact .leaf
  | mk hn hc hk hv hi ih => exact .mk hn (fun i hi => by obtain ⟨g, o, h1, h2⟩ := hc i hi; exact ⟨g, o, h1, h2.grow h⟩) ih hv hi

section
variable {H : Type} {enc : TypeId × Value → H} {w : World} {base : Nat} {spare : Nat → Bool} {held : Bool}

/-- as slice_cells, with the fuel -/
theorem slice_cells' {t e : TypeId} {fuel c : Nat} {cs : List Value} {x : DataW H × List MemPlace} (ht : Try.prog.underlying t = some (.slice e)) (hc : Try.prog.cellsOf e = c) (hc0 : 0 < c) (h : DataW.trod enc Try.prog w base spare held fuel t cs = some x) :
    ∃ (A : Option Addr) (len cap n : Nat) (D : Nat → DataW H × List MemPlace), n < fuel + 1 ∧ cs = [.slice A len cap] ∧ len ≤ maxLen ∧ len ≤ cap ∧ ∀ i, i < len → n < fuel ∧ ∃ g o ys, A = some ⟨g, o, none⟩ ∧ ys.length = c ∧ (∀ j y, ys[j]? = some y → w.cell? ⟨g, o + i * c + j, none⟩ = some y) ∧ DataW.trod enc Try.prog w base spare held n e ys = some (D i) := by
  rcases DataW.trod_slice ht h with ⟨h0, _⟩ | ⟨a, len, cap, elems, rest, n, hfu, hcs, _, hb, hl, hm, hlen, hel, _, _⟩
  · exact ⟨none, 0, 0, 0, fun _ => (.nil, []), by omega, h0, Nat.zero_le _, Nat.le_refl _, fun i hi => by omega⟩
  · refine ⟨some a, len, cap, n, fun i => elems.getD i (.nil, []), by omega, hcs, by omega, hl, fun i hi => ⟨by omega, ?_⟩⟩
    have get : ∀ i, i < len → ∃ ys, w.cells? base (a.add (i * c)) c = some ys ∧ DataW.trod enc Try.prog w base spare held n e ys = some (elems.getD i (.nil, [])) := fun i hi => by
      have h1 := hel i hi
      rw [hc] at h1
      have h2 : elems[i]? = some (elems.getD i (.nil, [])) := by simp [hlen, hi]
      rw [h2] at h1
      cases hcell : w.cells? base (a.add (i * c)) c with
      | none => rw [hcell] at h1; cases h1
      | some ys => rw [hcell] at h1; exact ⟨ys, rfl, h1⟩
    have hsp : a.spot = none := by
      obtain ⟨ys, hcell, _⟩ := get 0 (by omega)
      obtain ⟨_, hyl, hat⟩ := World.cells?_some hcell
      have h1 := hat 0 hc0
      have h2 : ys[0]? = some (ys[0]'(by omega)) := List.getElem?_eq_getElem _
      rw [h2, Nat.zero_mul] at h1
      have e : (a.add 0) = a := rfl
      rw [e] at h1
      rcases spot_none h1 with h3 | h3
      · exact h3
      · exact absurd rfl h3
    obtain ⟨g, o, sp⟩ := a
    simp only at hsp
    subst hsp
    obtain ⟨ys, hcell, hd⟩ := get i hi
    obtain ⟨_, hyl, hat⟩ := World.cells?_some hcell
    refine ⟨g, o, ys, rfl, hyl, fun j y hy => ?_, hd⟩
    have hj : j < c := by rw [← hyl]; exact (List.getElem?_eq_some_iff.1 hy).1
    have := hat j hj
    rw [hy, add_flat, add_flat] at this
    exact this

theorem ex_cells : ∀ (fuel : Nat) {cs : List Value} {x : DataW H × List MemPlace}, DataW.trod enc Try.prog w base spare held fuel 47 cs = some x →
    ∃ e : E, cs = e.cells ∧ EX w e := by
  intro fuel
  induction fuel using Nat.strongRecOn with
  | ind fuel ih =>
    intro cs x h
    obtain ⟨xs, n, hfu, _, hlen, hxl, hf⟩ := DataW.trod_struct Try.underlying47 h
    have h6 : cs.length = 6 := by rw [hlen]; kernel_rfl
    match cs, h6 with
    | [a, b, c, d, e, f], _ =>
      have f0 := hf 0 _ rfl
      have f1 := hf 1 _ rfl
      have f2 := hf 2 _ rfl
      have f3 := hf 3 _ rfl
      have g : ∀ i, i < 4 → ∃ y, xs[i]? = some y := fun i hi => ⟨xs[i]'(by rw [hxl]; exact hi), List.getElem?_eq_getElem _⟩
      obtain ⟨y0, e0⟩ := g 0 (by omega)
      obtain ⟨y1, e1⟩ := g 1 (by omega)
      obtain ⟨y2, e2⟩ := g 2 (by omega)
      obtain ⟨y3, e3⟩ := g 3 (by omega)
      rw [e0] at f0
      rw [e1] at f1
      rw [e2] at f2
      rw [e3] at f3
      obtain ⟨k, hk, _, wk⟩ := DataW.trod_int Try.underlying3 f0
      obtain ⟨v, hv, bv⟩ := val_cells f1
      obtain ⟨m, hm, _, wm⟩ := DataW.trod_int Try.underlying3 f2
      obtain ⟨A, len, cap, n', D, hn', hcs, hl, _, hi⟩ := slice_cells' (c := 6) Try.underlying45 (by kernel_rfl) (by omega) f3
      have c0 : Try.prog.cellsOf 3 = 1 := by kernel_rfl
      have c1 : Try.prog.cellsOf 29 = 3 := by kernel_rfl
      have c2 : Try.prog.cellsOf 45 = 1 := by kernel_rfl
      simp [c0] at hk
      simp [c1] at hv
      simp [c0] at hm
      simp [c2] at hcs
      have pick : ∀ i, i < len → ∃ e : E, (∃ g o, A = some ⟨g, o, none⟩ ∧ ECells w g (o + i * 6) e) ∧ EX w e := fun i hlt => by
        obtain ⟨hlt', g, o, ys, hA, hyl, hat, hd⟩ := hi i hlt
        obtain ⟨e, he, hx⟩ := ih n' (by omega) hd
        subst he
        exact ⟨e, ⟨g, o, hA, hat 0 _ rfl, hat 1 _ rfl, hat 2 _ rfl, hat 3 _ rfl, hat 4 _ rfl, hat 5 _ rfl⟩, hx⟩
      obtain ⟨kid, hkid⟩ := Go.Deep.choose_lt pick
      refine ⟨.mk k v m A len cap kid, ?_, .mk hl (fun i hi => (hkid i hi).1) (fun i hi => (hkid i hi).2) bv ⟨wf_i64 wk, wf_i64 wm⟩⟩
      obtain ⟨h1, h2, h3⟩ := hv
      simp [E.cells, E.kind, E.v, E.col, E.A, E.n, E.cap, hk, h1, h2, h3, hm, hcs]

theorem ex_read {r : Reach} {b0 : Nat} {v : Value} {d : DataW H} {p : List MemPlace} (hv : Value.okWide Try.prog w r b0 47 v) (h : DataW.Trod enc Try.prog w base spare held 47 v d p) : ∃ e : E, v = e.val ∧ EX w e := by
  obtain ⟨cs, rfl, _⟩ := okWide_struct Try.underlying47 hv
  obtain ⟨fuel, hf⟩ := h
  obtain ⟨e, he, hx⟩ := ex_cells fuel hf
  refine ⟨e, ?_, hx⟩
  have : cs.toList = e.cells := by simpa [Value.cells] using he
  cases cs
  simp at this
  rw [this]
  rfl
end
end Go.Proofs.Ytjhcbehnopmnpaa
