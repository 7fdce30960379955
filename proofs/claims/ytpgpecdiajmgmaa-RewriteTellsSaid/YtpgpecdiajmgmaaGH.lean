/-
  Joined texts of this claim: Zs1, Zs2, Zs3, Zs4, Zs5, Zs9, ReadZ. What each proves its own head says; no condition beside those that each theorem names.
-/
import Derived.Test.YtpgpecdiajmgmaaGE
import Derived.Test.YtpgpecdiajmgmaaGG
import Derived.Laws.MakeOwn
import Derived.Test.YtpgpecdiajmgmaaGF
import Derived.Deep.DeepCutAuto
import Derived.Test.YtpgpecdiajmgmaaGD
namespace Go.Proofs.Ytpgpecdiajmgmaa
open Go.RowKit Go.Calm
set_option linter.unusedSimpArgs false
set_option linter.unusedVariables false

def flatW : List V → List Value
  | [] => []
  | v :: vs => .int .i64 v.k :: .int .i64 v.n :: .string v.s :: flatW vs
theorem flatW_get : ∀ (row : List V) (i : Nat) (x : V), row[i]? = some x → (flatW row)[i * 3]? = some (.int .i64 x.k) ∧ (flatW row)[i * 3 + 1]? = some (.int .i64 x.n) ∧ (flatW row)[i * 3 + 2]? = some (.string x.s)
  | [], i, x, h => by simp at h
  | v :: vs, 0, x, h => by simp at h; subst h; simp [flatW]
  | v :: vs, i + 1, x, h => by
    have := flatW_get vs i x (by simpa using h)
    rw [show (i + 1) * 3 = i * 3 + 3 by omega]
    simpa [flatW] using this
theorem flatW_set : ∀ (xs : List V) (i : Nat) (y : V), i < xs.length → (((flatW xs).set (i * 3) (.int .i64 y.k)).set (i * 3 + 1) (.int .i64 y.n)).set (i * 3 + 2) (.string y.s) = flatW (xs.set i y)
  | [], i, y, h => by simp at h
  | x :: xs, 0, y, h => by simp [flatW]
  | x :: xs, i + 1, y, h => by
    have := flatW_set xs i y (by simpa using h)
    rw [show (i + 1) * 3 = i * 3 + 1 + 1 + 1 by omega]
    simp only [flatW, List.set_cons_succ]
    rw [← this]
def DV (w : World) (g : Nat) (xs : List V) : Prop := Blk w g 24 (flatW xs).toArray
theorem DV.lt {w : World} {g : Nat} {xs : List V} (h : DV w g xs) : g < w.heap.size := Blk.lt h
theorem DV.frozen {w : World} {g : Nat} {xs : List V} (h : DV w g xs) (i : Nat) : w.frozen? ⟨g, i, none⟩ = false := Blk.frozen h i
theorem DV.grow {w w' : World} {g : Nat} {xs : List V} (h : DV w g xs) (hg : Grow w w') : DV w' g xs := Blk.grow h hg
theorem DV.at {w : World} {g : Nat} {xs : List V} (h : DV w g xs) {i : Nat} {x : V} (hx : xs[i]? = some x) : w.cell? ⟨g, i * 3, none⟩ = some (.int .i64 x.k) ∧ w.cell? ⟨g, i * 3 + 1, none⟩ = some (.int .i64 x.n) ∧ w.cell? ⟨g, i * 3 + 2, none⟩ = some (.string x.s) := by
  obtain ⟨a, b, c⟩ := flatW_get xs i x hx
  rw [Blk.cell h, Blk.cell h, Blk.cell h]
  exact ⟨by simpa using a, by simpa using b, by simpa using c⟩
theorem DV.put {w : World} {g : Nat} {xs : List V} (h : DV w g xs) {i : Nat} (hi : i < xs.length) (y : V) : DV (((w.setCell ⟨g, i * 3, none⟩ (.int .i64 y.k)).setCell ⟨g, i * 3 + 1, none⟩ (.int .i64 y.n)).setCell ⟨g, i * 3 + 2, none⟩ (.string y.s)) g (xs.set i y) := by
  have hb := (((Blk.set h (i * 3) (.int .i64 y.k)).set (i * 3 + 1) (.int .i64 y.n)).set (i * 3 + 2) (.string y.s))
  unfold DV
  rw [← flatW_set xs i y hi]
  simpa using hb
end Go.Proofs.Ytpgpecdiajmgmaa

namespace Go.Proofs.Ytpgpecdiajmgmaa
open Go.RowKit Go.Calm
set_option linter.unusedSimpArgs false
set_option linter.unusedVariables false

instance : DecidableEq V := fun a b => decidable_of_iff (eqB a b = true) (eqB_iff a b)
abbrev Z := List V × Int
def bareR (r : List V) : List V := r.map bare
def ordR (a b : List V) : Int := rowsG ordV a b
theorem ordR_swap (a b : List V) : ordR b a = - ordR a b := rowsG_swap ordV ordV_swap a b
theorem ordR_trans {a b c : List V} (h1 : ordR a b ≤ 0) (h2 : ordR b c ≤ 0) : ordR a c ≤ 0 := rowsG_trans' a b c h1 h2
theorem ordR_lt {a b c : List V} (h1 : ordR a b < 0) (h2 : ordR b c < 0) : ordR a c < 0 := by
  have h3 := ordR_trans (a := a) (b := b) (c := c) (by omega) (by omega)
  by_cases h : ordR a c = 0
  · have h4 := ordR_swap a c
    have h5 := ordR_trans (a := c) (b := a) (c := b) (by omega) (by omega)
    have h6 := ordR_swap b c
    omega
  · omega
structure Canon (z : List Z) : Prop where
  up : z.Pairwise (fun x y => ordR x.1 y.1 < 0)
  rv : ∀ x ∈ z, ∀ v ∈ x.1, RV v
  bare : ∀ x ∈ z, bareR x.1 = x.1
  w : ∀ x ∈ z, x.2 ≠ 0
theorem Canon.tail {x : Z} {z : List Z} (h : Canon (x :: z)) : Canon z := ⟨(List.pairwise_cons.1 h.up).2, fun y hy => h.rv y (by simp [hy]), fun y hy => h.bare y (by simp [hy]), fun y hy => h.w y (by simp [hy])⟩
end Go.Proofs.Ytpgpecdiajmgmaa

namespace Go.Proofs.Ytpgpecdiajmgmaa
open Go.RowKit Go.Calm
set_option linter.unusedSimpArgs false
set_option linter.unusedVariables false

structure Rise (l : List Z) : Prop where
  up : l.Pairwise (fun x y => ordR x.1 y.1 ≤ 0)
  rv : ∀ x ∈ l, ∀ v ∈ x.1, RV v
  bare : ∀ x ∈ l, bareR x.1 = x.1
theorem Rise.tail {x : Z} {l : List Z} (h : Rise (x :: l)) : Rise l := ⟨(List.pairwise_cons.1 h.up).2, fun y hy => h.rv y (by simp [hy]), fun y hy => h.bare y (by simp [hy])⟩
end Go.Proofs.Ytpgpecdiajmgmaa

namespace Go.Proofs.Ytpgpecdiajmgmaa
open Go.RowKit Go.Calm
set_option linter.unusedSimpArgs false
set_option linter.unusedVariables false

def zOf (x : I) : Z := (x.row, x.w)
def SlOk (A : Option Addr) (n c : Nat) : Prop := n ≤ c ∧ (A = none → c = 0)
theorem SlOk.nil : SlOk none 0 0 := ⟨Nat.le_refl _, fun _ => rfl⟩
def ZIn (w : World) (A : Option Addr) (xs : List I) : Prop := ∀ i x, xs[i]? = some x → ∃ g o, A = some ⟨g, o, none⟩ ∧ w.cell? ⟨g, o + i * 2, none⟩ = some (.slice x.A x.row.length x.cap) ∧ w.cell? ⟨g, o + i * 2 + 1, none⟩ = some (.int .i64 x.w) ∧ VSl w x.A x.row
theorem ZIn.grow {w w' : World} {A : Option Addr} {xs : List I} (h : ZIn w A xs) (hg : Grow w w') : ZIn w' A xs := fun i x hx => by
  obtain ⟨g, o, hA, a, b, c⟩ := h i x hx
  exact ⟨g, o, hA, hg.cell a, hg.cell b, c.grow hg⟩
theorem VSl.gx {g h o : Nat} {w w' : World} {xs : List V} (hx : VSl w (some ⟨h, o, none⟩) xs) (hg : GX g w w') (hne : h ≠ g) : VSl w' (some ⟨h, o, none⟩) xs := fun i x hi => by
  obtain ⟨g', o', e, a, b, c⟩ := hx i x hi
  cases e
  exact ⟨h, o, rfl, World.grownBy.cell hg a (by simpa using hne), World.grownBy.cell hg b (by simpa using hne), World.grownBy.cell hg c (by simpa using hne)⟩
theorem Good.mono {g : Nat} {w w' : World} {x : I} (h : Good g w x) (hg : GX g w w') : Good g w' x := ⟨fun W hW => h.sl W (hg.trans hW), h.len, h.rv⟩

theorem own_grow {w w' : World} {base n size : Nat} {e : TypeId} {v : Value} {xs : List Value} (h : w.ownsRow base e size v n xs) (hg : Grow w w') : w'.ownsRow base e size v n xs := by
  obtain ⟨h1, h2⟩ := h
  refine ⟨h1, ?_⟩
  rcases h2 with h2 | ⟨g, cap, cur, a, b, c, d⟩
  · exact .inl h2
  · exact .inr ⟨g, cap, cur, a, b, Blk.grow (g := g) c hg, d⟩
theorem Grow.own {a b c : World} {row : Option Nat} (h : Grow a b) (k : b.grownBy c row) (hr : ∀ i, row = some i → a.heap.size ≤ i) : Grow a c :=
  ⟨⟨k.os.trans h.below.os, k.tape.trans h.below.tape, k.output.trans h.below.output, Nat.le_trans h.size k.size, fun i hi => (k.block i (Nat.lt_of_lt_of_le hi h.size) (fun e => by have := hr i e.symm; omega)).trans (h.below.block i hi)⟩⟩
end Go.Proofs.Ytpgpecdiajmgmaa

namespace Go.Proofs.Ytpgpecdiajmgmaa
open Go.RowKit Go.Calm
set_option linter.unusedSimpArgs false
set_option linter.unusedVariables false

def firstE : List V → Int
  | [] => 0
  | v :: l => if wrongV v ≠ 0 then wrongV v else firstE l
theorem firstE_zero : ∀ xs : List V, firstE xs = 0 ↔ ∀ v ∈ xs, RV v
  | [] => by simp [firstE]
  | v :: l => by
    have h1 := RV.of v
    have h2 := firstE_zero l
    unfold firstE
    simp only [List.mem_cons, forall_eq_or_imp]
    split
    · rename_i h; exact ⟨fun e => absurd e h, fun e => absurd (h1.2 e.1) h⟩
    · rename_i h
      have h : wrongV v = 0 := by simpa using h
      exact ⟨fun e => ⟨h1.1 h, h2.1 e⟩, fun e => h2.2 e.2⟩
def rowE (r : List V) : Int := if 8 < r.length then 5 else firstE r
theorem rowE_zero (r : List V) : rowE r = 0 ↔ r.length ≤ 8 ∧ ∀ v ∈ r, RV v := by
  unfold rowE
  split
  · exact ⟨fun h => by simp at h, fun h => by omega⟩
  · rw [firstE_zero]; exact ⟨fun h => ⟨by omega, h⟩, fun h => h.2⟩
def bigW (n : Int) : Bool := decide (n < -1000000) || decide (1000000 < n)
theorem bigW_false {n : Int} (h : bigW n = false) : -1000000 ≤ n ∧ n ≤ 1000000 := by
  simp [bigW] at h; omega
def badP (p : Option (List V)) (r : List V) : Bool := match p with | none => false | some y => decide (0 ≤ rowsG cmpV y r)
def wgo : Option (List V) → List Z → Int
  | _, [] => 0
  | p, x :: l => if rowE x.1 ≠ 0 then rowE x.1 else if x.2 = 0 ∨ bigW x.2 = true then 3 else if badP p x.1 = true then 2 else wgo (some x.1) l
def wrongZ (z : List Z) : Int := if 400 < z.length then 5 else wgo none z
structure RZ (z : List Z) : Prop where
  len : z.length ≤ 400
  row : ∀ x ∈ z, x.1.length ≤ 8 ∧ ∀ v ∈ x.1, RV v
  w : ∀ x ∈ z, x.2 ≠ 0 ∧ -1000000 ≤ x.2 ∧ x.2 ≤ 1000000
  up : z.Pairwise (fun x y => ordR x.1 y.1 < 0)
theorem wgo_zero : ∀ (z : List Z) (p : Option (List V)), (∀ y, p = some y → ∀ v ∈ y, RV v) → (wgo p z = 0 ↔ (∀ x ∈ z, x.1.length ≤ 8 ∧ ∀ v ∈ x.1, RV v) ∧ (∀ x ∈ z, x.2 ≠ 0 ∧ -1000000 ≤ x.2 ∧ x.2 ≤ 1000000) ∧ z.Pairwise (fun x y => ordR x.1 y.1 < 0) ∧ (∀ y x, p = some y → x ∈ z → ordR y x.1 < 0))
  | [], p, _ => by simp [wgo]
  | x :: l, p, hp => by
    unfold wgo
    by_cases h1 : rowE x.1 = 0
    · have hr := (rowE_zero x.1).1 h1
      rw [if_neg (by simpa using h1)]
      by_cases h2 : x.2 = 0 ∨ bigW x.2 = true
      · rw [if_pos h2]
        constructor
        · intro h; simp at h
        · rintro ⟨_, hw, _⟩
          have := hw x (by simp)
          rcases h2 with h2 | h2
          · exact absurd h2 this.1
          · simp [bigW] at h2; omega
      · rw [if_neg h2]
        have h2' : x.2 ≠ 0 ∧ -1000000 ≤ x.2 ∧ x.2 ≤ 1000000 := by
          have a : ¬ x.2 = 0 := fun e => h2 (.inl e)
          have b := bigW_false (n := x.2) (by cases hb : bigW x.2; rfl; exact absurd (.inr hb) h2)
          exact ⟨a, b⟩
        have ih := wgo_zero l (some x.1) (fun y hy => by cases hy; exact hr.2)
        by_cases h3 : ∃ y, p = some y ∧ 0 ≤ rowsG cmpV y x.1
        · obtain ⟨y, rfl, hy⟩ := h3
          rw [if_pos (by simpa [badP] using hy)]
          constructor
          · intro h; simp at h
          · rintro ⟨_, _, _, h⟩
            have := h y x rfl (by simp)
            rw [rows_cmp_ord _ _ (hp y rfl) hr.2] at hy
            unfold ordR at this
            omega
        · have h4 : ∀ y, p = some y → ordR y x.1 < 0 := fun y hy => by
            have : ¬ 0 ≤ rowsG cmpV y x.1 := fun h => h3 ⟨y, hy, h⟩
            rw [rows_cmp_ord _ _ (hp y hy) hr.2] at this
            unfold ordR; omega
          have h5 : ¬ (badP p x.1 = true) := by
            cases p with
            | none => simp [badP]
            | some y => simp [badP]; have : ¬ 0 ≤ rowsG cmpV y x.1 := fun h => h3 ⟨y, rfl, h⟩; omega
          rw [if_neg h5, ih]
          constructor
          · rintro ⟨a, b, c, d⟩
            refine ⟨fun y hy => ?_, fun y hy => ?_, List.pairwise_cons.2 ⟨fun y hy => d _ y rfl hy, c⟩, fun y u hy hu => ?_⟩
            · rcases List.mem_cons.1 hy with rfl | hy
              · exact hr
              · exact a y hy
            · rcases List.mem_cons.1 hy with rfl | hy
              · exact h2'
              · exact b y hy
            · rcases List.mem_cons.1 hu with rfl | hu
              · exact h4 y hy
              · exact ordR_lt (h4 y hy) (d _ u rfl hu)
          · rintro ⟨a, b, c, d⟩
            exact ⟨fun y hy => a y (by simp [hy]), fun y hy => b y (by simp [hy]), (List.pairwise_cons.1 c).2, fun y u hy hu => by cases hy; exact (List.pairwise_cons.1 c).1 u hu⟩
    · rw [if_pos h1]
      constructor
      · intro h; exact absurd h h1
      · rintro ⟨a, _⟩
        exact absurd ((rowE_zero x.1).2 (a x (by simp))) h1
theorem wrongZ_zero (z : List Z) : wrongZ z = 0 ↔ RZ z := by
  unfold wrongZ
  have h := wgo_zero z none (fun y hy => by cases hy)
  split
  · exact ⟨fun h => by simp at h, fun h => by have := h.len; omega⟩
  · rw [h]
    exact ⟨fun ⟨a, b, c, _⟩ => ⟨by omega, a, b, c⟩, fun h => ⟨h.row, h.w, h.up, fun y x hy => by cases hy⟩⟩

end Go.Proofs.Ytpgpecdiajmgmaa

namespace Go.Proofs.Ytpgpecdiajmgmaa
open Go.RowKit Go.Calm
set_option linter.unusedSimpArgs false
set_option linter.unusedVariables false

def putZ : List Z → List V → Int → List Z
  | [], r, n => if n ≠ 0 then [(bareR r, n)] else []
  | x :: z, r, n => if ordR x.1 r < 0 then x :: putZ z r n else if ordR x.1 r = 0 then (if n + x.2 ≠ 0 then (bareR r, n + x.2) :: z else z) else (if n ≠ 0 then (bareR r, n) :: x :: z else x :: z)
def bdZ (M : Int) (z : List Z) : Prop := ∀ x ∈ z, -M ≤ x.2 ∧ x.2 ≤ M
def addZ (z l : List Z) : List Z := l.foldl (fun z x => putZ z x.1 x.2) z
def setZ (l : List Z) : List Z := addZ [] l
theorem zin_nil (w : World) (A : Option Addr) : ZIn w A [] := fun i x hx => by simp at hx
end Go.Proofs.Ytpgpecdiajmgmaa

namespace Go.Proofs.Ytpgpecdiajmgmaa
open Go.ChangeShapes Go.WideShapes Go.ChangeAt Go.RowKit Go.Calm
set_option maxRecDepth 100000
set_option linter.unusedVariables false
set_option linter.unusedSimpArgs false
theorem list_of {α : Type} [Inhabited α] {P : Nat → α → Prop} (n : Nat) (h : ∀ i, i < n → ∃ x, P i x) : ∃ xs : List α, xs.length = n ∧ ∀ i x, xs[i]? = some x → P i x := by
  obtain ⟨f, hf⟩ := Go.Deep.choose_lt h
  refine ⟨(List.range n).map f, by simp, fun i x hx => ?_⟩
  obtain ⟨hi, e⟩ := List.getElem?_eq_some_iff.1 hx
  simp at hi e
  subst e
  exact hf i hi
structure IB (x : I) : Prop where
  len : x.row.length ≤ maxLen
  v : ∀ v ∈ x.row, VB v
  w : inI64 x.w
section
variable {H : Type} {enc : TypeId × Value → H} {w : World} {base : Nat} {spare : Nat → Bool} {held : Bool}
end
end Go.Proofs.Ytpgpecdiajmgmaa
