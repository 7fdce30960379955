/-
  Variables that hold expressions and values.
-/
import Derived.Test.YtjhcbehnopmnpaaEvB
namespace Go.Proofs.Ytjhcbehnopmnpaa
open Go.RowKit Go.Calm
set_option linter.unusedSimpArgs false
set_option linter.unusedVariables false

/-- a variable that holds an expression -/
def EB (X : World) (g : Nat) (e : E) : Prop := Blk X g 47 #[.int .i64 e.kind, .int .i64 e.v.k, .int .i64 e.v.n, .string e.v.s, .int .i64 e.col, .slice e.A e.n e.cap]
theorem EB.grow {X Y : World} {g : Nat} {e : E} (h : EB X g e) (hg : Grow X Y) : EB Y g e := Blk.grow h hg
theorem EB.rules {X : World} {g : Nat} {e : E} (h : EB X g e) : (∀ i, X.cell? ⟨g, i, none⟩ = #[Value.int .i64 e.kind, .int .i64 e.v.k, .int .i64 e.v.n, .string e.v.s, .int .i64 e.col, .slice e.A e.n e.cap][i]?) ∧ (∀ i, X.frozen? ⟨g, i, none⟩ = false) := Blk.rules h
theorem EB.lt {X : World} {g : Nat} {e : E} (h : EB X g e) : g < X.heap.size := Blk.lt h
/-- a variable that holds a value -/
def VB3 (X : World) (g : Nat) (v : V) : Prop := Blk X g 29 #[.int .i64 v.k, .int .i64 v.n, .string v.s]
theorem VB3.grow {X Y : World} {g : Nat} {v : V} (h : VB3 X g v) (hg : Grow X Y) : VB3 Y g v := Blk.grow h hg
theorem VB3.rules {X : World} {g : Nat} {v : V} (h : VB3 X g v) : (∀ i, X.cell? ⟨g, i, none⟩ = #[Value.int .i64 v.k, .int .i64 v.n, .string v.s][i]?) ∧ (∀ i, X.frozen? ⟨g, i, none⟩ = false) := Blk.rules h
theorem VB3.lt {X : World} {g : Nat} {v : V} (h : VB3 X g v) : g < X.heap.size := Blk.lt h
/-- Eval, of any expression -/
theorem eval_of (cols : List Int) (row : List V) (Ac Ar : Option Addr) (cc cr : Nat) (w : World) (hlc : cols.length ≤ 9223372036854775807) (hlr : row.length ≤ 9223372036854775807) (hc : ISl w Ac cols) (hr : VSl w Ar row) (e : E) (R : V) (ER : Int) (hR : evalE cols row e = (R, ER)) (W : World) (hg : Grow w W) (hE : EX W e) :
    Calls Try.prog 58 #[.slice Ac cols.length cc, e.val, .slice Ar row.length cr] W fun en w' => en = .returned (.tuple #[R.val, .int .i64 ER]) ∧ Grow W w' :=
  eval_any cols row Ac Ar cc cr e W hlc hlr (hc.grow hg) (hr.grow hg) hE R ER hR

end Go.Proofs.Ytjhcbehnopmnpaa
