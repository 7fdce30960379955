/-
 Joined texts of this claim: Rw7, Rw8, Hang, Rw9. What each proves its own head says; no condition beside those that each theorem names.
-/
import Derived.Test.YtifpomonpneanaaGreatGWb
import Derived.Test.YtifpomonpneanaaGreatGA
import Derived.Deep.DeepCutAuto
namespace Go.Proofs.YtifpomonpneanaaGreat
open Go.RowKit Go.Calm
set_option linter.unusedSimpArgs false
set_option linter.unusedVariables false
abbrev st11 (w : World) (g : Nat) (r : PL) : World := ((((((((((w.setCell ⟨g, 0, none⟩ (.int .i64 r.k)).setCell ⟨g, 1, none⟩ (.int .i64 r.n)).setCell ⟨g, 2, none⟩ (.int .i64 r.x.kind)).setCell ⟨g, 3, none⟩ (.int .i64 r.x.v.k)).setCell ⟨g, 4, none⟩ (.int .i64 r.x.v.n)).setCell ⟨g, 5, none⟩ (.string r.x.v.s)).setCell ⟨g, 6, none⟩ (.int .i64 r.x.col)).setCell ⟨g, 7, none⟩ (.slice r.x.A r.x.n r.x.cap)).setCell ⟨g, 8, none⟩ (.slice r.xs.A r.xs.l.length r.xs.c)).setCell ⟨g, 9, none⟩ (.slice r.ag.A r.ag.l.length r.ag.c)).setCell ⟨g, 10, none⟩ (.slice r.A r.m r.cap)
theorem st11_heap (w : World) (g : Nat) (r : PL) {q : Nat} (hq : q ≠ g) : (st11 w g r).heap[q]? = w.heap[q]? := by
 unfold st11
 iterate 11 rw [Below.heap_setCell _ ⟨g, _, none⟩ _ q hq]
theorem st11_grow {w0 w : World} {g : Nat} (hg : Grow w0 w) (h : w0.heap.size ≤ g) (r : PL) : Grow w0 (st11 w g r) := Grow.set (Grow.set (Grow.set (Grow.set (Grow.set (Grow.set (Grow.set (Grow.set (Grow.set (Grow.set (Grow.set hg h _) h _) h _) h _) h _) h _) h _) h _) h _) h _) h _
theorem st11_blk {w : World} {g : Nat} {t : TypeId} {a0 a1 a2 a3 a4 a5 a6 a7 a8 a9 a10 : Value} (r : PL) (h : Blk w g t #[a0, a1, a2, a3, a4, a5, a6, a7, a8, a9, a10]) : Blk (st11 w g r) g t (pC r) := by
 have B := ((((((((((h.set 0 (.int .i64 r.k)).set 1 (.int .i64 r.n)).set 2 (.int .i64 r.x.kind)).set 3 (.int .i64 r.x.v.k)).set 4 (.int .i64 r.x.v.n)).set 5 (.string r.x.v.s)).set 6 (.int .i64 r.x.col)).set 7 (.slice r.x.A r.x.n r.x.cap)).set 8 (.slice r.xs.A r.xs.l.length r.xs.c)).set 9 (.slice r.ag.A r.ag.l.length r.ag.c)).set 10 (.slice r.A r.m r.cap)
 simp only [List.setIfInBounds_toArray, List.set_cons_zero, List.set_cons_succ] at B
 exact B
def RP (S : Nat → Prop) (q : PL) (w w' : World) (en : Ending) : Prop := ∃ r : PL, en = .returned r.val ∧ PXs (Snew S w.heap.size) w' r ∧ nP r = q ∧ Grow w w'
section
variable {ts : List (List Int)} {k n : Int} {y x : E} {xs : XsS} {ag : AgS} {A : Option Addr} {m cap : Nat} {kid : Nat → PL}
end
end Go.Proofs.YtifpomonpneanaaGreat
namespace Go.Calm
open Go.RowKit
set_option linter.unusedSimpArgs false
set_option linter.unusedVariables false
section
variable {P : Program} {ops : Array Oper} {md : Region.Mode} {a0 : Act}
end
end Go.Calm
namespace Go.Proofs.YtifpomonpneanaaGreat
open Go.RowKit Go.Calm
set_option linter.unusedSimpArgs false
set_option linter.unusedVariables false
end Go.Proofs.YtifpomonpneanaaGreat
