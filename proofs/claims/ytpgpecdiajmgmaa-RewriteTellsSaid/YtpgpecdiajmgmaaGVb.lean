/-
  Joined texts of this claim: OpC, OpD. What each proves its own head says; no condition beside those that each theorem names.
-/
import Derived.Test.YtpgpecdiajmgmaaGT
import Derived.Laws.MakeOwn
import Derived.Lib.SliceRun
namespace Go.Proofs.Ytpgpecdiajmgmaa
open Go.RowKit Go.Calm
set_option linter.unusedSimpArgs false
set_option linter.unusedVariables false

def BV (w : World) (g : Nat) (fl : List Bool) : Prop := Blk w g 4 (fl.map Value.bool).toArray
theorem BV.lt {w : World} {g : Nat} {fl : List Bool} (h : BV w g fl) : g < w.heap.size := Blk.lt h
theorem BV.grow {w w' : World} {g : Nat} {fl : List Bool} (h : BV w g fl) (hg : Grow w w') : BV w' g fl := Blk.grow h hg
theorem BV.frozen {w : World} {g : Nat} {fl : List Bool} (h : BV w g fl) (i : Nat) : w.frozen? ⟨g, i, none⟩ = false := Blk.frozen h i
theorem BV.at {w : World} {g : Nat} {fl : List Bool} (h : BV w g fl) {i : Nat} {f : Bool} (hf : fl[i]? = some f) : w.cell? ⟨g, i, none⟩ = some (.bool f) := by
  rw [Blk.cell h]; simp [hf]
theorem BV.put {w : World} {g : Nat} {fl : List Bool} (h : BV w g fl) (i : Nat) (f : Bool) : BV (w.setCell ⟨g, i, none⟩ (.bool f)) g (fl.set i f) := by
  have hb := Blk.set h i (.bool f)
  unfold BV
  rw [List.map_set]
  simpa using hb
end Go.Proofs.Ytpgpecdiajmgmaa

namespace Go.Proofs.Ytpgpecdiajmgmaa
open Go.RowKit Go.Calm
set_option linter.unusedSimpArgs false
set_option linter.unusedVariables false

theorem own_slice {w : World} {base n s : Nat} {e : TypeId} {v : Value} {xs : List Value} (h : w.ownsRow base e s v n xs) : ∃ (B : Option Addr) (cap : Nat), v = .slice B n cap := by
  rcases h.2 with ⟨e, h0⟩ | ⟨g', cap', cur', e, _⟩
  · exact ⟨none, 0, by rw [h0]; exact e⟩
  · exact ⟨_, _, e⟩
end Go.Proofs.Ytpgpecdiajmgmaa
