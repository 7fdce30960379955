/-
  Worlds that grow, but for one block that is written.
-/
import Derived.Test.YtjhcbehnopmnpaaCalm
namespace Go.Proofs.Ytjhcbehnopmnpaa
open Go.RowKit Go.Calm

/-- `w'` is `w` with new blocks, and with writes to block `g` alone. -/
abbrev GX (g : Nat) (w w' : World) : Prop := w.grownBy w' (some g)

theorem GX.refl (g : Nat) (w : World) : GX g w w := ⟨rfl, rfl, rfl, Nat.le_refl _, fun _ _ _ => rfl⟩
theorem GX.trans {g : Nat} {a b c : World} (h : GX g a b) (k : GX g b c) : GX g a c :=
  ⟨k.os.trans h.os, k.tape.trans h.tape, k.output.trans h.output, Nat.le_trans h.size k.size, fun i hi hne => (k.block i (Nat.lt_of_lt_of_le hi h.size) hne).trans (h.block i hi hne)⟩
/-- a write to a row of one's own -/
theorem GX.own {g : Nat} {a b c : World} {row : Option Nat} (h : GX g a b) (k : b.grownBy c row) (hr : ∀ i, row = some i → a.heap.size ≤ i) : GX g a c :=
  ⟨k.os.trans h.os, k.tape.trans h.tape, k.output.trans h.output, Nat.le_trans h.size k.size, fun i hi hne =>
    (k.block i (Nat.lt_of_lt_of_le hi h.size) (fun e => by have := hr i e.symm; omega)).trans (h.block i hi hne)⟩
theorem GX.grow {g : Nat} {a b c : World} (h : GX g a b) (k : Grow b c) : GX g a c :=
  ⟨k.below.os.trans h.os, k.below.tape.trans h.tape, k.below.output.trans h.output, Nat.le_trans h.size k.size, fun i hi hne => (k.below.block i (Nat.lt_of_lt_of_le hi h.size)).trans (h.block i hi hne)⟩
theorem GX.al {g : Nat} {a b : World} (h : GX g a b) (o : Obj) : GX g a (b.alloc o) := h.grow ((Grow.refl _).al o)
theorem GX.drew {g : Nat} {a b : World} (h : GX g a b) : GX g a b.drew := h.grow (Grow.refl _).drew
theorem GX.drewN {g : Nat} {a b : World} (h : GX g a b) (n : Nat) : GX g a (b.drewN n) := h.grow ((Grow.refl _).drewN n)
theorem GX.set {g : Nat} {a b : World} (h : GX g a b) (o : Nat) (u : Value) : GX g a (b.setCell ⟨g, o, none⟩ u) :=
  h.trans ⟨rfl, rfl, rfl, by simp [World.setCell], fun i _ hne => Below.heap_setCell _ _ _ _ (fun e => hne (by rw [e]))⟩
/-- what lies below stays -/
theorem GX.base {g : Nat} {w0 a b : World} (h0 : Grow w0 a) (hg : w0.heap.size ≤ g) (h : GX g a b) : Grow w0 b :=
  ⟨⟨h.os.trans h0.below.os, h.tape.trans h0.below.tape, h.output.trans h0.below.output, Nat.le_trans h0.size h.size, fun i hi => (h.block i (Nat.lt_of_lt_of_le hi h0.size) (by simp; omega)).trans (h0.below.block i hi)⟩⟩
/-- another block stays -/
theorem GX.blk {g k : Nat} {a b : World} {t : TypeId} {cs : Array Value} (h : GX g a b) (hk : k ≠ g) (hb : Blk a k t cs) : Blk b k t cs := by
  have hl := hb.lt
  unfold Blk at *
  rw [h.block k hl (by simpa using hk)]; exact hb
end Go.Proofs.Ytjhcbehnopmnpaa
