/-
  Joined texts of this claim: Ex10, Ex11, Ex12, Ex13. What each proves its own head says; no condition beside those that each theorem names.
-/
import Derived.Test.YtamfpppbjaelaaaGD
import Derived.BigQuiet
import Derived.Deep.QuietTactic
namespace Go.Proofs.Ytamfpppbjaelaaa
open Go.RowKit Go.Calm
set_option linter.unusedSimpArgs false
set_option linter.unusedVariables false
theorem GX.cell {g : Nat} {a b : World} (h : GX g a b) {k o : Nat} {v : Value} (hc : a.cell? ⟨k, o, none⟩ = some v) (hne : k ≠ g) : b.cell? ⟨k, o, none⟩ = some v := World.grownBy.cell h hc (by simpa using hne)
abbrev OwnsL (w : World) (B : Nat) (t : Value) (ts : List Int) : Prop := w.ownsRow B 5 1 t ts.length (ts.map (fun x => Value.int .u8 (lett x)))
theorem OwnsL.cells {w : World} {B : Nat} {t : Value} {ts : List Int} (h : OwnsL w B t ts) (h1 : ts ≠ []) : ∃ g cap, t = .slice (some ⟨g, 0, none⟩) ts.length cap ∧ ts.length ≤ cap ∧ ∀ (i : Nat) (x : Int), ts[i]? = some x → w.cell? ⟨g, i, none⟩ = some (.int .u8 (lett x)) := by
  obtain ⟨_, h⟩ := h
  rcases h with ⟨_, h0⟩ | ⟨g, cap, cur, rfl, hB, hg, hle, hmx, hcs, htk⟩
  · exact absurd (List.length_eq_zero_iff.1 h0) h1
  · refine ⟨g, cap, rfl, hle, fun i x hx => ?_⟩
    have hi : i < ts.length := (List.getElem?_eq_some_iff.1 hx).1
    have hb : Blk w g 5 cur := hg
    rw [hb.cell i]
    have e : (ts.map (fun x => Value.int .u8 (lett x)))[i]? = some (.int .u8 (lett x)) := by simp [hx]
    rw [← htk, List.getElem?_take] at e
    simpa [hi] using e
theorem OwnsL.kept {w w' : World} {B g : Nat} {t : Value} {ts : List Int} (h : OwnsL w B t ts) (hg : GX g w w') (hlt : g < B) : OwnsL w' B t ts := World.ownsRow.kept h hg (own_ne h hlt)
end Go.Proofs.Ytamfpppbjaelaaa
