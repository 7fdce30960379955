/- Parts of a proof. No condition. -/
import Derived.Test.YthhbiemnbkfobaaGreatGD
set_option linter.unusedSimpArgs false
set_option linter.unusedVariables false
namespace Go.Proofs.YthhbiemnbkfobaaGreat
open Go.RowKit Go.Calm
theorem GX.cell {g : Nat} {a b : World} (h : GX g a b) {k o : Nat} {v : Value} (hc : a.cell? ⟨k, o, none⟩ = some v) (hne : k ≠ g) : b.cell? ⟨k, o, none⟩ = some v := World.grownBy.cell h hc vB_
abbrev Lf (w : World) (B : Nat) (t : Value) (ts : List Int) : Prop := w.ownsRow B 5 1 t ts.length (ts.map (fun x => Value.int .u8 (VO x)))
theorem Lf.cells {w : World} {B : Nat} {t : Value} {ts : List Int} (h : Lf w B t ts) (h1 : ts ≠ []) : ∃ g cap, t = .slice (some ⟨g, 0, none⟩) ts.length cap /\ ts.length <= cap /\ ∀ (i : Nat) (x : Int), ts[i]? = some x -> w.cell? ⟨g, i, none⟩ = some (.int .u8 (VO x)) := by
  obtain ⟨_, h⟩ := h; rcases h with ⟨_, h0⟩ | ⟨g, cap, cur, rfl, hB, hg, hle, hmx, hcs, htk⟩
  · exact absurd (List.length_eq_zero_iff.1 h0) h1
  · refine ⟨g, cap, rfl, hle, fun i x hx => ?_⟩
    have hi : i < ts.length := (qQ9.1 hx).1; have hb : zc w g 5 cur := hg; rw [hb.cell i]; have e : (ts.map (fun x => Value.int .u8 (VO x)))[i]? = some (.int .u8 (VO x)) := by simp [hx]
    rw [<- htk, List.getElem?_take] at e; simpa [hi] using e
theorem Lf.kept {w w' : World} {B g : Nat} {t : Value} {ts : List Int} (h : Lf w B t ts) (hg : GX g w w') (hlt : g < B) : Lf w' B t ts := World.ownsRow.kept h hg (KI h hlt)
