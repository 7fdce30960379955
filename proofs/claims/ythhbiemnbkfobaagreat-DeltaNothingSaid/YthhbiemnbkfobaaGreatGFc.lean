/- Parts of a proof. No condition. -/
import Derived.Test.YthhbiemnbkfobaaGreatGQb
set_option linter.unusedSimpArgs false
set_option linter.unusedVariables false
namespace Go.Proofs.YthhbiemnbkfobaaGreat
open Go.RowKit Go.Calm
abbrev MV (n : Int) : PL := .mk 1 n .leaf Sh Sg none 0 0 (fun _ => .leaf)
theorem CF (w : World) {n : Int} (hn : qp n) : PX w (MV n) := .mk (Nat.zero_le _) (fun i hi => absurd hi (Nat.not_lt_zero _)) (fun i hi => absurd hi (Nat.not_lt_zero _)) .leaf (fun i x h => by simp at h) (fun i x h => by simp at h) ⟨by decide, by decide⟩ ⟨⟨by decide, by decide⟩, hn⟩
abbrev Dh (gk : Nat) : PL := Ft 8 0 .leaf Sh Sg gk 2 (MV 0) (MV 0)
theorem Wh {g n c : Nat} (h : n <= c) : zN (some ⟨g, 0, none⟩) n c := ⟨h, fun e => by cases e⟩
/-! is -/
