/-
  The law Names: its walk.
-/
import Derived.Test.YtjhcbehnopmnpaaVals3
import Derived.BigQuiet
import Derived.Deep.QuietTactic
namespace Go.Proofs.Ytjhcbehnopmnpaa
open Go.RowKit Go.Calm
set_option linter.unusedSimpArgs false
set_option linter.unusedVariables false

def namesL : List Int := [1, 2, 3, 4, 1000000000000000, 60, 400, 8, 1000000, 1, 2, 3, 4, 5, 6, 7, 8, 9, 10, 11, 12, 13, 14, 15, 16, 17, 18, 20, 200, 1, 2, 3, 4, 5, 1, 2, 3, 4, 5, 6, 7, 8, 9, 10, 11, 12, 13, 8, 60, 15, 19, 20, 21, 22, 23, 1, 2, 3, 4, 5, 1, 2, 3, 4, 1, 2, 3, 4, 5, 4000, 12, 60, 4, 4, 100, 1, 2, 3, 4, 5, 50, 30, 50, 16, 100000]
def namesA : Array Value := #[.int .i64 1, .int .i64 2, .int .i64 3, .int .i64 4, .int .i64 1000000000000000, .int .i64 60, .int .i64 400, .int .i64 8, .int .i64 1000000, .int .i64 1, .int .i64 2, .int .i64 3, .int .i64 4, .int .i64 5, .int .i64 6, .int .i64 7, .int .i64 8, .int .i64 9, .int .i64 10, .int .i64 11, .int .i64 12, .int .i64 13, .int .i64 14, .int .i64 15, .int .i64 16, .int .i64 17, .int .i64 18, .int .i64 20, .int .i64 200, .int .i64 1, .int .i64 2, .int .i64 3, .int .i64 4, .int .i64 5, .int .i64 1, .int .i64 2, .int .i64 3, .int .i64 4, .int .i64 5, .int .i64 6, .int .i64 7, .int .i64 8, .int .i64 9, .int .i64 10, .int .i64 11, .int .i64 12, .int .i64 13, .int .i64 8, .int .i64 60, .int .i64 15, .int .i64 19, .int .i64 20, .int .i64 21, .int .i64 22, .int .i64 23, .int .i64 1, .int .i64 2, .int .i64 3, .int .i64 4, .int .i64 5, .int .i64 1, .int .i64 2, .int .i64 3, .int .i64 4, .int .i64 1, .int .i64 2, .int .i64 3, .int .i64 4, .int .i64 5, .int .i64 4000, .int .i64 12, .int .i64 60, .int .i64 4, .int .i64 4, .int .i64 100, .int .i64 1, .int .i64 2, .int .i64 3, .int .i64 4, .int .i64 5, .int .i64 50, .int .i64 30, .int .i64 50, .int .i64 16, .int .i64 100000]
theorem namesA_eq : namesA = (namesL.map (Value.int .i64)).toArray := rfl
theorem names_at (k : Nat) (h : k < 85) : ∃ n : Int, namesA[k]? = some (.int .i64 n) := by
  rw [namesA_eq]
  have hl : namesL.length = 85 := rfl
  refine ⟨namesL[k]'(by omega), ?_⟩
  simp [hl, h]

set_option maxHeartbeats 8000000 in
set_option maxRecDepth 100000 in
theorem law_names (w : World) : Calls Try.prog 18 #[] w fun e w' => e = .returned (.bool true) ∧ Grow w w' := by
  go_enter Try.func18, Try.ntmps18
  go_wp2
  refine wp_loop_rounds 13 ?_
  iterate 13 (rw [rounds_succ]; go_wp2)
  refine wp_forget (fun W => Blk W (w.heap.size + 1) 3 namesA ∧ Blk W (w.heap.size + 1 + 1) 3 namesA ∧ Grow w W)
    ⟨(Blk.new' _ _ _ (by simp)).al _, Blk.new' _ _ _ (by simp), (by repeat (first | (with_reducible exact Grow.refl _) | (with_reducible assumption) | (with_reducible refine Grow.set ?_ (by first | (simp; done) | (simp; omega)) _) | (with_reducible refine Grow.al ?_ _) | (with_reducible refine Grow.drew ?_) | (with_reducible refine Grow.drewN ?_ _) | (with_reducible refine Grow.trans ?_ (by assumption))))⟩ ?_
  generalize w.heap.size + 1 + 1 = g2
  generalize w.heap.size + 1 = g1
  rintro W ⟨B1, B2, G⟩
  go_loopw [23] (fun i wr => ∃ k : Nat, k ≤ 85 ∧ i = .int .i64 k ∧ Grow W wr) (fun i _ => 85 - (intOf i).toNat)
  case atStart => exact ⟨0, Nat.zero_le _, rfl, Grow.refl _⟩
  case round =>
    obtain ⟨k, hk, rfl, hg⟩ := hrel
    by_cases hlt : k < 85
    · obtain ⟨n, hn⟩ := names_at k hlt
      have c1 := (Blk.grow B1 hg).cells hn
      have c2 := (Blk.grow B2 hg).cells hn
      clear hn
      go_wp2
      go_quiet (fail)
      go_wp2
      go_roundw
      case rel => exact ⟨k + 1, by omega, by go_num, hg.drewN _⟩
      case measure => simp [intOf]; omega
    · obtain rfl : k = 85 := by omega
      go_wp2
      go_ret
      exact ⟨rfl, G.trans hg⟩
end Go.Proofs.Ytjhcbehnopmnpaa
