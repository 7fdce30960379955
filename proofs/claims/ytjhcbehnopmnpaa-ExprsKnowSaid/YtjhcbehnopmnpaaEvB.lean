/-
  Chapter 3's alive.
-/
import Derived.Test.YtjhcbehnopmnpaaEvE
import Derived.Test.YtjhcbehnopmnpaaEvC
namespace Go.Proofs.Ytjhcbehnopmnpaa
open Go.RowKit Go.Calm
set_option linter.unusedSimpArgs false
set_option linter.unusedVariables false

set_option maxRecDepth 100000 in
set_option maxHeartbeats 4000000 in
theorem alive3 (w : World) : Calls Try.prog 60 #[] w fun e w' => e = .returned (.bool true) ∧ Grow w w' := by
  have heq := run_eqlV
  have i0 : inI64 0 := ⟨by decide, by decide⟩
  have i1 : inI64 1 := ⟨by decide, by decide⟩
  have i12 : inI64 12 := ⟨by decide, by decide⟩
  have ev : ∀ (A : Option Addr) (W : World) (g1 g2 : Nat), ISl W (some ⟨g1, 0, none⟩) [3, 3] → VSl W (some ⟨g2, 0, none⟩) [numV 2, numV 3] → EX W (twoK 12 (colK 0) (colK 1) A) → Calls Try.prog 58 #[.slice (some ⟨g1, 0, none⟩) 2 2, (twoK 12 (colK 0) (colK 1) A).val, .slice (some ⟨g2, 0, none⟩) 2 2] W fun en w' => en = .returned (.tuple #[(numV 5).val, .int .i64 0]) ∧ Grow W w' :=
    fun A W g1 g2 h1 h2 h3 => eval_any [3, 3] [numV 2, numV 3] _ _ _ _ (twoK 12 (colK 0) (colK 1) A) W (by decide) (by decide) h1 h2 h3 (numV 5) 0 (alive_val A)
  go_enter Try.func60, Try.ntmps60
  have G := Grow.refl w
  have hB : ∀ W, Grow (w.alloc (.cells #[.int .i64 3, .int .i64 3] 3)) W → ISl W (some ⟨w.heap.size, 0, none⟩) [3, 3] := fun W hG i x hx => by
    have b := (Blk.new w 3 #[.int .i64 3, .int .i64 3]).grow hG
    refine ⟨w.heap.size, 0, rfl, ?_⟩
    match i, hx with
    | 0, hx => simp at hx; subst hx; exact b.cells rfl
    | 1, hx => simp at hx; subst hx; exact b.cells rfl
  replace G : Grow (w.alloc (.cells #[.int .i64 3, .int .i64 3] 3)) (w.alloc (.cells #[.int .i64 3, .int .i64 3] 3)) := Grow.refl _
  go_upto_region 2 with (first
    | (go_at_call 113; ((with_reducible refine (col_any _ _).mono ?_); rintro e w2 ⟨rfl, hg2⟩; replace G := G.trans hg2; clear hg2))
    | (go_at_call 114; ((with_reducible refine (num3_any _ _).mono ?_); rintro e w3 ⟨rfl, hg2⟩; replace G := G.trans hg2; have hX := hX.grow hg2; clear hg2))
    | (go_at_call 61; ((with_reducible refine (two_any 12 i12 (colK 0) (colK 1) _ (ex_col _ 0 i0) (ex_col _ 1 i1)).mono ?_); rintro e w4 ⟨A, rfl, hX, hg2⟩; replace G := G.trans hg2; clear hg2))
    | (go_at_call 58; ((with_reducible refine (ev _ _ _ _ (hB _ (G.al _)) (vsl2 (Blk.new _ 29 _)) (hX.grow ((Grow.refl _).al _))).mono ?_); rintro e w5 ⟨rfl, hg2⟩; replace G := (G.al _).trans hg2; clear hg2)))
  refine wp_forget (fun X => Blk X w5.heap.size 29 #[.int .i64 (numV 5).k, .int .i64 (numV 5).n, .string (numV 5).s] ∧ Grow w X) ⟨Blk.new _ _ _, ((Grow.refl w).al _).trans (G.al _)⟩ ?_
  generalize w5.heap.size = g5
  clear G hB
  rintro X ⟨B, G⟩
  apply wp_region_calm 8 (by kernel_rfl) (by kernel_rfl)
  case h' =>
    intro Q0 hQ0
    simp only [List.take_succ_cons, List.take_zero]
    repeat (
      first
        | (apply calm_p rfl; case h1 => (intro w1 hw1 hF K hK; obtain ⟨c1, f1⟩ := (Blk.grow B hw1).rules; go_simp; first | exact hK _ (Grow.refl _) | (go_at_call 114; ((with_reducible refine (num3_any _ _).mono ?_); rintro e w' ⟨rfl, hg⟩; exact ⟨_, rfl, hK _ hg⟩))))
        | (apply calm_y rfl rfl rfl; case h1 => (intro w1 hw1 hF K hK; obtain ⟨c1, f1⟩ := (Blk.grow B hw1).rules; go_simp; first | exact hK _ (Grow.refl _) | (go_at_call 114; ((with_reducible refine (num3_any _ _).mono ?_); rintro e w' ⟨rfl, hg⟩; exact ⟨_, rfl, hK _ hg⟩))))
        | apply calm_n rfl rfl rfl rfl
      intro K hK
      go_simp
      apply hK
      clear hK K)
    refine calm_nil ?_
    intro w1 hw1 hF
    apply hQ0
    clear hQ0
    simp only [List.drop_succ_cons, List.drop_zero]
    clear hF
    go_wp2
    go_ret
    exact ⟨rfl, G.trans hw1⟩
  case hp' => trivial
end Go.Proofs.Ytjhcbehnopmnpaa
