/-
  The law ValsLogic: its walk.
-/
import Derived.Test.YtjhcbehnopmnpaaLaws1
namespace Go.Proofs.Ytjhcbehnopmnpaa
open Go.RowKit Go.Calm
set_option linter.unusedSimpArgs false
set_option linter.unusedVariables false

set_option maxHeartbeats 8000000 in
set_option maxRecDepth 100000 in
theorem law_logic (a b c : V) (w : World) : Calls Try.prog 5 #[a.val, b.val, c.val] w fun e w' => e = .returned (.bool true) ∧ Grow w w' := by
  have heq := run_eqlV
  cases hr : [a, b, c].all rightB
  · unfold V.val
    go_enter Try.func5, Try.ntmps5
    go_wp2_with (first | (go_at_call 28; ((with_reducible refine (alive1 _).mono ?_); rintro e w' ⟨rfl, hg⟩; obtain ⟨hc, hf, hz⟩ := hg.rules)) | (go_at_call 25; ((with_reducible refine (right3 a b c _ _ _ 29 (Blk.new' _ _ _ (by simp))).mono ?_); rintro e w2' ⟨rfl, hg2⟩; replace hg := (hg.al _).trans hg2; clear hg2 hc hf hz; obtain ⟨hc, hf, hz⟩ := hg.rules)))
    go_ret
    exact ⟨rfl, (by repeat (first | (with_reducible exact Grow.refl _) | (with_reducible assumption) | (with_reducible refine Grow.set ?_ (by first | (simp; done) | (simp; omega)) _) | (with_reducible refine Grow.al ?_ _) | (with_reducible refine Grow.drew ?_) | (with_reducible refine Grow.drewN ?_ _) | (with_reducible refine Grow.trans ?_ (by assumption))))⟩
  · have hv := right_all _ hr
    have ra := (hv a (by simp)).rb
    have rb := (hv b (by simp)).rb
    have rc := (hv c (by simp)).rb
    obtain ⟨k1, k2, k3, k4, k5, k6, k7, k8, k9⟩ := kleene a b c ra rb rc
    clear hv
    unfold V.val
    go_enter Try.func5, Try.ntmps5
    go_wp2_with (first | (go_at_call 28; ((with_reducible refine (alive1 _).mono ?_); rintro e w' ⟨rfl, hg⟩; obtain ⟨hc, hf, hz⟩ := hg.rules)) | (go_at_call 25; ((with_reducible refine (right3 a b c _ _ _ 29 (Blk.new' _ _ _ (by simp))).mono ?_); rintro e w2' ⟨rfl, hg2⟩; replace hg := (hg.al _).trans hg2; clear hg2 hc hf hz; obtain ⟨hc, hf, hz⟩ := hg.rules)))
    refine wp_forget (fun W => Blk W w.heap.size 29 #[.int .i64 a.k, .int .i64 a.n, .string a.s] ∧ Blk W (w.heap.size + 1) 29 #[.int .i64 b.k, .int .i64 b.n, .string b.s] ∧ Blk W (w.heap.size + 2) 29 #[.int .i64 c.k, .int .i64 c.n, .string c.s] ∧ Grow w W)
      ⟨Blk.grow (((Blk.new _ _ _).al _).al _) hg, Blk.grow ((Blk.new' _ _ _ (by simp)).al _) hg, Blk.grow (Blk.new' _ _ _ (by simp)) hg, (by repeat (first | (with_reducible exact Grow.refl _) | (with_reducible assumption) | (with_reducible refine Grow.set ?_ (by first | (simp; done) | (simp; omega)) _) | (with_reducible refine Grow.al ?_ _) | (with_reducible refine Grow.drew ?_) | (with_reducible refine Grow.drewN ?_ _) | (with_reducible refine Grow.trans ?_ (by assumption))))⟩ ?_
    clear hg hc hf hz
    rintro W ⟨A1, A2, A3, G1⟩
    simp only [List.append]
    apply wp_region_calm 141 (by kernel_rfl) (by kernel_rfl)
    case h' =>
      intro Q0 hQ0
      simp only [List.take_succ_cons, List.take_zero]
      repeat (
        first
          | (apply calm_p rfl; case h1 => (intro w1 hw1 hF K hK; obtain ⟨c1, f1⟩ := (Blk.grow A1 hw1).rules; obtain ⟨c2, f2⟩ := (Blk.grow A2 hw1).rules; obtain ⟨c3, f3⟩ := (Blk.grow A3 hw1).rules; go_simp; first | exact hK _ (Grow.refl _) | (go_at_call 31; ((with_reducible refine (and_any _ _ (by first | assumption | exact rb_and _ _ | exact rb_or _ _ | exact rb_not _) (by first | assumption | exact rb_and _ _ | exact rb_or _ _ | exact rb_not _) _).mono ?_); rintro e w' ⟨rfl, hg⟩; exact ⟨_, rfl, hK _ hg⟩)) | (go_at_call 32; ((with_reducible refine (or_any _ _ (by first | assumption | exact rb_and _ _ | exact rb_or _ _ | exact rb_not _) (by first | assumption | exact rb_and _ _ | exact rb_or _ _ | exact rb_not _) _).mono ?_); rintro e w' ⟨rfl, hg⟩; exact ⟨_, rfl, hK _ hg⟩)) | (go_at_call 33; ((with_reducible refine (not' _ (by first | assumption | exact rb_and _ _ | exact rb_or _ _ | exact rb_not _) _).mono ?_); rintro e w' ⟨rfl, hg⟩; exact ⟨_, rfl, hK _ hg⟩))))
          | (apply calm_y rfl rfl rfl; case h1 => (intro w1 hw1 hF K hK; obtain ⟨c1, f1⟩ := (Blk.grow A1 hw1).rules; obtain ⟨c2, f2⟩ := (Blk.grow A2 hw1).rules; obtain ⟨c3, f3⟩ := (Blk.grow A3 hw1).rules; go_simp; first | exact hK _ (Grow.refl _) | (go_at_call 31; ((with_reducible refine (and_any _ _ (by first | assumption | exact rb_and _ _ | exact rb_or _ _ | exact rb_not _) (by first | assumption | exact rb_and _ _ | exact rb_or _ _ | exact rb_not _) _).mono ?_); rintro e w' ⟨rfl, hg⟩; exact ⟨_, rfl, hK _ hg⟩)) | (go_at_call 32; ((with_reducible refine (or_any _ _ (by first | assumption | exact rb_and _ _ | exact rb_or _ _ | exact rb_not _) (by first | assumption | exact rb_and _ _ | exact rb_or _ _ | exact rb_not _) _).mono ?_); rintro e w' ⟨rfl, hg⟩; exact ⟨_, rfl, hK _ hg⟩)) | (go_at_call 33; ((with_reducible refine (not' _ (by first | assumption | exact rb_and _ _ | exact rb_or _ _ | exact rb_not _) _).mono ?_); rintro e w' ⟨rfl, hg⟩; exact ⟨_, rfl, hK _ hg⟩))))
          | apply calm_n rfl rfl rfl rfl
        intro K hK
        go_simp
        apply hK
        clear hK K)
      refine calm_nil ?_
      intro w1 hw1 hF
      apply hQ0
      clear hQ0
      simp only [List.drop_succ_cons, List.drop_zero]
      clear hF
      go_wp2
      go_ret
      exact ⟨rfl, G1.trans hw1⟩
    case hp' => trivial
end Go.Proofs.Ytjhcbehnopmnpaa
