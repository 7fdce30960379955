/-
  The law ValsTell: its walk.
-/
import Derived.Test.YtjhcbehnopmnpaaLaws1
import Derived.Test.YtjhcbehnopmnpaaVals5
import Derived.Test.YtjhcbehnopmnpaaVals6
namespace Go.Proofs.Ytjhcbehnopmnpaa
open Go.RowKit Go.Calm
set_option linter.unusedSimpArgs false
set_option linter.unusedVariables false

set_option maxHeartbeats 8000000 in
set_option maxRecDepth 100000 in
theorem law_tell (a b : V) (sg : Int) (w : World) : Calls Try.prog 8 #[a.val, b.val, .int .i32 sg] w fun e w' => e = .returned (.bool true) ∧ Grow w w' := by
  have heq := run_eqlV
  unfold V.val
  go_enter Try.func8, Try.ntmps8
  go_wp2
  refine wp_forget (fun W => Blk W w.heap.size 29 #[.int .i64 a.k, .int .i64 a.n, .string a.s] ∧ Blk W (w.heap.size + 1) 29 #[.int .i64 b.k, .int .i64 b.n, .string b.s] ∧ Grow w W)
    ⟨(Blk.new _ _ _).al _, Blk.new' _ _ _ (by simp), (by repeat (first | (with_reducible exact Grow.refl _) | (with_reducible assumption) | (with_reducible refine Grow.set ?_ (by first | (simp; done) | (simp; omega)) _) | (with_reducible refine Grow.al ?_ _) | (with_reducible refine Grow.drew ?_) | (with_reducible refine Grow.drewN ?_ _) | (with_reducible refine Grow.trans ?_ (by assumption))))⟩ ?_
  rintro W ⟨A1, A2, G1⟩
  apply wp_region_calm 5 (by kernel_rfl) (by kernel_rfl)
  case h' =>
    intro Q0 hQ0
    simp only [List.take_succ_cons, List.take_zero]
    repeat (
      first
        | (apply calm_p rfl; case h1 => (intro w1 hw1 hF K hK; obtain ⟨c1, f1⟩ := (Blk.grow A1 hw1).rules; go_simp; first | exact hK _ (Grow.refl _) | (go_at_call 41; ((with_reducible refine (wrong_any _ _).mono ?_); rintro e w' ⟨rfl, hg⟩; exact ⟨_, rfl, hK _ hg⟩)) | (go_at_call 42; ((with_reducible refine (rwrong_any _ _).mono ?_); rintro e w' ⟨rfl, hg⟩; exact ⟨_, rfl, hK _ hg⟩))))
        | (apply calm_y rfl rfl rfl; case h1 => (intro w1 hw1 hF K hK; obtain ⟨c1, f1⟩ := (Blk.grow A1 hw1).rules; go_simp; first | exact hK _ (Grow.refl _) | (go_at_call 41; ((with_reducible refine (wrong_any _ _).mono ?_); rintro e w' ⟨rfl, hg⟩; exact ⟨_, rfl, hK _ hg⟩)) | (go_at_call 42; ((with_reducible refine (rwrong_any _ _).mono ?_); rintro e w' ⟨rfl, hg⟩; exact ⟨_, rfl, hK _ hg⟩))))
        | apply calm_n rfl rfl rfl rfl
      intro K hK
      go_simp
      apply hK
      clear hK K)
    refine calm_nil ?_
    intro w1 hw1 hF
    apply hQ0
    clear hQ0
    simp only [List.drop_succ_cons, List.drop_zero]
    clear hF
    replace A1 := Blk.grow A1 hw1
    replace A2 := Blk.grow A2 hw1
    have hg := G1.trans hw1
    clear G1 hw1
    obtain ⟨hc, hf, hz⟩ := hg.rules
    obtain ⟨c1, f1⟩ := A1.rules
    obtain ⟨c2, f2⟩ := A2.rules
    cases hr : [a, b].all rightB
    · go_wp2_with (go_at_call 25; ((with_reducible refine (right2 a b _ _ _ 29 (Blk.new' _ _ _ (by simp))).mono ?_); rintro e w2' ⟨rfl, hg2⟩; replace A1 := Blk.grow (A1.al _) hg2; replace A2 := Blk.grow (A2.al _) hg2; replace hg := (hg.al _).trans hg2; clear hg2 hc hf hz; obtain ⟨hc, hf, hz⟩ := hg.rules))
      go_ret
      exact ⟨rfl, (by repeat (first | (with_reducible exact Grow.refl _) | (with_reducible assumption) | (with_reducible refine Grow.set ?_ (by first | (simp; done) | (simp; omega)) _) | (with_reducible refine Grow.al ?_ _) | (with_reducible refine Grow.drew ?_) | (with_reducible refine Grow.drewN ?_ _) | (with_reducible refine Grow.trans ?_ (by assumption))))⟩
    · have hv := right_all _ hr
      have va := hv a (by simp)
      have vb := hv b (by simp)
      have ra := va.rb
      have rb := vb.rb
      have hco := cmp_ord a b va vb
      have hor := ordV_range a b
      have hia : isB a true = (rankV a == 2) := by
        rcases rank_cases a va with ⟨r, f, t⟩ | ⟨r, f, t⟩ | ⟨r, f, t⟩ <;> simp [r, f, t]
      clear hv
      go_wp2_with (go_at_call 25; ((with_reducible refine (right2 a b _ _ _ 29 (Blk.new' _ _ _ (by simp))).mono ?_); rintro e w2' ⟨rfl, hg2⟩; replace A1 := Blk.grow (A1.al _) hg2; replace A2 := Blk.grow (A2.al _) hg2; replace hg := (hg.al _).trans hg2; clear hg2 hc hf hz; obtain ⟨hc, hf, hz⟩ := hg.rules))
      refine wp_forget (fun W => Blk W w.heap.size 29 #[.int .i64 a.k, .int .i64 a.n, .string a.s] ∧ Blk W (w.heap.size + 1) 29 #[.int .i64 b.k, .int .i64 b.n, .string b.s] ∧ Grow w W)
        ⟨A1, A2, (by repeat (first | (with_reducible exact Grow.refl _) | (with_reducible assumption) | (with_reducible refine Grow.set ?_ (by first | (simp; done) | (simp; omega)) _) | (with_reducible refine Grow.al ?_ _) | (with_reducible refine Grow.drew ?_) | (with_reducible refine Grow.drewN ?_ _) | (with_reducible refine Grow.trans ?_ (by assumption))))⟩ ?_
      clear c1 f1 c2 f2 A1 A2 hg hc hf hz
      rintro W2 ⟨A1, A2, G1⟩
      simp only [List.append]
      apply wp_region_calm 85 (by kernel_rfl) (by kernel_rfl)
      case h' =>
        intro Q0 hQ0
        simp only [List.take_succ_cons, List.take_zero]
        repeat (
          first
            | (apply calm_p rfl; case h1 => (intro w1 hw1 hF K hK; obtain ⟨c1, f1⟩ := (Blk.grow A1 hw1).rules; obtain ⟨c2, f2⟩ := (Blk.grow A2 hw1).rules; go_simp; first | exact hK _ (Grow.refl _) | (go_at_call 35; ((with_reducible refine (bare_any _ _).mono ?_); rintro e w' ⟨rfl, hg⟩; exact ⟨_, rfl, hK _ hg⟩)) | (go_at_call 43; ((with_reducible refine (rbare_any _ va _).mono ?_); rintro e w' ⟨rfl, hg⟩; exact ⟨_, rfl, hK _ hg⟩)) | (go_at_call 34; ((with_reducible refine (compare_any _ _ _).mono ?_); rintro e w' ⟨rfl, hg⟩; exact ⟨_, rfl, hK _ hg⟩)) | (go_at_call 44; ((with_reducible refine (order_any _ _ _).mono ?_); rintro e w' ⟨rfl, hg⟩; exact ⟨_, rfl, hK _ hg⟩)) | (go_at_call 36; ((with_reducible refine (eq_any _ _ _).mono ?_); rintro e w' ⟨rfl, hg⟩; exact ⟨_, rfl, hK _ hg⟩)) | (go_at_call 45; ((with_reducible refine (req_any _ _ hco _).mono ?_); rintro e w' ⟨rfl, hg⟩; exact ⟨_, rfl, hK _ hg⟩)) | (go_at_call 37; ((with_reducible refine (less_any _ _ _).mono ?_); rintro e w' ⟨rfl, hg⟩; exact ⟨_, rfl, hK _ hg⟩)) | (go_at_call 46; ((with_reducible refine (rless_any _ _ hco hor _).mono ?_); rintro e w' ⟨rfl, hg⟩; exact ⟨_, rfl, hK _ hg⟩)) | (go_at_call 31; ((with_reducible refine (and_any _ _ ra rb _).mono ?_); rintro e w' ⟨rfl, hg⟩; exact ⟨_, rfl, hK _ hg⟩)) | (go_at_call 47; ((with_reducible refine (rand_any _ _ va vb _).mono ?_); rintro e w' ⟨rfl, hg⟩; exact ⟨_, rfl, hK _ hg⟩)) | (go_at_call 32; ((with_reducible refine (or_any _ _ ra rb _).mono ?_); rintro e w' ⟨rfl, hg⟩; exact ⟨_, rfl, hK _ hg⟩)) | (go_at_call 48; ((with_reducible refine (ror_any _ _ va vb _).mono ?_); rintro e w' ⟨rfl, hg⟩; exact ⟨_, rfl, hK _ hg⟩)) | (go_at_call 33; ((with_reducible refine (not' _ ra _).mono ?_); rintro e w' ⟨rfl, hg⟩; exact ⟨_, rfl, hK _ hg⟩)) | (go_at_call 49; ((with_reducible refine (rnot_any _ va _).mono ?_); rintro e w' ⟨rfl, hg⟩; exact ⟨_, rfl, hK _ hg⟩)) | (go_at_call 39; ((with_reducible refine (true_any _ ra _).mono ?_); rintro e w' ⟨rfl, hg⟩; exact ⟨_, rfl, hK _ hg⟩)) | (go_at_call 50; ((with_reducible refine (is_any _ _ _).mono ?_); rintro e w' ⟨rfl, hg⟩; exact ⟨_, rfl, hK _ hg⟩)) | (go_at_call 30; ((with_reducible refine (reckon_any _ _ _ va vb _).mono ?_); rintro e w' ⟨rfl, hg⟩; exact ⟨_, rfl, hK _ hg⟩)) | (go_at_call 51; ((with_reducible refine (rreckon_any _ _ _ va vb _).mono ?_); rintro e w' ⟨rfl, hg⟩; exact ⟨_, rfl, hK _ hg⟩)) | (go_at_call 52; ((with_reducible refine (join_any _ _ va vb _).mono ?_); rintro e w' ⟨rfl, hg⟩; exact ⟨_, rfl, hK _ hg⟩)) | (go_at_call 53; ((with_reducible refine (rjoin_any _ _ va vb _).mono ?_); rintro e w' ⟨rfl, hg⟩; exact ⟨_, rfl, hK _ hg⟩))))
            | (apply calm_y rfl rfl rfl; case h1 => (intro w1 hw1 hF K hK; obtain ⟨c1, f1⟩ := (Blk.grow A1 hw1).rules; obtain ⟨c2, f2⟩ := (Blk.grow A2 hw1).rules; go_simp; first | exact hK _ (Grow.refl _) | (go_at_call 35; ((with_reducible refine (bare_any _ _).mono ?_); rintro e w' ⟨rfl, hg⟩; exact ⟨_, rfl, hK _ hg⟩)) | (go_at_call 43; ((with_reducible refine (rbare_any _ va _).mono ?_); rintro e w' ⟨rfl, hg⟩; exact ⟨_, rfl, hK _ hg⟩)) | (go_at_call 34; ((with_reducible refine (compare_any _ _ _).mono ?_); rintro e w' ⟨rfl, hg⟩; exact ⟨_, rfl, hK _ hg⟩)) | (go_at_call 44; ((with_reducible refine (order_any _ _ _).mono ?_); rintro e w' ⟨rfl, hg⟩; exact ⟨_, rfl, hK _ hg⟩)) | (go_at_call 36; ((with_reducible refine (eq_any _ _ _).mono ?_); rintro e w' ⟨rfl, hg⟩; exact ⟨_, rfl, hK _ hg⟩)) | (go_at_call 45; ((with_reducible refine (req_any _ _ hco _).mono ?_); rintro e w' ⟨rfl, hg⟩; exact ⟨_, rfl, hK _ hg⟩)) | (go_at_call 37; ((with_reducible refine (less_any _ _ _).mono ?_); rintro e w' ⟨rfl, hg⟩; exact ⟨_, rfl, hK _ hg⟩)) | (go_at_call 46; ((with_reducible refine (rless_any _ _ hco hor _).mono ?_); rintro e w' ⟨rfl, hg⟩; exact ⟨_, rfl, hK _ hg⟩)) | (go_at_call 31; ((with_reducible refine (and_any _ _ ra rb _).mono ?_); rintro e w' ⟨rfl, hg⟩; exact ⟨_, rfl, hK _ hg⟩)) | (go_at_call 47; ((with_reducible refine (rand_any _ _ va vb _).mono ?_); rintro e w' ⟨rfl, hg⟩; exact ⟨_, rfl, hK _ hg⟩)) | (go_at_call 32; ((with_reducible refine (or_any _ _ ra rb _).mono ?_); rintro e w' ⟨rfl, hg⟩; exact ⟨_, rfl, hK _ hg⟩)) | (go_at_call 48; ((with_reducible refine (ror_any _ _ va vb _).mono ?_); rintro e w' ⟨rfl, hg⟩; exact ⟨_, rfl, hK _ hg⟩)) | (go_at_call 33; ((with_reducible refine (not' _ ra _).mono ?_); rintro e w' ⟨rfl, hg⟩; exact ⟨_, rfl, hK _ hg⟩)) | (go_at_call 49; ((with_reducible refine (rnot_any _ va _).mono ?_); rintro e w' ⟨rfl, hg⟩; exact ⟨_, rfl, hK _ hg⟩)) | (go_at_call 39; ((with_reducible refine (true_any _ ra _).mono ?_); rintro e w' ⟨rfl, hg⟩; exact ⟨_, rfl, hK _ hg⟩)) | (go_at_call 50; ((with_reducible refine (is_any _ _ _).mono ?_); rintro e w' ⟨rfl, hg⟩; exact ⟨_, rfl, hK _ hg⟩)) | (go_at_call 30; ((with_reducible refine (reckon_any _ _ _ va vb _).mono ?_); rintro e w' ⟨rfl, hg⟩; exact ⟨_, rfl, hK _ hg⟩)) | (go_at_call 51; ((with_reducible refine (rreckon_any _ _ _ va vb _).mono ?_); rintro e w' ⟨rfl, hg⟩; exact ⟨_, rfl, hK _ hg⟩)) | (go_at_call 52; ((with_reducible refine (join_any _ _ va vb _).mono ?_); rintro e w' ⟨rfl, hg⟩; exact ⟨_, rfl, hK _ hg⟩)) | (go_at_call 53; ((with_reducible refine (rjoin_any _ _ va vb _).mono ?_); rintro e w' ⟨rfl, hg⟩; exact ⟨_, rfl, hK _ hg⟩))))
            | apply calm_n rfl rfl rfl rfl
          intro K hK
          go_simp
          apply hK
          clear hK K)
        refine calm_nil ?_
        intro w1 hw1 hF
        apply hQ0
        clear hQ0
        simp only [List.drop_succ_cons, List.drop_zero]
        clear hF
        go_wp2
        go_ret
        exact ⟨rfl, G1.trans hw1⟩
      case hp' => trivial
  case hp' => trivial
end Go.Proofs.Ytjhcbehnopmnpaa
