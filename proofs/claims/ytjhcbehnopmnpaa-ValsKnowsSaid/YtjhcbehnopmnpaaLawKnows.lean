/-
  The law ValsKnows: its walk.
-/
import Derived.Test.YtjhcbehnopmnpaaLaws1
namespace Go.Proofs.Ytjhcbehnopmnpaa
open Go.RowKit Go.Calm
set_option linter.unusedSimpArgs false
set_option linter.unusedVariables false

/-- what a null in the place of `a` gives against what `a` gives -/
theorem knows (a b : V) (ha : RB a) (hb : RB b) :
    (eqB (andV nullV' b) nullV' || eqB (andV nullV' b) (andV a b)) = true ∧
    (eqB (orV nullV' b) nullV' || eqB (orV nullV' b) (orV a b)) = true ∧
    (eqB (notV nullV') nullV' || eqB (notV nullV') (notV a)) = true ∧
    (eqB (eqV nullV' b) nullV' || eqB (eqV nullV' b) (eqV a b)) = true ∧
    (eqB (lessV a nullV') nullV' || eqB (lessV a nullV') (lessV a b)) = true := by
  have r0 : rankV nullV' = 1 := by simp [rankV, nullV']
  have e1 : rankedV 1 = nullV' := by simp [rankedV, nullV']
  have h1 := rank_vals a ha
  have h2 := rank_vals b hb
  have al1 : alikeB nullV' b = false := by simp [alikeB, nullV']
  have al2 : alikeB a nullV' = false := by simp [alikeB, nullV']
  refine ⟨?_, ?_, ?_, ?_, ?_⟩
  · unfold andV
    rw [r0]
    rcases h1 with h1 | h1 | h1 <;> rcases h2 with h2 | h2 | h2 <;> rw [h1, h2] <;> simp [minI, e1, eqB_self]
  · unfold orV
    rw [r0]
    rcases h1 with h1 | h1 | h1 <;> rcases h2 with h2 | h2 | h2 <;> rw [h1, h2] <;> simp [maxI, e1, eqB_self]
  · unfold notV
    rw [r0]
    simp [e1, eqB_self]
  · rw [show eqV nullV' b = nullV' by simp only [eqV, al1]; rfl]; simp [eqB_self]
  · rw [show lessV a nullV' = nullV' by simp only [lessV, al2]; rfl]; simp [eqB_self]

set_option maxHeartbeats 8000000 in
set_option maxRecDepth 100000 in
theorem law_knows (a b : V) (w : World) : Calls Try.prog 7 #[a.val, b.val] w fun e w' => e = .returned (.bool true) ∧ Grow w w' := by
  cases hr : [a, b].all rightB
  · unfold V.val
    go_enter Try.func7, Try.ntmps7
    go_wp2_with (first | (go_at_call 28; ((with_reducible refine (alive1 _).mono ?_); rintro e w' ⟨rfl, hg⟩; obtain ⟨hc, hf, hz⟩ := hg.rules)) | (go_at_call 25; ((with_reducible refine (right2 a b _ _ _ 29 (Blk.new' _ _ _ (by simp))).mono ?_); rintro e w2' ⟨rfl, hg2⟩; replace hg := (hg.al _).trans hg2; clear hg2 hc hf hz; obtain ⟨hc, hf, hz⟩ := hg.rules)))
    go_ret
    exact ⟨rfl, (by repeat (first | (with_reducible exact Grow.refl _) | (with_reducible assumption) | (with_reducible refine Grow.set ?_ (by first | (simp; done) | (simp; omega)) _) | (with_reducible refine Grow.al ?_ _) | (with_reducible refine Grow.drew ?_) | (with_reducible refine Grow.drewN ?_ _) | (with_reducible refine Grow.trans ?_ (by assumption))))⟩
  · have hv := right_all _ hr
    have ra := (hv a (by simp)).rb
    have rb := (hv b (by simp)).rb
    have r0 : RB nullV' := by intro h; simp [nullV'] at h
    obtain ⟨k1, k2, k3, k4, k5⟩ := knows a b ra rb
    clear hv
    unfold V.val
    go_enter Try.func7, Try.ntmps7
    go_wp2_with (first | (go_at_call 28; ((with_reducible refine (alive1 _).mono ?_); rintro e w' ⟨rfl, hg⟩; obtain ⟨hc, hf, hz⟩ := hg.rules)) | (go_at_call 25; ((with_reducible refine (right2 a b _ _ _ 29 (Blk.new' _ _ _ (by simp))).mono ?_); rintro e w2' ⟨rfl, hg2⟩; replace hg := (hg.al _).trans hg2; clear hg2 hc hf hz; obtain ⟨hc, hf, hz⟩ := hg.rules)) | (go_at_call 38; ((with_reducible refine (null' _).mono ?_); rintro e w2' ⟨rfl, hg2⟩; replace hg := hg.trans hg2; clear hg2 hc hf hz; obtain ⟨hc, hf, hz⟩ := hg.rules)))
    refine wp_forget (fun W => Blk W w.heap.size 29 #[.int .i64 a.k, .int .i64 a.n, .string a.s] ∧ Blk W (w.heap.size + 1) 29 #[.int .i64 b.k, .int .i64 b.n, .string b.s] ∧ Blk W w2'.heap.size 29 #[.int .i64 nullV'.k, .int .i64 nullV'.n, .string nullV'.s] ∧ Grow w W)
      ⟨(Blk.grow ((Blk.new _ _ _).al _) hg).al _, (Blk.grow (Blk.new' _ _ _ (by simp)) hg).al _, Blk.new _ _ _, (by repeat (first | (with_reducible exact Grow.refl _) | (with_reducible assumption) | (with_reducible refine Grow.set ?_ (by first | (simp; done) | (simp; omega)) _) | (with_reducible refine Grow.al ?_ _) | (with_reducible refine Grow.drew ?_) | (with_reducible refine Grow.drewN ?_ _) | (with_reducible refine Grow.trans ?_ (by assumption))))⟩ ?_
    clear hg hc hf hz
    generalize w2'.heap.size = g
    rintro W ⟨A1, A2, A3, G1⟩
    try simp only [List.append]
    apply wp_region_calm 47 (by kernel_rfl) (by kernel_rfl)
    case h' =>
      intro Q0 hQ0
      simp only [List.take_succ_cons, List.take_zero]
      repeat (
        first
          | (apply calm_p rfl; case h1 => (intro w1 hw1 hF K hK; obtain ⟨c1, f1⟩ := (Blk.grow A1 hw1).rules; obtain ⟨c2, f2⟩ := (Blk.grow A2 hw1).rules; have A3' := Blk.grow A3 hw1; obtain ⟨c3, f3⟩ := A3'.rules; go_simp; first | exact hK _ (Grow.refl _) | (go_at_call 31; ((with_reducible refine (and_any _ _ (by assumption) rb _).mono ?_); rintro e w' ⟨rfl, hg⟩; exact ⟨_, rfl, hK _ hg⟩)) | (go_at_call 32; ((with_reducible refine (or_any _ _ (by assumption) rb _).mono ?_); rintro e w' ⟨rfl, hg⟩; exact ⟨_, rfl, hK _ hg⟩)) | (go_at_call 33; ((with_reducible refine (not' _ (by assumption) _).mono ?_); rintro e w' ⟨rfl, hg⟩; exact ⟨_, rfl, hK _ hg⟩)) | (go_at_call 36; ((with_reducible refine (eq_any _ _ _).mono ?_); rintro e w' ⟨rfl, hg⟩; exact ⟨_, rfl, hK _ hg⟩)) | (go_at_call 37; ((with_reducible refine (less_any _ _ _).mono ?_); rintro e w' ⟨rfl, hg⟩; exact ⟨_, rfl, hK _ hg⟩)) | (go_at_call 40; ((with_reducible refine (knows_fn _ _ _ nullV' _ _ A3').mono ?_); rintro e w' ⟨rfl, hg⟩; exact ⟨_, rfl, hK _ hg⟩))))
          | (apply calm_y rfl rfl rfl; case h1 => (intro w1 hw1 hF K hK; obtain ⟨c1, f1⟩ := (Blk.grow A1 hw1).rules; obtain ⟨c2, f2⟩ := (Blk.grow A2 hw1).rules; have A3' := Blk.grow A3 hw1; obtain ⟨c3, f3⟩ := A3'.rules; go_simp; first | exact hK _ (Grow.refl _) | (go_at_call 31; ((with_reducible refine (and_any _ _ (by assumption) rb _).mono ?_); rintro e w' ⟨rfl, hg⟩; exact ⟨_, rfl, hK _ hg⟩)) | (go_at_call 32; ((with_reducible refine (or_any _ _ (by assumption) rb _).mono ?_); rintro e w' ⟨rfl, hg⟩; exact ⟨_, rfl, hK _ hg⟩)) | (go_at_call 33; ((with_reducible refine (not' _ (by assumption) _).mono ?_); rintro e w' ⟨rfl, hg⟩; exact ⟨_, rfl, hK _ hg⟩)) | (go_at_call 36; ((with_reducible refine (eq_any _ _ _).mono ?_); rintro e w' ⟨rfl, hg⟩; exact ⟨_, rfl, hK _ hg⟩)) | (go_at_call 37; ((with_reducible refine (less_any _ _ _).mono ?_); rintro e w' ⟨rfl, hg⟩; exact ⟨_, rfl, hK _ hg⟩)) | (go_at_call 40; ((with_reducible refine (knows_fn _ _ _ nullV' _ _ A3').mono ?_); rintro e w' ⟨rfl, hg⟩; exact ⟨_, rfl, hK _ hg⟩))))
          | apply calm_n rfl rfl rfl rfl
        intro K hK
        go_simp
        apply hK
        clear hK K)
      refine calm_nil ?_
      intro w1 hw1 hF
      apply hQ0
      clear hQ0
      simp only [List.drop_succ_cons, List.drop_zero]
      clear hF
      go_wp2
      go_ret
      exact ⟨rfl, G1.trans hw1⟩
    case hp' => trivial
end Go.Proofs.Ytjhcbehnopmnpaa
