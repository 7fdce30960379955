/-
  The law ValsOrder: its walk.
-/
import Derived.Test.YtjhcbehnopmnpaaLaws1
import Derived.Deep.DeepCutAuto
namespace Go.Calm
open Go.RowKit
/-- An operation whose guard did not come up itself. -/
theorem calm_nu {P : Program} {ops : Array Oper} {w0 : World} {Q : Act → World → Prop} {ss : List Spec} {a : Act} {F : List (Option Tmp × (World → Prop))} {G : List Value} {o : Oper} {os : List Oper}
    {j : Nat} {want : Bool} {t : Tmp} (ho : o.guard = some (j, want)) (hj : (ops[j]?).bind (·.dst) = some t) (hb : a.tmps[t]? = some undef)
    (h2 : ∀ K : Act → Prop, (∀ a, wpCalm P ops w0 Q ss os a F G → K a) → K (a.put o.dst undef)) : wpCalm P ops w0 Q (.inl undef :: ss) (o :: os) a F G :=
  calm_fix (fun w hw hF K hK => by
    rw [if_neg]
    unfold Region.wanted yielded
    rw [ho]
    simp only
    rw [hj]
    simp only [Option.bind_some, hb]
    simp [undef]) h2
end Go.Calm
namespace Go.Proofs.Ytjhcbehnopmnpaa
open Go.RowKit Go.Calm
set_option linter.unusedSimpArgs false
set_option linter.unusedVariables false

theorem rb_eqV (a b : V) : RB (eqV a b) := by
  unfold eqV
  split
  · exact rb_truth _
  · intro h; simp at h
theorem rb_lessV (a b : V) : RB (lessV a b) := by
  unfold lessV
  split
  · exact rb_truth _
  · intro h; simp at h
theorem rank_truth (b : Bool) : (rankV (truth b) == 2) = b := by cases b <;> simp [rankV, truth]
theorem eqB_truth (b : Bool) : eqB (truth b) nullV' = false := by cases b <;> simp [eqB, truth, nullV']

/-- What the order of two values says of what they give. -/
theorem order_pair (a b : V) (ha : RV a) (hb : RV b) :
    (cmpV a b != IntKind.i64.wrap (-cmpV b a)) = false ∧ eqB (bare a) (bare b) = (cmpV a b == 0) ∧
    (((a.k != b.k) = true ∨ (a.k != b.k) = false ∧ (a.k == 1) = true) ∧ eqB (eqV a b) nullV' = true ∧ eqB (lessV a b) nullV' = true ∨
     (a.k != b.k) = false ∧ (a.k == 1) = false ∧ eqB (eqV a b) nullV' = false ∧ eqB (lessV a b) nullV' = false ∧ (rankV (eqV a b) == 2) = (cmpV a b == 0) ∧ (rankV (lessV a b) == 2) = decide (cmpV a b < 0)) := by
  have h1 := cmp_ord a b ha hb
  have h2 := cmp_ord b a hb ha
  have h3 := ordV_swap a b
  have h4 := ordV_range a b
  refine ⟨?_, ?_, ?_⟩
  · rw [h1, h2, h3, Int.neg_neg]
    have e : IntKind.i64.wrap (ordV a b) = ordV a b := (IntWalk.i64_left _).trans (IntWalk.wrap64_in _ (by omega))
    rw [e]; simp
  · rw [h1, Bool.eq_iff_iff, eqB_iff, beq_iff_eq]
    exact (ordV_zero a b ha hb).symm
  · by_cases hk : a.k = b.k
    · by_cases h1' : a.k = 1
      · have e : alikeB a b = false := by simp [alikeB, h1']
        refine .inl ⟨.inr ⟨by simpa using hk, by simpa using h1'⟩, ?_, ?_⟩
        · simp only [eqV, e]; exact eqB_self _
        · simp only [lessV, e]; exact eqB_self _
      · have e : alikeB a b = true := by simp [alikeB, hk]; rw [← hk]; exact h1'
        refine .inr ⟨by simpa using hk, by simpa using h1', ?_, ?_, ?_, ?_⟩
        · simp only [eqV, e, if_true]; exact eqB_truth _
        · simp only [lessV, e, if_true]; exact eqB_truth _
        · simp only [eqV, e, if_true]; exact rank_truth _
        · simp only [lessV, e, if_true]; exact rank_truth _
    · have e : alikeB a b = false := by simp [alikeB, hk]
      refine .inl ⟨.inl (by simpa using hk), ?_, ?_⟩
      · simp only [eqV, e]; exact eqB_self _
      · simp only [lessV, e]; exact eqB_self _
theorem order_three (a b c : V) (ha : RV a) (hb : RV b) (hc : RV c) :
    decide (cmpV a b ≤ 0) = false ∨ decide (cmpV a b ≤ 0) = true ∧ decide (cmpV b c ≤ 0) = false ∨ decide (cmpV a b ≤ 0) = true ∧ decide (cmpV b c ≤ 0) = true ∧ decide (0 < cmpV a c) = false := by
  rw [cmp_ord a b ha hb, cmp_ord b c hb hc, cmp_ord a c ha hc]
  have := ordV_trans a b c
  simp only [decide_eq_true_eq, decide_eq_false_iff_not]
  omega

set_option maxHeartbeats 8000000 in
set_option maxRecDepth 100000 in
theorem law_order (a b c : V) (w : World) : Calls Try.prog 6 #[a.val, b.val, c.val] w fun e w' => e = .returned (.bool true) ∧ Grow w w' := by
  have heq := run_eqlV
  cases hr : [a, b, c].all rightB
  · unfold V.val
    go_enter Try.func6, Try.ntmps6
    go_wp2_with (first | (go_at_call 28; ((with_reducible refine (alive1 _).mono ?_); rintro e w' ⟨rfl, hg⟩; obtain ⟨hc, hf, hz⟩ := hg.rules)) | (go_at_call 25; ((with_reducible refine (right3 a b c _ _ _ 29 (Blk.new' _ _ _ (by simp))).mono ?_); rintro e w2' ⟨rfl, hg2⟩; replace hg := (hg.al _).trans hg2; clear hg2 hc hf hz; obtain ⟨hc, hf, hz⟩ := hg.rules)))
    go_ret
    exact ⟨rfl, (by repeat (first | (with_reducible exact Grow.refl _) | (with_reducible assumption) | (with_reducible refine Grow.set ?_ (by first | (simp; done) | (simp; omega)) _) | (with_reducible refine Grow.al ?_ _) | (with_reducible refine Grow.drew ?_) | (with_reducible refine Grow.drewN ?_ _) | (with_reducible refine Grow.trans ?_ (by assumption))))⟩
  · have hv := right_all _ hr
    have va := hv a (by simp)
    have vb := hv b (by simp)
    have vc := hv c (by simp)
    obtain ⟨o1, o2, o3⟩ := order_pair a b va vb
    have o4 := Lib.hid (order_three a b c va vb vc)
    replace o3 := Lib.hid o3
    clear hv va vb vc
    unfold V.val
    go_enter Try.func6, Try.ntmps6
    go_wp2_with (first | (go_at_call 28; ((with_reducible refine (alive1 _).mono ?_); rintro e w' ⟨rfl, hg⟩; obtain ⟨hc, hf, hz⟩ := hg.rules)) | (go_at_call 25; ((with_reducible refine (right3 a b c _ _ _ 29 (Blk.new' _ _ _ (by simp))).mono ?_); rintro e w2' ⟨rfl, hg2⟩; replace hg := (hg.al _).trans hg2; clear hg2 hc hf hz; obtain ⟨hc, hf, hz⟩ := hg.rules)))
    refine wp_forget (fun W => Blk W w.heap.size 29 #[.int .i64 a.k, .int .i64 a.n, .string a.s] ∧ Blk W (w.heap.size + 1) 29 #[.int .i64 b.k, .int .i64 b.n, .string b.s] ∧ Blk W (w.heap.size + 2) 29 #[.int .i64 c.k, .int .i64 c.n, .string c.s] ∧ Grow w W)
      ⟨Blk.grow (((Blk.new _ _ _).al _).al _) hg, Blk.grow ((Blk.new' _ _ _ (by simp)).al _) hg, Blk.grow (Blk.new' _ _ _ (by simp)) hg, (by repeat (first | (with_reducible exact Grow.refl _) | (with_reducible assumption) | (with_reducible refine Grow.set ?_ (by first | (simp; done) | (simp; omega)) _) | (with_reducible refine Grow.al ?_ _) | (with_reducible refine Grow.drew ?_) | (with_reducible refine Grow.drewN ?_ _) | (with_reducible refine Grow.trans ?_ (by assumption))))⟩ ?_
    clear hg hc hf hz
    rintro W ⟨A1, A2, A3, G1⟩
    apply wp_region_calm 16 (by kernel_rfl) (by kernel_rfl)
    case h' =>
      intro Q0 hQ0
      simp only [List.take_succ_cons, List.take_zero]
      repeat (
        first
          | (apply calm_p rfl; case h1 => (intro w1 hw1 hF K hK; obtain ⟨c1, f1⟩ := (Blk.grow A1 hw1).rules; obtain ⟨c2, f2⟩ := (Blk.grow A2 hw1).rules; obtain ⟨c3, f3⟩ := (Blk.grow A3 hw1).rules; go_simp; first | exact hK _ (Grow.refl _) | (go_at_call 34; ((with_reducible refine (compare_any _ _ _).mono ?_); rintro e w' ⟨rfl, hg⟩; exact ⟨_, rfl, hK _ hg⟩))))
          | (apply calm_y rfl rfl rfl; case h1 => (intro w1 hw1 hF K hK; obtain ⟨c1, f1⟩ := (Blk.grow A1 hw1).rules; obtain ⟨c2, f2⟩ := (Blk.grow A2 hw1).rules; obtain ⟨c3, f3⟩ := (Blk.grow A3 hw1).rules; go_simp; first | exact hK _ (Grow.refl _) | (go_at_call 34; ((with_reducible refine (compare_any _ _ _).mono ?_); rintro e w' ⟨rfl, hg⟩; exact ⟨_, rfl, hK _ hg⟩))))
          | apply calm_n rfl rfl rfl rfl
        intro K hK
        go_simp
        apply hK
        clear hK K)
      refine calm_nil ?_
      intro w1 hw1 hF
      apply hQ0
      clear hQ0
      simp only [List.drop_succ_cons, List.drop_zero]
      clear hF
      go_upto_region 6 with fail
      replace A1 := Blk.grow A1 hw1
      replace A2 := Blk.grow A2 hw1
      replace A3 := Blk.grow A3 hw1
      replace G1 := G1.trans hw1
      clear hw1
      go_cut [58] (fun s wx => s = .bool false ∧ Blk wx w.heap.size 29 #[.int .i64 a.k, .int .i64 a.n, .string a.s] ∧ Blk wx (w.heap.size + 1) 29 #[.int .i64 b.k, .int .i64 b.n, .string b.s] ∧ Blk wx (w.heap.size + 2) 29 #[.int .i64 c.k, .int .i64 c.n, .string c.s] ∧ Grow w wx)
      case first =>
        rcases o4.out with o4 | ⟨o4, o5⟩ | ⟨o4, o5, o6⟩
        all_goals (
          apply wp_region_calm 26 (by kernel_rfl) (by kernel_rfl)
          case h' =>
            intro Q0 hQ0
            simp only [List.take_succ_cons, List.take_zero]
            repeat (
              first
                | (apply calm_p rfl; case h1 => (intro w1 hw1 hF K hK; obtain ⟨c1, f1⟩ := (Blk.grow A1 hw1).rules; obtain ⟨c2, f2⟩ := (Blk.grow A2 hw1).rules; obtain ⟨c3, f3⟩ := (Blk.grow A3 hw1).rules; go_simp; first | exact hK _ (Grow.refl _) | (go_at_call 35; ((with_reducible refine (bare_any _ _).mono ?_); rintro e w' ⟨rfl, hg⟩; exact ⟨_, rfl, hK _ hg⟩))))
                | (apply calm_y rfl rfl rfl; case h1 => (intro w1 hw1 hF K hK; obtain ⟨c1, f1⟩ := (Blk.grow A1 hw1).rules; obtain ⟨c2, f2⟩ := (Blk.grow A2 hw1).rules; obtain ⟨c3, f3⟩ := (Blk.grow A3 hw1).rules; go_simp; first | exact hK _ (Grow.refl _) | (go_at_call 35; ((with_reducible refine (bare_any _ _).mono ?_); rintro e w' ⟨rfl, hg⟩; exact ⟨_, rfl, hK _ hg⟩))))
                | apply calm_n rfl rfl rfl rfl
              intro K hK
              go_simp
              apply hK
              clear hK K)
            refine calm_nil ?_
            intro w1 hw1 hF
            apply hQ0
            clear hQ0
            simp only [List.drop_succ_cons, List.drop_zero]
            clear hF
            go_wp2
            go_meet
            exact ⟨rfl, A1.grow hw1, A2.grow hw1, A3.grow hw1, G1.trans hw1⟩
          case hp' => trivial)
      case rest =>
        obtain ⟨rfl, A1, A2, A3, G1⟩ := hcut
        go_wp2
        apply wp_region_calm 8 (by kernel_rfl) (by kernel_rfl)
        case h' =>
          intro Q0 hQ0
          simp only [List.take_succ_cons, List.take_zero]
          repeat (
            first
              | (apply calm_p rfl; case h1 => (intro w1 hw1 hF K hK; obtain ⟨c1, f1⟩ := (Blk.grow A1 hw1).rules; obtain ⟨c2, f2⟩ := (Blk.grow A2 hw1).rules; obtain ⟨c3, f3⟩ := (Blk.grow A3 hw1).rules; go_simp; first | exact hK _ (Grow.refl _) | (go_at_call 36; ((with_reducible refine (eq_any _ _ _).mono ?_); rintro e w' ⟨rfl, hg⟩; exact ⟨_, rfl, hK _ hg⟩)) | (go_at_call 37; ((with_reducible refine (less_any _ _ _).mono ?_); rintro e w' ⟨rfl, hg⟩; exact ⟨_, rfl, hK _ hg⟩))))
              | (apply calm_y rfl rfl rfl; case h1 => (intro w1 hw1 hF K hK; obtain ⟨c1, f1⟩ := (Blk.grow A1 hw1).rules; obtain ⟨c2, f2⟩ := (Blk.grow A2 hw1).rules; obtain ⟨c3, f3⟩ := (Blk.grow A3 hw1).rules; go_simp; first | exact hK _ (Grow.refl _) | (go_at_call 36; ((with_reducible refine (eq_any _ _ _).mono ?_); rintro e w' ⟨rfl, hg⟩; exact ⟨_, rfl, hK _ hg⟩)) | (go_at_call 37; ((with_reducible refine (less_any _ _ _).mono ?_); rintro e w' ⟨rfl, hg⟩; exact ⟨_, rfl, hK _ hg⟩))))
              | apply calm_n rfl rfl rfl rfl
            intro K hK
            go_simp
            apply hK
            clear hK K)
          iterate 2
            apply calm_fp (fun v W => ∃ g, v = .pointer (some ⟨g, 0, none⟩) ∧ wc.heap.size ≤ g ∧ Blk W g 29 #[.int .i64 0, .int .i64 0, .string ⟨#[]⟩]) rfl
            case h1 =>
              intro w1 hw1 hF K hK
              go_simp
              exact hK _ _ ((Grow.refl _).al _) ⟨_, rfl, hw1.size, Blk.new _ _ _⟩
            intro v K hK
            go_simp
            apply hK
            clear hK K
          refine calm_nil_apart ?_
          intro w1 hw1 hF hG
          obtain ⟨g2, rfl, z2, B2⟩ := hF _ (List.mem_cons_self ..)
          obtain ⟨g1, rfl, z1, B1⟩ := hF _ (List.mem_cons_of_mem _ (List.mem_cons_self ..))
          have h12 : g1 ≠ g2 := by
            intro h
            subst h
            simp [alcs, isAlc] at hG
          clear hF hG
          have l1 := A1.lt
          have l2 := A2.lt
          have l3 := A3.lt
          have l0 := G1.size
          replace A1 := Blk.grow A1 hw1
          replace A2 := Blk.grow A2 hw1
          replace A3 := Blk.grow A3 hw1
          replace G1 := G1.trans hw1
          clear hw1
          apply hQ0
          clear hQ0
          simp only [List.drop_succ_cons, List.drop_zero]
          obtain ⟨c4, f4⟩ := B1.rules
          obtain ⟨c5, f5⟩ := B2.rules
          go_wp2
          clear c4 f4 c5 f5
          refine wp_forget (fun wx => Blk wx w.heap.size 29 #[.int .i64 a.k, .int .i64 a.n, .string a.s] ∧ Blk wx (w.heap.size + 1) 29 #[.int .i64 b.k, .int .i64 b.n, .string b.s] ∧ Blk wx (w.heap.size + 2) 29 #[.int .i64 c.k, .int .i64 c.n, .string c.s] ∧ Blk wx g1 29 #[.int .i64 (eqV a b).k, .int .i64 (eqV a b).n, .string (eqV a b).s] ∧ Blk wx g2 29 #[.int .i64 (lessV a b).k, .int .i64 (lessV a b).n, .string (lessV a b).s] ∧ Grow w wx)
            ⟨(((((((((((((A1).far (by first | exact h12 | exact h12.symm | (simp only; omega)) _)).far (by first | exact h12 | exact h12.symm | (simp only; omega)) _)).far (by first | exact h12 | exact h12.symm | (simp only; omega)) _)).far (by first | exact h12 | exact h12.symm | (simp only; omega)) _)).far (by first | exact h12 | exact h12.symm | (simp only; omega)) _)).far (by first | exact h12 | exact h12.symm | (simp only; omega)) _)), (((((((((((((A2).far (by first | exact h12 | exact h12.symm | (simp only; omega)) _)).far (by first | exact h12 | exact h12.symm | (simp only; omega)) _)).far (by first | exact h12 | exact h12.symm | (simp only; omega)) _)).far (by first | exact h12 | exact h12.symm | (simp only; omega)) _)).far (by first | exact h12 | exact h12.symm | (simp only; omega)) _)).far (by first | exact h12 | exact h12.symm | (simp only; omega)) _)), (((((((((((((A3).far (by first | exact h12 | exact h12.symm | (simp only; omega)) _)).far (by first | exact h12 | exact h12.symm | (simp only; omega)) _)).far (by first | exact h12 | exact h12.symm | (simp only; omega)) _)).far (by first | exact h12 | exact h12.symm | (simp only; omega)) _)).far (by first | exact h12 | exact h12.symm | (simp only; omega)) _)).far (by first | exact h12 | exact h12.symm | (simp only; omega)) _)), (((((((((B1.set 0 _).set 1 _).set 2 _)).far (by first | exact h12 | exact h12.symm | (simp only; omega)) _)).far (by first | exact h12 | exact h12.symm | (simp only; omega)) _)).far (by first | exact h12 | exact h12.symm | (simp only; omega)) _), (((((((((B2).far (by first | exact h12 | exact h12.symm | (simp only; omega)) _)).far (by first | exact h12 | exact h12.symm | (simp only; omega)) _)).far (by first | exact h12 | exact h12.symm | (simp only; omega)) _).set 0 _).set 1 _).set 2 _), ((((((G1.set (by simp only; omega) _).set (by simp only; omega) _).set (by simp only; omega) _).set (by simp only; omega) _).set (by simp only; omega) _).set (by simp only; omega) _)⟩ ?_
          clear A1 A2 A3 B1 B2 G1 l0 l1 l2 l3 z1 z2 h12
          rintro W ⟨A1, A2, A3, A4, A5, G1⟩
          have re := rb_eqV a b
          have rl := rb_lessV a b
          rcases o3.out with ⟨(m1 | ⟨m1, m2⟩), m3, m4⟩ | ⟨m1, m2, m3, m4, m5, m6⟩
          all_goals (
            apply wp_region_calm 23 (by kernel_rfl) (by kernel_rfl)
            case h' =>
              intro Q0 hQ0
              simp only [List.take_succ_cons, List.take_zero]
              repeat (
                first
                  | (apply calm_p rfl; case h1 => (intro w1 hw1 hF K hK; obtain ⟨c1, f1⟩ := (Blk.grow A1 hw1).rules; obtain ⟨c2, f2⟩ := (Blk.grow A2 hw1).rules; obtain ⟨c3, f3⟩ := (Blk.grow A3 hw1).rules; obtain ⟨c4, f4⟩ := (Blk.grow A4 hw1).rules; obtain ⟨c5, f5⟩ := (Blk.grow A5 hw1).rules; go_simp; first | exact hK _ (Grow.refl _) | (go_at_call 38; ((with_reducible refine (null' _).mono ?_); rintro e w' ⟨rfl, hg⟩; exact ⟨_, rfl, hK _ hg⟩))))
                  | (apply calm_y rfl rfl rfl; case h1 => (intro w1 hw1 hF K hK; obtain ⟨c1, f1⟩ := (Blk.grow A1 hw1).rules; obtain ⟨c2, f2⟩ := (Blk.grow A2 hw1).rules; obtain ⟨c3, f3⟩ := (Blk.grow A3 hw1).rules; obtain ⟨c4, f4⟩ := (Blk.grow A4 hw1).rules; obtain ⟨c5, f5⟩ := (Blk.grow A5 hw1).rules; go_simp; first | exact hK _ (Grow.refl _) | (go_at_call 38; ((with_reducible refine (null' _).mono ?_); rintro e w' ⟨rfl, hg⟩; exact ⟨_, rfl, hK _ hg⟩))))
                  | apply calm_n rfl rfl rfl rfl
                intro K hK
                go_simp
                apply hK
                clear hK K)
              refine calm_nil ?_
              intro w1 hw1 hF
              apply hQ0
              clear hQ0
              simp only [List.drop_succ_cons, List.drop_zero]
              clear hF
              replace A1 := Blk.grow A1 hw1
              replace A2 := Blk.grow A2 hw1
              replace A3 := Blk.grow A3 hw1
              replace A4 := Blk.grow A4 hw1
              replace A5 := Blk.grow A5 hw1
              replace G1 := G1.trans hw1
              clear hw1
              go_wp2
              apply wp_region_calm 18 (by kernel_rfl) (by kernel_rfl)
              case h' =>
                intro Q0 hQ0
                simp only [List.take_succ_cons, List.take_zero]
                repeat (
                  first
                    | (apply calm_p rfl; case h1 => (intro w1 hw1 hF K hK; obtain ⟨c1, f1⟩ := (Blk.grow A1 hw1).rules; obtain ⟨c2, f2⟩ := (Blk.grow A2 hw1).rules; obtain ⟨c3, f3⟩ := (Blk.grow A3 hw1).rules; obtain ⟨c4, f4⟩ := (Blk.grow A4 hw1).rules; obtain ⟨c5, f5⟩ := (Blk.grow A5 hw1).rules; go_simp; first | exact hK _ (Grow.refl _) | (go_at_call 38; ((with_reducible refine (null' _).mono ?_); rintro e w' ⟨rfl, hg⟩; exact ⟨_, rfl, hK _ hg⟩)) | (go_at_call 39; ((with_reducible refine (true_any _ (by assumption) _).mono ?_); rintro e w' ⟨rfl, hg⟩; exact ⟨_, rfl, hK _ hg⟩))))
                    | (apply calm_y rfl rfl rfl; case h1 => (intro w1 hw1 hF K hK; obtain ⟨c1, f1⟩ := (Blk.grow A1 hw1).rules; obtain ⟨c2, f2⟩ := (Blk.grow A2 hw1).rules; obtain ⟨c3, f3⟩ := (Blk.grow A3 hw1).rules; obtain ⟨c4, f4⟩ := (Blk.grow A4 hw1).rules; obtain ⟨c5, f5⟩ := (Blk.grow A5 hw1).rules; go_simp; first | exact hK _ (Grow.refl _) | (go_at_call 38; ((with_reducible refine (null' _).mono ?_); rintro e w' ⟨rfl, hg⟩; exact ⟨_, rfl, hK _ hg⟩)) | (go_at_call 39; ((with_reducible refine (true_any _ (by assumption) _).mono ?_); rintro e w' ⟨rfl, hg⟩; exact ⟨_, rfl, hK _ hg⟩))))
                    | apply calm_n rfl rfl rfl rfl
                    | apply calm_nu rfl rfl rfl
                  intro K hK
                  go_simp
                  apply hK
                  clear hK K)
                refine calm_nil ?_
                intro w1 hw1 hF
                apply hQ0
                clear hQ0
                simp only [List.drop_succ_cons, List.drop_zero]
                clear hF
                go_wp2
                go_ret
                exact ⟨rfl, G1.trans hw1⟩
              case hp' => trivial
            case hp' => trivial)
        case hp' => exact ⟨fun v w w' hg ⟨g, e, z, hb⟩ => ⟨g, e, z, hb.grow hg⟩, fun v w w' hg ⟨g, e, z, hb⟩ => ⟨g, e, z, hb.grow hg⟩, trivial⟩
    case hp' => trivial
end Go.Proofs.Ytjhcbehnopmnpaa
