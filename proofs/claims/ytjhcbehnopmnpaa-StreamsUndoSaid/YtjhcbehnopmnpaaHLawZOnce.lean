/-
  A text of the proof of the law StreamsUndo; no condition beside the row's own.
-/
import Derived.Test.YtjhcbehnopmnpaaHLawZTell
import Derived.Test.YtjhcbehnopmnpaaGK
/-
  The law ZsetsOnce, walked.
-/
namespace Go.Proofs.Ytjhcbehnopmnpaa
open Go.RowKit Go.Calm
set_option linter.unusedSimpArgs false
set_option linter.unusedVariables false

theorem each_zero {f : Int → Int} {z d : List Z} (h : eachZ f z = (d, 0)) : wrongZ z = 0 := by
  unfold eachZ at h
  split at h
  · rename_i h1; exact absurd (Prod.mk.inj h).2 h1
  · rename_i h1; simpa using h1
theorem each_sml {f : Int → Int} {z d : List Z} (h : eachZ f z = (d, 0)) : smlZ d := by
  have h0 := each_zero h
  have h1 := SM.of h0
  unfold eachZ at h
  rw [if_neg (by rw [h0]; simp)] at h
  have e : eachL f z = d := (Prod.mk.inj h).1
  rw [← e]
  refine ⟨?_, okR_each h1.ok f⟩
  have h2 : (eachL f z).length ≤ (z.map (fun x => (bareR x.1, f x.2))).length := List.length_filter_le _ _
  have := h1.len
  simp at h2
  omega
set_option maxRecDepth 100000 in
set_option maxHeartbeats 16000000 in
theorem law_zonce (xs : List I) (A : Option Addr) (c : Nat) (w : World) (ha : In w ⟨A, xs, c⟩) :
    Calls Try.prog 17 #[.slice A xs.length c] w fun en w' => en = .returned (.bool true) ∧ Grow w w' := by
  have Ha := Lib.hid ha
  obtain ⟨E, hE⟩ : ∃ E, wrongZ (xs.map zOf) = E := ⟨_, rfl⟩
  have c1 := fun W (h : Grow w W) => dis_any ⟨A, xs, c⟩ W (Ha.out.grow h)
  have c2 := fun W (h : Grow w W) => pos_any ⟨A, xs, c⟩ W (Ha.out.grow h)
  by_cases h0 : E = 0
  · obtain ⟨d, p, e1, e2, e3, e4, e5, cd⟩ := once_plain (hE.trans h0)
    have sd := Lib.hid (each_sml e1)
    have sp := Lib.hid (each_sml e2)
    rw [show eachZ disF (S.z ⟨A, xs, c⟩) = (d, 0) from e1] at c1
    rw [show eachZ posF (S.z ⟨A, xs, c⟩) = (p, 0) from e2] at c2
    have Es := Lib.hid (And.intro e3 (And.intro e4 e5))
    have Cd := Lib.hid cd
    clear ha hE e1 e2 e3 e4 e5 cd
    go_enter Try.func17, Try.ntmps17
    go_upto_region 3 with (go_at_call 74; ((with_reducible refine (zalive _).mono ?_); rintro e1 w2 ⟨rfl, hg2⟩))
    go_upto_region 4 with (go_at_call 75; ((with_reducible refine (c1 _ hg2).mono ?_); rintro e1 w3 ⟨B, ds, cap, rfl, hz3, hm3, hk3, hg3⟩; have D := Lib.hid (And.intro hz3 (And.intro hm3 hk3)); clear hz3 hm3 hk3))
    go_upto_region 5 with (go_at_call 76; ((with_reducible refine (c2 _ (hg2.trans hg3)).mono ?_); rintro e1 w4 ⟨C, ps, cap4, rfl, hz4, hm4, hk4, hg4⟩; have P := Lib.hid (And.intro hz4 (And.intro hm4 hk4)); clear hz4 hm4 hk4))
    have id := Lib.hid (In.sml (D.out.1.grow hg4) D.out.2.2 (by rw [D.out.2.1]; exact sd.out))
    have ip := Lib.hid (In.sml P.out.1 P.out.2.2 (by rw [P.out.2.1]; exact sp.out))
    have c3 := fun W (h : Grow w4 W) => dis_any ⟨B, ds, cap⟩ W (id.out.grow h)
    have c4 := fun W (h : Grow w4 W) => pos_any ⟨C, ps, cap4⟩ W (ip.out.grow h)
    have c5 := fun W (h : Grow w4 W) => dis_any ⟨C, ps, cap4⟩ W (ip.out.grow h)
    rw [show eachZ disF (S.z ⟨B, ds, cap⟩) = (d, 0) by rw [show S.z ⟨B, ds, cap⟩ = d from D.out.2.1]; exact Es.out.1] at c3
    rw [show eachZ posF (S.z ⟨C, ps, cap4⟩) = (p, 0) by rw [show S.z ⟨C, ps, cap4⟩ = p from P.out.2.1]; exact Es.out.2.1] at c4
    rw [show eachZ disF (S.z ⟨C, ps, cap4⟩) = (d, 0) by rw [show S.z ⟨C, ps, cap4⟩ = p from P.out.2.1]; exact Es.out.2.2] at c5
    have G4 := (hg2.trans hg3).trans hg4
    clear c1 c2
    go_upto_region 10 with (first
      | (go_at_call 75; ((with_reducible refine (c3 _ (Grow.refl _)).mono ?_); rintro e1 w5 ⟨F5, fs, cap5, rfl, hz5, hm5, hk5, hg5⟩; have R5 := Lib.hid (And.intro hz5 hm5); clear hz5 hm5 hk5))
      | (go_at_call 76; ((with_reducible refine (c4 _ hg5).mono ?_); rintro e1 w6 ⟨F6, gs, cap6, rfl, hz6, hm6, hk6, hg6⟩; have R6 := Lib.hid (And.intro hz6 hm6); clear hz6 hm6 hk6))
      | (go_at_call 75; ((with_reducible refine (c5 _ (hg5.trans hg6)).mono ?_); rintro e1 w7 ⟨F7, hs, cap7, rfl, hz7, hm7, hk7, hg7⟩; have R7 := Lib.hid (And.intro hz7 hm7); clear hz7 hm7 hk7)))
    have G7 := (hg5.trans hg6).trans hg7
    clear c3 c4 c5
    have hdl : ds.length ≤ 400 := by have := sd.out.1; rw [← D.out.2.1] at this; simpa using this
    have Dz := Lib.hid ((id.out.grow G7).z : ZIn w7 B ds)
    go_wp2
    go_loopw [11] (fun i wr => ∃ k : Nat, (k + 1 ≤ ds.length ∨ k = 0) ∧ i = .int .i64 ((k : Int) + 1) ∧ Grow w7 wr) (fun i _ => ds.length - (intOf i).toNat)
    case atStart => exact ⟨0, .inr rfl, by go_num, Grow.refl _⟩
    case round =>
      obtain ⟨k, hk, rfl, hg⟩ := hrel
      by_cases hlt : k + 1 < ds.length
      · have dl : decide ((k : Int) + 1 < (ds.length : Int)) = true := decide_eq_true (by omega)
        obtain ⟨y, hyk⟩ : ∃ y, ds[k]? = some y := ⟨_, List.getElem?_eq_getElem (by omega)⟩
        obtain ⟨x, hxk⟩ : ∃ x, ds[k + 1]? = some x := ⟨_, List.getElem?_eq_getElem hlt⟩
        obtain ⟨gy, oy, rfl, cy1, cy2, hyv⟩ := (Dz.out.grow hg) k y hyk
        obtain ⟨gx, ox, ex, cx1, cx2, hxv⟩ := (Dz.out.grow hg) (k + 1) x hxk
        cases ex
        have ly : y.row.length ≤ 9223372036854775807 := id.out.ok.2 y (List.mem_of_getElem? hyk)
        have lx : x.row.length ≤ 9223372036854775807 := id.out.ok.2 x (List.mem_of_getElem? hxk)
        have cc := fun W (h : Grow wr W) => rrows_any y.row x.row y.A x.A y.cap x.cap W ly lx (hyv.grow h) (hxv.grow h)
        obtain ⟨cr, hcr⟩ : ∃ r, rowsG ordV y.row x.row = r := ⟨_, rfl⟩
        rw [hcr] at cc
        have hneg : cr < 0 := by
          have h1 := List.pairwise_iff_getElem.1 Cd.out.up k (k + 1) (by have := congrArg List.length D.out.2.1; simp at this; omega) (by have := congrArg List.length D.out.2.1; simp at this; omega) (by omega)
          have e := D.out.2.1
          subst e
          simp only [List.getElem_map, (List.getElem?_eq_some_iff.1 hxk).2, (List.getElem?_eq_some_iff.1 hyk).2] at h1
          rw [← hcr]; exact h1
        have dc : decide (0 ≤ cr) = false := decide_eq_false (by omega)
        have Cx := Lib.hid (And.intro cx1 cy1)
        have p0 : (0 : Int) ≤ (k : Int) + 1 := by omega
        have e0 : ((k : Int) + 1).toNat = k + 1 := by omega
        have jz : (k : Int) + 1 < (ds.length : Int) := by omega
        have hwp : IntKind.i64.wrap (k : Int) = (k : Int) := by rw [IntKind.wrap_i64]; omega
        have jz1 : (k : Int) < (ds.length : Int) := by omega
        have jz2 : (0 : Int) ≤ (k : Int) := by omega
        have jz3 : k < ds.length := by omega
        clear hyk hxk hyv hxv hcr cx1 cx2 cy1 cy2 ly lx
        go_wp2
        apply wp_region_calm 13 (by kernel_rfl) (by kernel_rfl)
        case h' =>
          intro Q0 hQ0
          simp only [List.take_succ_cons, List.take_zero]
          repeat (
            first
              | (apply calm_p rfl; case h1 => (intro w1 hw1 hF K hK; obtain ⟨cx1, cy1⟩ := And.intro (hw1.cell Cx.out.1) (hw1.cell Cx.out.2); go_simp; first | exact hK _ (Grow.refl _) | (go_at_call 27; ((with_reducible refine (cc _ hw1).mono ?_); rintro e w' ⟨rfl, hg⟩; exact ⟨_, rfl, hK _ hg⟩))))
              | (apply calm_y rfl rfl rfl; case h1 => (intro w1 hw1 hF K hK; obtain ⟨cx1, cy1⟩ := And.intro (hw1.cell Cx.out.1) (hw1.cell Cx.out.2); go_simp; first | exact hK _ (Grow.refl _) | (go_at_call 27; ((with_reducible refine (cc _ hw1).mono ?_); rintro e w' ⟨rfl, hg⟩; exact ⟨_, rfl, hK _ hg⟩))))
              | apply calm_n rfl rfl rfl rfl
            intro K hK
            go_simp
            apply hK
            clear hK K)
          refine calm_nil ?_
          intro w1 hw1 hF
          apply hQ0
          clear hQ0
          simp only [List.drop_succ_cons, List.drop_zero]
          clear hF
          try simp only [dc]
          go_wp2
          go_roundw
          case rel => exact ⟨k + 1, by omega, by go_num, hg.trans hw1⟩
          case measure => simp [intOf]; omega
        case hp' => trivial
      · have dl : decide ((k : Int) + 1 < (ds.length : Int)) = false := decide_eq_false (by omega)
        have G8 := G7.trans hg
        have s1 := fun W (h : Grow wr W) => same_true fs ds F5 B cap5 cap W (R5.out.1.grow (((hg6.trans hg7).trans hg).trans h)) (id.out.z.grow (G8.trans h)) (R5.out.2.trans D.out.2.1.symm) (by rw [R5.out.2]; exact sd.out)
        have s2 := fun W (h : Grow wr W) => same_true gs ps F6 C cap6 cap4 W (R6.out.1.grow ((hg7.trans hg).trans h)) (ip.out.z.grow (G8.trans h)) (R6.out.2.trans P.out.2.1.symm) (by rw [R6.out.2]; exact sp.out)
        have s3 := fun W (h : Grow wr W) => same_true hs ds F7 B cap7 cap W (R7.out.1.grow (hg.trans h)) (id.out.z.grow (G8.trans h)) (R7.out.2.trans D.out.2.1.symm) (by rw [R7.out.2]; exact sd.out)
        go_wp2_with (first
          | (go_at_call 70; ((with_reducible refine (s1 _ (Grow.refl _)).mono ?_); rintro e1 w8 ⟨rfl, hg8⟩))
          | (go_at_call 70; ((with_reducible refine (s2 _ hg8).mono ?_); rintro e1 w9 ⟨rfl, hg9⟩))
          | (go_at_call 70; ((with_reducible refine (s3 _ (hg8.trans hg9)).mono ?_); rintro e1 w10 ⟨rfl, hg10⟩)))
        go_ret
        exact ret_bool (by simp) (G4.trans (G8.trans ((hg8.trans hg9).trans hg10)))
  · have e1 : eachZ disF (S.z ⟨A, xs, c⟩) = ([], E) := by unfold eachZ; rw [show wrongZ (S.z ⟨A, xs, c⟩) = E from hE, if_pos h0]
    have e2 : eachZ posF (S.z ⟨A, xs, c⟩) = ([], E) := by unfold eachZ; rw [show wrongZ (S.z ⟨A, xs, c⟩) = E from hE, if_pos h0]
    rw [e1] at c1
    rw [e2] at c2
    have d0 : (E != 0) = true := by simpa using h0
    clear ha hE e1 e2
    go_enter Try.func17, Try.ntmps17
    go_upto_region 3 with (go_at_call 74; ((with_reducible refine (zalive _).mono ?_); rintro e1 w2 ⟨rfl, hg2⟩))
    go_upto_region 4 with (go_at_call 75; ((with_reducible refine (c1 _ hg2).mono ?_); rintro e1 w3 ⟨B, ds, cap, rfl, hz3, hm3, hk3, hg3⟩; clear hz3 hm3 hk3))
    go_wp2_with (go_at_call 76; ((with_reducible refine (c2 _ (hg2.trans hg3)).mono ?_); rintro e1 w4 ⟨C, ps, cap4, rfl, hz4, hm4, hk4, hg4⟩; clear hz4 hm4 hk4))
    go_ret
    exact ret_bool (by simp) ((hg2.trans hg3).trans hg4)
end Go.Proofs.Ytjhcbehnopmnpaa
