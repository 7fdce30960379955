/-
  The law ValsRing: its walk.
-/
import Derived.Test.YtjhcbehnopmnpaaLaws1
import Derived.Deep.DeepCutAuto
namespace Go.Proofs.Ytjhcbehnopmnpaa
open Go.RowKit Go.Calm
set_option linter.unusedSimpArgs false
set_option linter.unusedVariables false

theorem rv_intV (n : Int) : RV (intV n) := by
  unfold intV
  split
  · exact ⟨.inr (.inr (.inl rfl)), fun h => by simp at h, fun _ => by simp only; omega, fun h => by simp at h⟩
  · exact ⟨.inl rfl, fun h => by simp at h, fun h => by simp at h, fun h => by simp at h⟩
theorem rv_null : RV ⟨1, 0, es⟩ := ⟨.inl rfl, fun h => by simp at h, fun h => by simp at h, fun h => by simp at h⟩
theorem rv_reckon (s : Int) (a b : V) : RV (reckonV s a b) := by
  unfold reckonV
  repeat' split
  all_goals first | exact rv_intV _ | exact rv_null

theorem sq_bd {x y : Int} {B C : Int} (hx : -B ≤ x ∧ x ≤ B) (hy : -C ≤ y ∧ y ≤ C) : -(B * C) ≤ x * y ∧ x * y ≤ B * C := by
  have h1 : (x * y).natAbs ≤ B.natAbs * C.natAbs := by
    rw [Int.natAbs_mul]; exact Nat.mul_le_mul (by omega) (by omega)
  have h2 : B.natAbs * C.natAbs = (B * C).natAbs := (Int.natAbs_mul B C).symm
  have h3 : 0 ≤ B * C := Int.mul_nonneg (by omega) (by omega)
  omega
theorem reck_add {x y : Int} (h : -1000000000000000 ≤ x + y ∧ x + y ≤ 1000000000000000) : reckonV 43 (numV x) (numV y) = numV (x + y) := by simp [reckonV, numV, intV, h]
theorem reck_sub {x y : Int} (h : -1000000000000000 ≤ x - y ∧ x - y ≤ 1000000000000000) : reckonV 45 (numV x) (numV y) = numV (x - y) := by simp [reckonV, numV, intV, h]
theorem reck_mul {x y : Int} (h : -1000000000000000 ≤ x * y ∧ x * y ≤ 1000000000000000) : reckonV 42 (numV x) (numV y) = numV (x * y) := by simp [reckonV, numV, intV, h]

/-- The ring's laws, of three numbers near naught. -/
theorem ring_facts (x y z : Int) (hx : -30000 ≤ x ∧ x ≤ 30000) (hy : -30000 ≤ y ∧ y ≤ 30000) (hz : -30000 ≤ z ∧ z ≤ 30000) :
    eqB (reckonV 43 (numV x) (numV y)) (reckonV 43 (numV y) (numV x)) = true ∧
    eqB (reckonV 42 (numV x) (numV y)) (reckonV 42 (numV y) (numV x)) = true ∧
    eqB (reckonV 43 (reckonV 43 (numV x) (numV y)) (numV z)) (reckonV 43 (numV x) (reckonV 43 (numV y) (numV z))) = true ∧
    eqB (reckonV 42 (reckonV 42 (numV x) (numV y)) (numV z)) (reckonV 42 (numV x) (reckonV 42 (numV y) (numV z))) = true ∧
    eqB (reckonV 42 (numV x) (reckonV 43 (numV y) (numV z))) (reckonV 43 (reckonV 42 (numV x) (numV y)) (reckonV 42 (numV x) (numV z))) = true ∧
    eqB (reckonV 43 (reckonV 45 (numV x) (numV y)) (numV y)) (numV x) = true := by
  have bxy := sq_bd hx hy
  have byx := sq_bd hy hx
  have bxz := sq_bd hx hz
  have byz := sq_bd hy hz
  have bxyz := sq_bd (B := 30000 * 30000) (C := 30000) bxy hz
  have bxyz' := sq_bd (B := 30000) (C := 30000 * 30000) hx byz
  have bd : -(30000 * 60000) ≤ x * (y + z) ∧ x * (y + z) ≤ 30000 * 60000 := sq_bd hx (by omega)
  refine ⟨?_, ?_, ?_, ?_, ?_, ?_⟩
  · rw [reck_add (by omega), reck_add (by omega), Int.add_comm, eqB_self]
  · rw [reck_mul (by omega), reck_mul (by omega), Int.mul_comm, eqB_self]
  · rw [reck_add (by omega), reck_add (by omega), reck_add (by omega), reck_add (by omega), Int.add_assoc, eqB_self]
  · rw [reck_mul (x := x) (y := y) (by omega), reck_mul (x := y) (y := z) (by omega), reck_mul (by omega), reck_mul (by omega), Int.mul_assoc, eqB_self]
  · rw [reck_add (x := y) (y := z) (by omega), reck_mul (x := x) (y := y) (by omega), reck_mul (x := x) (y := z) (by omega), reck_mul (by omega), reck_add (by omega), Int.mul_add, eqB_self]
  · rw [reck_sub (by omega), reck_add (by omega), Int.sub_add_cancel, eqB_self]

theorem tri (x : Int) : decide (x < -30000) = true ∨ (decide (x < -30000) = false ∧ decide (30000 < x) = true) ∨ (decide (x < -30000) = false ∧ decide (30000 < x) = false) := by
  simp only [decide_eq_true_eq, decide_eq_false_iff_not]; omega
theorem tri_bd {x : Int} (h1 : decide (x < -30000) = false) (h2 : decide (30000 < x) = false) : -30000 ≤ x ∧ x ≤ 30000 := by
  simp only [decide_eq_false_iff_not] at h1 h2; omega

set_option maxHeartbeats 8000000 in
set_option maxRecDepth 100000 in
theorem law_ring (x y z : Int) (w : World) : Calls Try.prog 4 #[.int .i64 x, .int .i64 y, .int .i64 z] w fun e w' => e = .returned (.bool true) ∧ Grow w w' := by
  have heq := run_eqlV
  rcases tri x with x1 | ⟨x1, x2⟩ | ⟨x1, x2⟩
  · go_enter Try.func4, Try.ntmps4
    go_wp2_with ((go_at_call 28; ((with_reducible refine (alive1 _).mono ?_); rintro e w' ⟨rfl, hg⟩; obtain ⟨hc, hf, hz⟩ := hg.rules)))
    refine wp_loop_rounds 4 ?_
    iterate 1 (rw [rounds_succ]; go_wp2)
    go_ret
    exact ⟨rfl, (by repeat (first | (with_reducible exact Grow.refl _) | (with_reducible assumption) | (with_reducible refine Grow.set ?_ (by first | (simp; done) | (simp; omega)) _) | (with_reducible refine Grow.al ?_ _) | (with_reducible refine Grow.drew ?_) | (with_reducible refine Grow.drewN ?_ _) | (with_reducible refine Grow.trans ?_ (by assumption))))⟩
  · go_enter Try.func4, Try.ntmps4
    go_wp2_with ((go_at_call 28; ((with_reducible refine (alive1 _).mono ?_); rintro e w' ⟨rfl, hg⟩; obtain ⟨hc, hf, hz⟩ := hg.rules)))
    refine wp_loop_rounds 4 ?_
    iterate 1 (rw [rounds_succ]; go_wp2)
    go_ret
    exact ⟨rfl, (by repeat (first | (with_reducible exact Grow.refl _) | (with_reducible assumption) | (with_reducible refine Grow.set ?_ (by first | (simp; done) | (simp; omega)) _) | (with_reducible refine Grow.al ?_ _) | (with_reducible refine Grow.drew ?_) | (with_reducible refine Grow.drewN ?_ _) | (with_reducible refine Grow.trans ?_ (by assumption))))⟩
  rcases tri y with y1 | ⟨y1, y2⟩ | ⟨y1, y2⟩
  · go_enter Try.func4, Try.ntmps4
    go_wp2_with ((go_at_call 28; ((with_reducible refine (alive1 _).mono ?_); rintro e w' ⟨rfl, hg⟩; obtain ⟨hc, hf, hz⟩ := hg.rules)))
    refine wp_loop_rounds 4 ?_
    iterate 2 (rw [rounds_succ]; go_wp2)
    go_ret
    exact ⟨rfl, (by repeat (first | (with_reducible exact Grow.refl _) | (with_reducible assumption) | (with_reducible refine Grow.set ?_ (by first | (simp; done) | (simp; omega)) _) | (with_reducible refine Grow.al ?_ _) | (with_reducible refine Grow.drew ?_) | (with_reducible refine Grow.drewN ?_ _) | (with_reducible refine Grow.trans ?_ (by assumption))))⟩
  · go_enter Try.func4, Try.ntmps4
    go_wp2_with ((go_at_call 28; ((with_reducible refine (alive1 _).mono ?_); rintro e w' ⟨rfl, hg⟩; obtain ⟨hc, hf, hz⟩ := hg.rules)))
    refine wp_loop_rounds 4 ?_
    iterate 2 (rw [rounds_succ]; go_wp2)
    go_ret
    exact ⟨rfl, (by repeat (first | (with_reducible exact Grow.refl _) | (with_reducible assumption) | (with_reducible refine Grow.set ?_ (by first | (simp; done) | (simp; omega)) _) | (with_reducible refine Grow.al ?_ _) | (with_reducible refine Grow.drew ?_) | (with_reducible refine Grow.drewN ?_ _) | (with_reducible refine Grow.trans ?_ (by assumption))))⟩
  rcases tri z with z1 | ⟨z1, z2⟩ | ⟨z1, z2⟩
  · go_enter Try.func4, Try.ntmps4
    go_wp2_with ((go_at_call 28; ((with_reducible refine (alive1 _).mono ?_); rintro e w' ⟨rfl, hg⟩; obtain ⟨hc, hf, hz⟩ := hg.rules)))
    refine wp_loop_rounds 4 ?_
    iterate 3 (rw [rounds_succ]; go_wp2)
    go_ret
    exact ⟨rfl, (by repeat (first | (with_reducible exact Grow.refl _) | (with_reducible assumption) | (with_reducible refine Grow.set ?_ (by first | (simp; done) | (simp; omega)) _) | (with_reducible refine Grow.al ?_ _) | (with_reducible refine Grow.drew ?_) | (with_reducible refine Grow.drewN ?_ _) | (with_reducible refine Grow.trans ?_ (by assumption))))⟩
  · go_enter Try.func4, Try.ntmps4
    go_wp2_with ((go_at_call 28; ((with_reducible refine (alive1 _).mono ?_); rintro e w' ⟨rfl, hg⟩; obtain ⟨hc, hf, hz⟩ := hg.rules)))
    refine wp_loop_rounds 4 ?_
    iterate 3 (rw [rounds_succ]; go_wp2)
    go_ret
    exact ⟨rfl, (by repeat (first | (with_reducible exact Grow.refl _) | (with_reducible assumption) | (with_reducible refine Grow.set ?_ (by first | (simp; done) | (simp; omega)) _) | (with_reducible refine Grow.al ?_ _) | (with_reducible refine Grow.drew ?_) | (with_reducible refine Grow.drewN ?_ _) | (with_reducible refine Grow.trans ?_ (by assumption))))⟩
  have hx := tri_bd x1 x2
  have hy := tri_bd y1 y2
  have hz' := tri_bd z1 z2
  obtain ⟨k1, k2, k3, k4, k5, k6⟩ := ring_facts x y z hx hy hz'
  have rx := rv_num x (by omega) (by omega)
  have ry := rv_num y (by omega) (by omega)
  have rz := rv_num z (by omega) (by omega)
  clear hx hy hz'
  go_enter Try.func4, Try.ntmps4
  go_wp2_with ((go_at_call 28; ((with_reducible refine (alive1 _).mono ?_); rintro e w' ⟨rfl, hg⟩; obtain ⟨hc, hf, hz⟩ := hg.rules)))
  refine wp_loop_rounds 4 ?_
  iterate 3 (rw [rounds_succ]; go_wp2)
  rw [rounds_succ]
  go_upto_region 10 with (go_at_call 29; ((with_reducible refine (num_any _ _).mono ?_); rintro e w2' ⟨rfl, hg2⟩; first | replace hg := hg.trans hg2 | replace hg := (hg.al _).trans hg2); clear hg2 hc hf hz; obtain ⟨hc, hf, hz⟩ := hg.rules)
  refine wp_forget (fun W => Blk W w2'.heap.size 29 #[.int .i64 (numV x).k, .int .i64 (numV x).n, .string (numV x).s] ∧ Blk W (w2'.heap.size + 1) 29 #[.int .i64 (numV y).k, .int .i64 (numV y).n, .string (numV y).s] ∧ Blk W (w2'.heap.size + 1 + 1) 29 #[.int .i64 (numV z).k, .int .i64 (numV z).n, .string (numV z).s] ∧ Grow w W)
    ⟨((Blk.new _ _ _).al _).al _, (Blk.new' _ _ _ (by simp)).al _, Blk.new' _ _ _ (by simp), (by repeat (first | (with_reducible exact Grow.refl _) | (with_reducible assumption) | (with_reducible refine Grow.set ?_ (by first | (simp; done) | (simp; omega)) _) | (with_reducible refine Grow.al ?_ _) | (with_reducible refine Grow.drew ?_) | (with_reducible refine Grow.drewN ?_ _) | (with_reducible refine Grow.trans ?_ (by assumption))))⟩ ?_
  clear hg hc hf hz
  generalize w2'.heap.size = g
  rintro W ⟨A1, A2, A3, G1⟩
  go_wp2
  simp only [List.append]
  apply wp_region_calm 86 (by kernel_rfl) (by kernel_rfl)
  case h' =>
    intro Q0 hQ0
    simp only [List.take_succ_cons, List.take_zero]
    repeat (
      first
        | (apply calm_p rfl; case h1 => (intro w1 hw1 hF K hK; obtain ⟨c1, f1⟩ := (Blk.grow A1 hw1).rules; obtain ⟨c2, f2⟩ := (Blk.grow A2 hw1).rules; obtain ⟨c3, f3⟩ := (Blk.grow A3 hw1).rules; go_simp; first | exact hK _ (Grow.refl _) | (go_at_call 30; ((with_reducible refine (reckon_any _ _ _ (by first | assumption | exact rv_reckon _ _ _) (by first | assumption | exact rv_reckon _ _ _) _).mono ?_); rintro e w' ⟨rfl, hg⟩; exact ⟨_, rfl, hK _ hg⟩))))
        | (apply calm_y rfl rfl rfl; case h1 => (intro w1 hw1 hF K hK; obtain ⟨c1, f1⟩ := (Blk.grow A1 hw1).rules; obtain ⟨c2, f2⟩ := (Blk.grow A2 hw1).rules; obtain ⟨c3, f3⟩ := (Blk.grow A3 hw1).rules; go_simp; first | exact hK _ (Grow.refl _) | (go_at_call 30; ((with_reducible refine (reckon_any _ _ _ (by first | assumption | exact rv_reckon _ _ _) (by first | assumption | exact rv_reckon _ _ _) _).mono ?_); rintro e w' ⟨rfl, hg⟩; exact ⟨_, rfl, hK _ hg⟩))))
        | apply calm_n rfl rfl rfl rfl
      intro K hK
      go_simp
      apply hK
      clear hK K)
    refine calm_nil ?_
    intro w1 hw1 hF
    apply hQ0
    clear hQ0
    simp only [List.drop_succ_cons, List.drop_zero]
    clear hF
    go_wp2
    go_ret
    exact ⟨rfl, G1.trans hw1⟩
  case hp' => trivial
end Go.Proofs.Ytjhcbehnopmnpaa
