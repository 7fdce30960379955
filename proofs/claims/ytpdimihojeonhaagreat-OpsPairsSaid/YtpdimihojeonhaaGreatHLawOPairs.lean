/-
  A text of the proof of the law OpsPairs; no condition beside the row's own.
-/
import Derived.Test.YtpdimihojeonhaaGreatGZa
import Derived.Test.YtpdimihojeonhaaGreatHLawOLinear
/-
  The law OpsPairs, walked.
-/
namespace Go.Proofs.YtpdimihojeonhaaGreat
open Go.RowKit Go.Calm
set_option linter.unusedSimpArgs false
set_option linter.unusedVariables false

abbrev pairF : Array Value := #[.func (.func 13) #[] #[], .func (.func 14) #[] #[], .func (.func 15) #[] #[], .func (.func 16) #[] #[]]
set_option maxRecDepth 100000 in
set_option maxHeartbeats 8000000 in
theorem law_opairs (l r : L2 Int) (x : E) (a b : S) (w : World) (hll : l.xs.length ≤ 140737488355328) (hlr : r.xs.length ≤ 140737488355328) (hl : ISl w l.A l.xs) (hr : ISl w r.A r.xs) (hx : EX w x) (ha : In w a) (hb : In w b) :
    Calls Tryz.prog 4 #[.slice l.A l.xs.length l.cap, .slice r.A r.xs.length r.cap, x.val, .slice a.A a.xs.length a.cap, .slice b.A b.xs.length b.cap] w fun en w' => en = .returned (.bool true) ∧ Grow w w' := by
  have p0 := fun W (h : Grow w W) => (ojoin_any l r x a b W hll hlr (hl.grow h) (hr.grow h) (hx.grow h) (ha.grow h) (hb.grow h)).mono (fun e w' h => Gives.i h (join_sml l.xs r.xs x a.z b.z))
  have q0 := fun W (h : Grow w W) => (rpairs0 l r x a b W hll hlr (hl.grow h) (hr.grow h) (hx.grow h) (ha.grow h) (hb.grow h)).mono (fun e w' h => Gives.i h (join_sml l.xs r.xs x a.z b.z))
  obtain ⟨R0, e0, h0⟩ : ∃ R e, joinZ l.xs r.xs x a.z b.z = (R, e) := ⟨_, _, rfl⟩
  rw [h0] at p0 q0
  unfold E.val at p0 q0
  have P0 := Lib.hid p0
  have Q0 := Lib.hid q0
  clear p0 q0 h0
  have p1 := fun W (h : Grow w W) => (semi_any l r x a b W hll hlr (hl.grow h) (hr.grow h) (hx.grow h) (ha.grow h) (hb.grow h)).mono (fun e w' h => Gives.i h (part_sml true l.xs r.xs x a.z b.z))
  have q1 := fun W (h : Grow w W) => (rpairs1 l r x a b W hll hlr (hl.grow h) (hr.grow h) (hx.grow h) (ha.grow h) (hb.grow h)).mono (fun e w' h => Gives.i h (part_sml true l.xs r.xs x a.z b.z))
  obtain ⟨R1, e1, h1⟩ : ∃ R e, partZ true l.xs r.xs x a.z b.z = (R, e) := ⟨_, _, rfl⟩
  rw [h1] at p1 q1
  unfold E.val at p1 q1
  have P1 := Lib.hid p1
  have Q1 := Lib.hid q1
  clear p1 q1 h1
  have p2 := fun W (h : Grow w W) => (anti_any l r x a b W hll hlr (hl.grow h) (hr.grow h) (hx.grow h) (ha.grow h) (hb.grow h)).mono (fun e w' h => Gives.i h (part_sml false l.xs r.xs x a.z b.z))
  have q2 := fun W (h : Grow w W) => (rpairs2 l r x a b W hll hlr (hl.grow h) (hr.grow h) (hx.grow h) (ha.grow h) (hb.grow h)).mono (fun e w' h => Gives.i h (part_sml false l.xs r.xs x a.z b.z))
  obtain ⟨R2, e2, h2⟩ : ∃ R e, partZ false l.xs r.xs x a.z b.z = (R, e) := ⟨_, _, rfl⟩
  rw [h2] at p2 q2
  unfold E.val at p2 q2
  have P2 := Lib.hid p2
  have Q2 := Lib.hid q2
  clear p2 q2 h2
  have p3 := fun W (h : Grow w W) => (left_any l r x a b W hll hlr (hl.grow h) (hr.grow h) (hx.grow h) (ha.grow h) (hb.grow h)).mono (fun e w' h => Gives.i h (left_sml l.xs r.xs x a.z b.z))
  have q3 := fun W (h : Grow w W) => (rpairs3 l r x a b W hll hlr (hl.grow h) (hr.grow h) (hx.grow h) (ha.grow h) (hb.grow h)).mono (fun e w' h => Gives.i h (left_sml l.xs r.xs x a.z b.z))
  obtain ⟨R3, e3, h3⟩ : ∃ R e, leftZ l.xs r.xs x a.z b.z = (R, e) := ⟨_, _, rfl⟩
  rw [h3] at p3 q3
  unfold E.val at p3 q3
  have P3 := Lib.hid p3
  have Q3 := Lib.hid q3
  clear p3 q3 h3
  clear hl hr hx ha hb
  unfold E.val
  go_enter Tryz.func4, Tryz.ntmps4
  go_upto_region 1 with fail
  refine wp_forget (fun X => Blk X w.heap.size 27 #[.int .i64 x.kind, .int .i64 x.v.k, .int .i64 x.v.n, .string x.v.s, .int .i64 x.col, .slice x.A x.n x.cap] ∧ Grow w X) ⟨Blk.new _ _ _, (Grow.refl _).al _⟩ ?_
  generalize w.heap.size = g1
  rintro X ⟨B1, G⟩
  have BB := Lib.hid B1
  clear B1
  go_upto_region 2 with fail
  refine wp_forget (fun Y => Blk Y X.heap.size 36 pairF ∧ Grow X Y) ⟨Blk.new _ _ _, (Grow.refl _).al _⟩ ?_
  generalize X.heap.size = g2
  rintro Y ⟨By, Gy⟩
  have BY := Lib.hid By
  have BX := Lib.hid (BB.out.grow Gy)
  have GY := G.trans Gy
  clear By BB
  go_wp2
  go_loopw [19] (fun i wr => ∃ k : Nat, k ≤ 4 ∧ i = .int .i64 k ∧ Grow Y wr) (fun i _ => 4 - (intOf i).toNat)
  case atStart => exact ⟨0, by omega, rfl, Grow.refl _⟩
  case round =>
    rename World => wr
    obtain ⟨k, hk, rfl, hg⟩ := hrel
    by_cases hlt : k < 4
    · have hk4 : k = 0 ∨ k = 1 ∨ k = 2 ∨ k = 3 := by omega
      rcases hk4 with rfl | rfl | rfl | rfl
      · obtain ⟨by1, fy1⟩ := (BY.out.grow hg).rules
        obtain ⟨bx, fx⟩ := (BX.out.grow hg).rules
        go_upto_region 5 with (go_at_call 13; ((with_reducible refine (P0.out _ (GY.trans hg)).mono ?_); rintro en w4 ⟨F4, l4, c4, rfl, hi4, hm4, hg4⟩; have I4 := Lib.hid hi4; have M4 := Lib.hid hm4; clear hi4 hm4))
        clear bx fx by1 fy1
        obtain ⟨bx, fx⟩ := (BX.out.grow (hg.trans hg4)).rules
        go_upto_region 6 with (go_at_call 17; ((with_reducible refine (Q0.out _ (GY.trans (hg.trans hg4))).mono ?_); rintro en w5 ⟨F5, l5, c5, rfl, hi5, hm5, hg5⟩; have I5 := Lib.hid hi5; have M5 := Lib.hid hm5; clear hi5 hm5))
        clear bx fx
        have sm := fun W (h : Grow w5 W) => same_in ⟨F4, l4, c4⟩ ⟨F5, l5, c5⟩ W (I4.out.grow (hg5.trans h)) (I5.out.grow h) (M4.out.trans M5.out.symm)
        have d0 : (e0 != e0) = false := by simp
        go_wp2_with (go_at_call 8; ((with_reducible refine (sm _ (Grow.refl _)).mono ?_); rintro e1 w6 ⟨rfl, hg6⟩))
        go_roundw
        case rel => exact ⟨0+1, by omega, by go_num, hg.trans (hg4.trans (hg5.trans hg6))⟩
        case measure => simp [intOf]
      · obtain ⟨by1, fy1⟩ := (BY.out.grow hg).rules
        obtain ⟨bx, fx⟩ := (BX.out.grow hg).rules
        go_upto_region 5 with (go_at_call 14; ((with_reducible refine (P1.out _ (GY.trans hg)).mono ?_); rintro en w4 ⟨F4, l4, c4, rfl, hi4, hm4, hg4⟩; have I4 := Lib.hid hi4; have M4 := Lib.hid hm4; clear hi4 hm4))
        clear bx fx by1 fy1
        obtain ⟨bx, fx⟩ := (BX.out.grow (hg.trans hg4)).rules
        go_upto_region 6 with (go_at_call 17; ((with_reducible refine (Q1.out _ (GY.trans (hg.trans hg4))).mono ?_); rintro en w5 ⟨F5, l5, c5, rfl, hi5, hm5, hg5⟩; have I5 := Lib.hid hi5; have M5 := Lib.hid hm5; clear hi5 hm5))
        clear bx fx
        have sm := fun W (h : Grow w5 W) => same_in ⟨F4, l4, c4⟩ ⟨F5, l5, c5⟩ W (I4.out.grow (hg5.trans h)) (I5.out.grow h) (M4.out.trans M5.out.symm)
        have d0 : (e1 != e1) = false := by simp
        go_wp2_with (go_at_call 8; ((with_reducible refine (sm _ (Grow.refl _)).mono ?_); rintro e1 w6 ⟨rfl, hg6⟩))
        go_roundw
        case rel => exact ⟨1+1, by omega, by go_num, hg.trans (hg4.trans (hg5.trans hg6))⟩
        case measure => simp [intOf]
      · obtain ⟨by1, fy1⟩ := (BY.out.grow hg).rules
        obtain ⟨bx, fx⟩ := (BX.out.grow hg).rules
        go_upto_region 5 with (go_at_call 15; ((with_reducible refine (P2.out _ (GY.trans hg)).mono ?_); rintro en w4 ⟨F4, l4, c4, rfl, hi4, hm4, hg4⟩; have I4 := Lib.hid hi4; have M4 := Lib.hid hm4; clear hi4 hm4))
        clear bx fx by1 fy1
        obtain ⟨bx, fx⟩ := (BX.out.grow (hg.trans hg4)).rules
        go_upto_region 6 with (go_at_call 17; ((with_reducible refine (Q2.out _ (GY.trans (hg.trans hg4))).mono ?_); rintro en w5 ⟨F5, l5, c5, rfl, hi5, hm5, hg5⟩; have I5 := Lib.hid hi5; have M5 := Lib.hid hm5; clear hi5 hm5))
        clear bx fx
        have sm := fun W (h : Grow w5 W) => same_in ⟨F4, l4, c4⟩ ⟨F5, l5, c5⟩ W (I4.out.grow (hg5.trans h)) (I5.out.grow h) (M4.out.trans M5.out.symm)
        have d0 : (e2 != e2) = false := by simp
        go_wp2_with (go_at_call 8; ((with_reducible refine (sm _ (Grow.refl _)).mono ?_); rintro e1 w6 ⟨rfl, hg6⟩))
        go_roundw
        case rel => exact ⟨2+1, by omega, by go_num, hg.trans (hg4.trans (hg5.trans hg6))⟩
        case measure => simp [intOf]
      · obtain ⟨by1, fy1⟩ := (BY.out.grow hg).rules
        obtain ⟨bx, fx⟩ := (BX.out.grow hg).rules
        go_upto_region 5 with (go_at_call 16; ((with_reducible refine (P3.out _ (GY.trans hg)).mono ?_); rintro en w4 ⟨F4, l4, c4, rfl, hi4, hm4, hg4⟩; have I4 := Lib.hid hi4; have M4 := Lib.hid hm4; clear hi4 hm4))
        clear bx fx by1 fy1
        obtain ⟨bx, fx⟩ := (BX.out.grow (hg.trans hg4)).rules
        go_upto_region 6 with (go_at_call 17; ((with_reducible refine (Q3.out _ (GY.trans (hg.trans hg4))).mono ?_); rintro en w5 ⟨F5, l5, c5, rfl, hi5, hm5, hg5⟩; have I5 := Lib.hid hi5; have M5 := Lib.hid hm5; clear hi5 hm5))
        clear bx fx
        have sm := fun W (h : Grow w5 W) => same_in ⟨F4, l4, c4⟩ ⟨F5, l5, c5⟩ W (I4.out.grow (hg5.trans h)) (I5.out.grow h) (M4.out.trans M5.out.symm)
        have d0 : (e3 != e3) = false := by simp
        go_wp2_with (go_at_call 8; ((with_reducible refine (sm _ (Grow.refl _)).mono ?_); rintro e1 w6 ⟨rfl, hg6⟩))
        go_roundw
        case rel => exact ⟨3+1, by omega, by go_num, hg.trans (hg4.trans (hg5.trans hg6))⟩
        case measure => simp [intOf]
    · obtain rfl : k = 4 := by omega
      go_wp2
      go_ret
      exact ret_bool (by simp) (GY.trans hg)
end Go.Proofs.YtpdimihojeonhaaGreat
