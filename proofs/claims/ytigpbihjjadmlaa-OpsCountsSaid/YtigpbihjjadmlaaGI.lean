/-
  Joined texts of this claim: Zs6, Zs10, Zs8, Zp, Zq. What each proves its own head says; no condition beside those that each theorem names.
-/
import Derived.Test.YtigpbihjjadmlaaGH
import Derived.Deep.DeepCutAuto
namespace Go.Proofs.Ytigpbihjjadmlaa
open Go.RowKit Go.Calm
set_option linter.unusedSimpArgs false
set_option linter.unusedVariables false

set_option maxRecDepth 100000 in
set_option maxHeartbeats 8000000 in
theorem wrongz_any (xs : List I) (A : Option Addr) (c : Nat) (w : World) (hlen : xs.length ≤ 9223372036854775807) (hz : ZIn w A xs) (hl : ∀ x ∈ xs, x.row.length ≤ 9223372036854775807) (R : Int) (hR : wrongZ (xs.map zOf) = R) :
    Calls Try.prog 69 #[.slice A xs.length c] w fun en w' => en = .returned (.int .i64 R) ∧ Grow w w' := by
  have HR := Lib.hid hR
  have Hz := Lib.hid hz
  have Hl := Lib.hid hl
  clear hz hR hl
  go_enter Try.func69, Try.ntmps69
  by_cases h8 : 400 < xs.length
  · have d8 : decide ((400 : Int) < (xs.length : Int)) = true := by simp; omega
    go_wp2
    go_ret
    exact ret_int (by rw [← HR.out]; unfold wrongZ; rw [if_pos (by simpa using h8)]) (Grow.refl _)
  · have d8 : decide ((400 : Int) < (xs.length : Int)) = false := by simp; omega
    have inv0 : wgo (prevR xs 0) ((xs.drop 0).map zOf) = R := by rw [← HR.out]; unfold wrongZ; rw [if_neg (by simpa using h8), List.drop_zero]; rfl
    have Inv0 := Lib.hid inv0
    clear inv0
    go_wp2
    go_loopw [11] (fun i wr => ∃ k : Nat, k ≤ xs.length ∧ i = .int .i64 k ∧ wgo (prevR xs k) ((xs.drop k).map zOf) = R ∧ Grow w wr) (fun i _ => xs.length - (intOf i).toNat)
    case atStart => exact ⟨0, Nat.zero_le _, rfl, Inv0.out, Grow.refl _⟩
    case round =>
      obtain ⟨k, hk, rfl, hinv, hg⟩ := hrel
      have Inv := Lib.hid hinv
      clear hinv
      by_cases hlt : k < xs.length
      · obtain ⟨x, hxk⟩ : ∃ x, xs[k]? = some x := ⟨_, List.getElem?_eq_getElem hlt⟩
        obtain ⟨gx, ox, rfl, c1, c2, hxv⟩ := (Hz.out.grow hg) k x hxk
        have hlx := Hl.out x (List.mem_of_getElem? hxk)
        have inv2 := (wgo_at hxk).symm.trans Inv.out
        have Inv2 := Lib.hid inv2
        have Hxk := Lib.hid hxk
        have Hxv := Lib.hid hxv
        have cb := fun W (h : Grow wr W) (R : Int) (hR : rowE x.row = R) => row_any x.row x.A x.cap W hlx (Hxv.out.grow h) R hR
        obtain ⟨rx, hrx⟩ : ∃ r, rowE x.row = r := ⟨_, rfl⟩
        rw [hrx] at inv2
        have Inv2 := Lib.hid inv2
        clear inv2 hxk hxv
        go_upto_region 6 with fail
        refine wp_forget (fun X => Blk X wr.heap.size 51 #[.slice x.A x.row.length x.cap, .int .i64 x.w] ∧ Grow wr X) ⟨Blk.new _ _ _, (Grow.refl wr).al _⟩ ?_
        rintro X ⟨Bx, G⟩
        obtain ⟨bx, fx⟩ := Bx.rules
        by_cases hw : rx = 0
        · have dw : (rx != 0) = false := by simpa using hw
          rw [if_neg (by simpa using hw)] at Inv2
          go_upto_region 9 with (go_at_call 91; ((with_reducible refine (cb _ G rx hrx).mono ?_); rintro e w2 ⟨rfl, hg2⟩; have Bx2 := Lib.hid (Bx.grow hg2)))
          obtain ⟨bx2, fx2⟩ := Bx2.out.rules
          have G2 := G.trans hg2
          by_cases h0 : x.w = 0
          · have d0 : (x.w == 0) = true := by simpa using h0
            go_wp2
            go_ret
            exact ret_int (by have := Inv2.out; rw [if_pos (.inl h0)] at this; exact this) (hg.trans G2)
          · have d0 : (x.w == 0) = false := by simpa using h0
            by_cases h1 : bigW x.w = true
            · go_wp2_with (go_at_call 92; ((with_reducible refine (weight_any _ _).mono ?_); rintro e w3 ⟨rfl, rfl⟩; rw [h1]))
              go_ret
              exact ret_int (by have := Inv2.out; rw [if_pos (.inr h1)] at this; exact this) (hg.trans G2)
            · have h1' : bigW x.w = false := by simpa using h1
              have inv3 := Inv2.out
              rw [if_neg (by simp [h0, h1'])] at inv3
              have Inv3 := Lib.hid inv3
              clear inv3 Inv2
              go_upto_region 11 with (go_at_call 92; ((with_reducible refine (weight_any _ _).mono ?_); rintro e w3 ⟨rfl, rfl⟩; rw [h1']))
              cases k with
              | zero =>
                have e : R = wgo (prevR xs 1) ((xs.drop 1).map zOf) := by have := Inv3.out; simpa [prevR, badP] using this.symm
                have E := Lib.hid e
                clear e
                apply wp_region_calm 15 (by kernel_rfl) (by kernel_rfl)
                case h' =>
                  intro Q0 hQ0
                  simp only [List.take_succ_cons, List.take_zero]
                  repeat (
                    first
                      | (apply calm_p rfl; case h1 => (intro w1 hw1 hF K hK; obtain ⟨bx, fx⟩ := (Blk.grow Bx2.out hw1).rules; go_simp; first | exact hK _ (Grow.refl _) | fail))
                      | (apply calm_y rfl rfl rfl; case h1 => (intro w1 hw1 hF K hK; obtain ⟨bx, fx⟩ := (Blk.grow Bx2.out hw1).rules; go_simp; first | exact hK _ (Grow.refl _) | fail))
                      | apply calm_n rfl rfl rfl rfl
                    intro K hK
                    go_simp
                    apply hK
                    clear hK K)
                  refine calm_nil ?_
                  intro w1 hw1 hF
                  apply hQ0
                  clear hQ0
                  simp only [List.drop_succ_cons, List.drop_zero]
                  clear hF
                  go_wp2
                  go_roundw
                  case rel => exact ⟨1, by omega, rfl, E.out.symm, hg.trans (G2.trans hw1)⟩
                  case measure => simp [intOf]; omega
                case hp' => trivial
              | succ j =>
                obtain ⟨y, hyk⟩ : ∃ y, xs[j]? = some y := ⟨_, List.getElem?_eq_getElem (by omega)⟩
                obtain ⟨gy, oy, ey, cy1, cy2, hyv⟩ := (Hz.out.grow hg) j y hyk
                cases ey
                have hly := Hl.out y (List.mem_of_getElem? hyk)
                obtain ⟨cr, hcr⟩ : ∃ r, rowsG cmpV y.row x.row = r := ⟨_, rfl⟩
                have cc := fun W (h : Grow wr W) => vrows_any y.row x.row y.A x.A y.cap x.cap W hly hlx (hyv.grow h) (Hxv.out.grow h)
                rw [hcr] at cc
                have inv4 := Inv3.out
                rw [show badP (prevR xs (j + 1)) x.row = decide (0 ≤ cr) by unfold prevR; rw [if_neg (by omega), Nat.add_sub_cancel, hyk, ← hcr]; first | done | rfl] at inv4
                have Inv4 := Lib.hid inv4
                have Hy := Lib.hid (show wr.cell? ⟨gx, ox + j * 2, none⟩ = some (.slice y.A y.row.length y.cap) from cy1)
                have p0 : (0 : Int) < (j : Int) + 1 := by omega
                have dj : decide ((0 : Int) < (j : Int) + 1) = true := decide_eq_true (by omega)
                have hwp : IntKind.i64.wrap (j : Int) = (j : Int) := by rw [IntKind.wrap_i64]; omega
                have jz1 : (j : Int) < (xs.length : Int) := by omega
                have jz3 : j < xs.length := by omega
                clear inv4 Inv3 hyk cy1 cy2 hyv hcr c1 c2
                apply wp_region_calm 15 (by kernel_rfl) (by kernel_rfl)
                case h' =>
                  intro Q0 hQ0
                  simp only [List.take_succ_cons, List.take_zero]
                  repeat (
                    first
                      | (apply calm_p rfl; case h1 => (intro w1 hw1 hF K hK; obtain ⟨bx, fx⟩ := (Blk.grow Bx2.out hw1).rules; have cy1 := (G2.trans hw1).cell Hy.out; go_simp; first | exact hK _ (Grow.refl _) | (go_at_call 40; ((with_reducible refine (cc _ (G2.trans hw1)).mono ?_); rintro e w' ⟨rfl, hg⟩; exact ⟨_, rfl, hK _ hg⟩))))
                      | (apply calm_y rfl rfl rfl; case h1 => (intro w1 hw1 hF K hK; obtain ⟨bx, fx⟩ := (Blk.grow Bx2.out hw1).rules; have cy1 := (G2.trans hw1).cell Hy.out; go_simp; first | exact hK _ (Grow.refl _) | (go_at_call 40; ((with_reducible refine (cc _ (G2.trans hw1)).mono ?_); rintro e w' ⟨rfl, hg⟩; exact ⟨_, rfl, hK _ hg⟩))))
                      | apply calm_n rfl rfl rfl rfl
                    intro K hK
                    go_simp
                    apply hK
                    clear hK K)
                  refine calm_nil ?_
                  intro w1 hw1 hF
                  apply hQ0
                  clear hQ0
                  simp only [List.drop_succ_cons, List.drop_zero]
                  clear hF
                  by_cases hc : 0 ≤ cr
                  · have dc : decide (0 ≤ cr) = true := by simpa using hc
                    simp only [dc]
                    go_wp2
                    go_ret
                    exact ret_int (by have := Inv4.out; rw [if_pos dc] at this; exact this) (hg.trans (G2.trans hw1))
                  · have dc : decide (0 ≤ cr) = false := by simpa using hc
                    simp only [dc]
                    go_wp2
                    go_roundw
                    case rel => exact ⟨j + 2, by omega, by go_num, by have := Inv4.out; rw [if_neg (by simp [dc])] at this; exact this, hg.trans (G2.trans hw1)⟩
                    case measure => simp [intOf]; omega
                case hp' => trivial
        · have dw : (rx != 0) = true := by simpa using hw
          go_wp2_with (go_at_call 91; ((with_reducible refine (cb _ G rx hrx).mono ?_); rintro e w2 ⟨rfl, hg2⟩))
          go_ret
          exact ret_int (by have := Inv2.out; rw [if_pos hw] at this; exact this) (hg.trans (G.trans hg2))
      · obtain rfl : k = xs.length := by omega
        have fin : R = 0 := by have := Inv.out; rw [List.drop_length] at this; exact this.symm
        go_wp2
        go_ret
        exact ret_int fin.symm hg
end Go.Proofs.Ytigpbihjjadmlaa

namespace Go.Proofs.Ytigpbihjjadmlaa
open Go.RowKit Go.Calm
set_option linter.unusedSimpArgs false
set_option linter.unusedVariables false

abbrev fitF : Value := .func (.func 121) #[] #[]
set_option maxRecDepth 100000 in
theorem fit_fn (x : I) (w : World) : Calls Try.prog 121 #[x.val] w fun e w' => e = .returned (.bool (bigW x.w)) ∧ Grow w w' := by
  unfold I.val
  go_enter Try.func121, Try.ntmps121
  go_wp2_with (go_at_call 92; ((with_reducible refine (weight_any _ _).mono ?_); rintro e w3 ⟨rfl, rfl⟩))
  go_ret
  exact ret_bool (by simp) (by repeat (first | (with_reducible exact Grow.refl _) | (with_reducible assumption) | (with_reducible refine Grow.set ?_ (by first | (simp; done) | (simp; omega)) _) | (with_reducible refine Grow.al ?_ _) | (with_reducible refine Grow.drew ?_) | (with_reducible refine Grow.drewN ?_ _) | (with_reducible refine Grow.trans ?_ (by assumption))))

set_option maxRecDepth 100000 in
set_option maxHeartbeats 4000000 in
theorem index_any (xs : List I) (A : Option Addr) (c : Nat) (w : World) (hlen : xs.length ≤ 9223372036854775807) (hz : ZIn w A xs) :
    Calls Try.prog 140 #[.slice A xs.length c, fitF] w fun en w' => (∃ i : Int, en = .returned (.int .i64 i) ∧ decide (0 ≤ i) = (xs.map zOf).any (fun x => bigW x.2)) ∧ Grow w w' := by
  have Hz := Lib.hid hz
  clear hz
  go_enter Try.func140, Try.ntmps140
  go_wp2
  go_loopw [8] (fun i wr => ∃ k : Nat, k ≤ xs.length ∧ i = .int .i64 k ∧ ((xs.drop k).map zOf).any (fun x => bigW x.2) = (xs.map zOf).any (fun x => bigW x.2) ∧ Grow w wr) (fun i _ => xs.length - (intOf i).toNat)
  case atStart => exact ⟨0, Nat.zero_le _, rfl, rfl, Grow.refl _⟩
  case round =>
    obtain ⟨k, hk, rfl, hinv, hg⟩ := hrel
    have Inv := Lib.hid hinv
    clear hinv
    by_cases hlt : k < xs.length
    · obtain ⟨x, hxk⟩ : ∃ x, xs[k]? = some x := ⟨_, List.getElem?_eq_getElem hlt⟩
      obtain ⟨gx, ox, rfl, c1, c2, hxv⟩ := (Hz.out.grow hg) k x hxk
      have inv2 := (any_at hxk).symm.trans Inv.out
      have Inv2 := Lib.hid inv2
      obtain ⟨b, hb⟩ : ∃ b, bigW x.w = b := ⟨_, rfl⟩
      have cc := fun W => fit_fn x W
      rw [hb] at cc
      have Hb := Lib.hid hb
      clear inv2 hxk hxv hb
      cases b with
      | true =>
        go_wp2_with (go_at_call 121; ((with_reducible refine (cc _).mono ?_); rintro e w3 ⟨rfl, hg3⟩))
        go_ret
        exact ⟨⟨_, rfl, by have := Inv2.out; rw [Hb.out, Bool.true_or] at this; rw [← this]; simp⟩, hg.trans hg3⟩
      | false =>
        go_wp2_with (go_at_call 121; ((with_reducible refine (cc _).mono ?_); rintro e w3 ⟨rfl, hg3⟩))
        go_roundw
        case rel => exact ⟨k + 1, by omega, by go_num, by have := Inv2.out; rw [Hb.out, Bool.false_or] at this; exact this, hg.trans hg3⟩
        case measure => simp [intOf]; omega
    · obtain rfl : k = xs.length := by omega
      go_wp2
      go_ret
      exact ⟨⟨_, rfl, by have := Inv.out; rw [List.drop_length] at this; rw [← this]; rfl⟩, hg⟩

set_option maxRecDepth 100000 in
theorem contains_any (xs : List I) (A : Option Addr) (c : Nat) (w : World) (hlen : xs.length ≤ 9223372036854775807) (hz : ZIn w A xs) :
    Calls Try.prog 120 #[.slice A xs.length c, fitF] w fun en w' => en = .returned (.bool ((xs.map zOf).any (fun x => bigW x.2))) ∧ Grow w w' := by
  have cs := index_any xs A c w hlen hz
  have Hz := Lib.hid hz
  clear hz
  go_enter Try.func120, Try.ntmps120
  go_wp2_with (go_at_call 140; ((with_reducible refine cs.mono ?_); rintro en w2 ⟨⟨i, rfl, hi⟩, hg2⟩; have Hi := Lib.hid hi; clear hi))
  go_ret
  exact ret_bool Hi.out hg2

set_option maxRecDepth 100000 in
theorem fit_any (xs : List I) (A : Option Addr) (c : Nat) (w : World) (hlen : xs.length ≤ 9223372036854775807) (hz : ZIn w A xs) (hok : SlOk A xs.length c) :
    Calls Try.prog 77 #[.slice A xs.length c] w fun en w' => Gives w w' en (fitZ (xs.map zOf)) := by
  have cs := contains_any xs A c w hlen hz
  have Hz := Lib.hid hz
  obtain ⟨b, hb⟩ : ∃ b, (xs.map zOf).any (fun x => bigW x.2) = b := ⟨_, rfl⟩
  rw [hb] at cs
  have Hb := Lib.hid hb
  clear hz hb
  go_enter Try.func77, Try.ntmps77
  cases b with
  | true =>
    go_wp2_with (go_at_call 120; ((with_reducible refine cs.mono ?_); rintro en w2 ⟨rfl, hg2⟩))
    refine bodyPost_ret (by simp [results, Try.results77, go_sem] <;> rfl) rfl ?_
    exact ⟨none, [], 0, by unfold fitZ; rw [if_pos Hb.out]; rfl, zin_nil _ _, by unfold fitZ; rw [if_pos Hb.out]; rfl, SlOk.nil, hg2⟩
  | false =>
    by_cases h4 : 400 < xs.length
    · have d4 : decide ((400 : Int) < (xs.length : Int)) = true := decide_eq_true (by omega)
      go_wp2_with (go_at_call 120; ((with_reducible refine cs.mono ?_); rintro en w2 ⟨rfl, hg2⟩))
      refine bodyPost_ret (by simp [results, Try.results77, go_sem] <;> rfl) rfl ?_
      exact ⟨none, [], 0, by unfold fitZ; rw [if_neg (by rw [Hb.out]; simp), if_pos (by simpa using h4)]; rfl, zin_nil _ _, by unfold fitZ; rw [if_neg (by rw [Hb.out]; simp), if_pos (by simpa using h4)]; rfl, SlOk.nil, hg2⟩
    · have d4 : decide ((400 : Int) < (xs.length : Int)) = false := decide_eq_false (by omega)
      go_wp2_with (go_at_call 120; ((with_reducible refine cs.mono ?_); rintro en w2 ⟨rfl, hg2⟩))
      refine bodyPost_ret (by simp [results, Try.results77, go_sem] <;> rfl) rfl ?_
      exact ⟨A, xs, c, by unfold fitZ; rw [if_neg (by rw [Hb.out]; simp), if_neg (by simpa using h4)], Hz.out.grow hg2, by unfold fitZ; rw [if_neg (by rw [Hb.out]; simp), if_neg (by simpa using h4)], hok, hg2⟩

set_option maxRecDepth 100000 in
theorem sum_big (xs : List I) (A : Option Addr) (c : Nat) (w : World) (hlen : xs.length ≤ 200000) (hz : ZIn w A xs) (hrow : ∀ x ∈ xs, x.row.length ≤ 1000) (hrv : ∀ x ∈ xs, ∀ v ∈ x.row, RV v) (hw : ∀ x ∈ xs, -1000000000000 ≤ x.w ∧ x.w ≤ 1000000000000) :
    Calls Try.prog 42 #[.slice A xs.length c] w fun en w' => Gives w w' en (sumZ (xs.map zOf)) := by
  have cs := total_big xs A c w hlen hz hrow hrv hw
  have Hrv := Lib.hid hrv
  have Hlen := Lib.hid hlen
  clear hz hrow hrv hw
  go_enter Try.func42, Try.ntmps42
  go_wp2_with (first
    | (go_at_call 78; ((with_reducible refine cs.mono ?_); rintro en w2 ⟨B, ys, cap, rfl, hz2, hcan, hwt, hsok, hg2⟩; have E := Lib.hid (setZ_of (l := xs.map zOf) (fun x hx => by obtain ⟨y, hy, rfl⟩ := List.mem_map.1 hx; exact Hrv.out y hy) hcan hwt); have Hz2 := Lib.hid hz2; have Hsok := Lib.hid hsok; clear hcan hwt hz2 hsok))
    | (go_at_call 77; ((with_reducible refine (fit_any ys B cap _ ?lenB Hz2.out Hsok.out).mono ?_); rotate_left; rintro en w3 ⟨C, zs, cap2, rfl, hz3, hm, hk3, hg3⟩; have Fin := Lib.hid (And.intro hz3 (And.intro hm hk3)); clear hz3 hm hk3)))
  · refine bodyPost_ret (by simp [results, Try.results42, go_sem] <;> rfl) rfl ?_
    refine ⟨C, zs, cap2, ?_, Fin.out.1, ?_, Fin.out.2.2, hg2.trans hg3⟩
    · unfold sumZ; rw [← E.out]
    · unfold sumZ; rw [← E.out]; exact Fin.out.2.1
  case lenB =>
    have h1 := congrArg List.length E.out
    have h2 := setZ_len (xs.map zOf)
    have h3 := Hlen.out
    simp at h1 h2
    omega

theorem sum_any (xs : List I) (A : Option Addr) (c : Nat) (w : World) (hlen : xs.length ≤ 5000) (hz : ZIn w A xs) (hrow : ∀ x ∈ xs, x.row.length ≤ 1000) (hrv : ∀ x ∈ xs, ∀ v ∈ x.row, RV v) (hw : ∀ x ∈ xs, -1000000 ≤ x.w ∧ x.w ≤ 1000000) :
    Calls Try.prog 42 #[.slice A xs.length c] w fun en w' => Gives w w' en (sumZ (xs.map zOf)) :=
  sum_big xs A c w (by omega) hz hrow hrv (fun x hx => by have := hw x hx; omega)

end Go.Proofs.Ytigpbihjjadmlaa

namespace Go.Proofs.Ytigpbihjjadmlaa
open Go.RowKit Go.Calm
set_option linter.unusedSimpArgs false
set_option linter.unusedVariables false

end Go.Proofs.Ytigpbihjjadmlaa

namespace Go.Proofs.Ytigpbihjjadmlaa
open Go.RowKit Go.Calm
set_option linter.unusedSimpArgs false
set_option linter.unusedVariables false

def scaleZ (t : Int) (l : List Z) : List Z := l.map (fun x => (x.1, t * x.2))
theorem wt_scale (t : Int) : ∀ (l : List Z) (q : List V), wtZ (scaleZ t l) q = t * wtZ l q
  | [], q => by simp [scaleZ, wtZ_nil]
  | x :: l, q => by
    have ih := wt_scale t l q
    show wtZ ((x.1, t * x.2) :: scaleZ t l) q = _
    rw [wtZ_cons, wtZ_cons, ih, Int.mul_add]
    split <;> simp
theorem scale_one (l : List Z) : scaleZ 1 l = l := by simp [scaleZ]
def bothZ (a b : List Z) (t : Int) : List Z × Int := if wrongZ a ≠ 0 then ([], wrongZ a) else if wrongZ b ≠ 0 then ([], wrongZ b) else sumZ (a ++ scaleZ t b)
theorem canon_mem : ∀ {z : List Z}, Canon z → ∀ y ∈ z, wtZ z y.1 = y.2
  | x :: z, h, y, hy => by
    rcases List.mem_cons.1 hy with rfl | hy
    · exact canon_wt h
    · rw [wtZ_cons, canon_mem h.tail y hy, if_neg]
      · simp
      · intro e
        have h1 := (List.pairwise_cons.1 h.up).1 y hy
        have h2 := (ordR_zero x.1 y.1 (h.rv x (by simp)) (h.rv y (by simp [hy]))).2 e
        omega
theorem addZ_mem : ∀ (l z : List Z), ∀ y ∈ addZ z l, (∃ x ∈ z, y.1 = x.1) ∨ ∃ x ∈ l, y.1 = bareR x.1
  | [], z, y, hy => .inl ⟨y, hy, rfl⟩
  | x :: l, z, y, hy => by
    rw [addZ_cons] at hy
    rcases addZ_mem l _ y hy with ⟨u, hu, e⟩ | ⟨u, hu, e⟩
    · rcases putZ_mem _ _ _ u hu with h | ⟨h, _⟩
      · exact .inl ⟨u, h, e⟩
      · exact .inr ⟨x, by simp, by rw [e, h]⟩
    · exact .inr ⟨u, by simp [hu], e⟩
theorem setZ_mem {l : List Z} {y : Z} (h : y ∈ setZ l) : ∃ x ∈ l, y.1 = bareR x.1 := by
  rcases addZ_mem l [] y h with ⟨u, hu, _⟩ | h
  · simp at hu
  · exact h
theorem setZ_ext {a b : List Z} (ha : ∀ x ∈ a, ∀ v ∈ x.1, RV v) (hb : ∀ x ∈ b, ∀ v ∈ x.1, RV v) (h : ∀ q, wtZ a q = wtZ b q) : setZ a = setZ b :=
  setZ_of hb (setZ_spec a ha).1 (fun q => by rw [(setZ_spec a ha).2, h])
theorem bigW_iff (n : Int) : bigW n = true ↔ ¬ (-1000000 ≤ n ∧ n ≤ 1000000) := by simp [bigW]; omega
def okR (z : List Z) : Prop := ∀ x ∈ z, x.1.length ≤ 8 ∧ ∀ v ∈ x.1, RV v
structure SM (M : Int) (N : Nat) (z : List Z) : Prop where
  ok : okR z
  up : z.Pairwise (fun x y => ordR x.1 y.1 < 0)
  ne : ∀ x ∈ z, x.2 ≠ 0
  bd : bdZ M z
  len : z.length ≤ N
theorem SM.rv {M : Int} {N : Nat} {z : List Z} (h : SM M N z) : ∀ x ∈ z, ∀ v ∈ x.1, RV v := fun x hx => (h.ok x hx).2
theorem SM.of {z : List Z} (h : wrongZ z = 0) : SM 1000000 400 z := by
  have h := (wrongZ_zero z).1 h
  exact ⟨h.row, h.up, fun x hx => (h.w x hx).1, fun x hx => (h.w x hx).2, h.len⟩
end Go.Proofs.Ytigpbihjjadmlaa

namespace Go.Proofs.Ytigpbihjjadmlaa
open Go.RowKit Go.Calm
set_option linter.unusedSimpArgs false
set_option linter.unusedVariables false

def bks (at' : Int) (i : Nat) (x : I) : List I := if (i : Int) = at' ∧ 1 < x.w then [⟨x.A, x.row, x.cap, x.w - 1⟩, ⟨x.A, x.row, x.cap, 1⟩] else [x]
def bk (at' : Int) : Nat → List I → List I
  | _, [] => []
  | i, x :: l => bk at' (i + 1) l ++ bks at' i x
end Go.Proofs.Ytigpbihjjadmlaa
