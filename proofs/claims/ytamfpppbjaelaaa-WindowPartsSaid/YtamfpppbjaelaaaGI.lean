/-
  Joined texts of this claim: Zs6, Zs10, Zs8, Zp, Zq. What each proves its own head says; no condition beside those that each theorem names.
-/
import Derived.Test.YtamfpppbjaelaaaGH
import Derived.Deep.DeepCutAuto
set_option maxRecDepth 100000
set_option maxHeartbeats 8000000
namespace Go.Proofs.Ytamfpppbjaelaaa
open Go.RowKit Go.Calm
set_option linter.unusedSimpArgs false
set_option linter.unusedVariables false
theorem wrongz_any (xs : List I) (A : Option Addr) (c : Nat) (w : World) (hlen : xs.length ≤ 9223372036854775807) (hz : ZIn w A xs) (hl : ∀ x ∈ xs, x.row.length ≤ 9223372036854775807) (R : Int) (hR : wrongZ (xs.map zOf) = R) :
    Calls Try.prog 40 #[.slice A xs.length c] w fun en w' => en = .returned (.int .i64 R) ∧ Grow w w' := by
  have HR := Lib.hid hR
  have Hz := Lib.hid hz
  have Hl := Lib.hid hl
  clear hz hR hl
  go_enter Try.func40, Try.ntmps40
  by_cases h8 : 400 < xs.length
  · have d8 : decide ((400 : Int) < (xs.length : Int)) = true := by simp; omega
    go_wp2
    go_ret
    exact ret_int (by rw [← HR.out]; unfold wrongZ; rw [if_pos (by simpa using h8)]) (Grow.refl _)
  · have d8 : decide ((400 : Int) < (xs.length : Int)) = false := by simp; omega
    have inv0 : wgo (prevR xs 0) ((xs.drop 0).map zOf) = R := by rw [← HR.out]; unfold wrongZ; rw [if_neg (by simpa using h8), List.drop_zero]; rfl
    have Inv0 := Lib.hid inv0
    clear inv0
    go_wp2
    go_loopw [11] (fun i wr => ∃ k : Nat, k ≤ xs.length ∧ i = .int .i64 k ∧ wgo (prevR xs k) ((xs.drop k).map zOf) = R ∧ Grow w wr) (fun i _ => xs.length - (intOf i).toNat)
    case atStart => exact ⟨0, Nat.zero_le _, rfl, Inv0.out, Grow.refl _⟩
    case round =>
      obtain ⟨k, hk, rfl, hinv, hg⟩ := hrel
      have Inv := Lib.hid hinv
      clear hinv
      by_cases hlt : k < xs.length
      · obtain ⟨x, hxk⟩ : ∃ x, xs[k]? = some x := ⟨_, List.getElem?_eq_getElem hlt⟩
        obtain ⟨gx, ox, rfl, c1, c2, hxv⟩ := (Hz.out.grow hg) k x hxk
        have hlx := Hl.out x (List.mem_of_getElem? hxk)
        have inv2 := (wgo_at hxk).symm.trans Inv.out
        have Inv2 := Lib.hid inv2
        have Hxk := Lib.hid hxk
        have Hxv := Lib.hid hxv
        have cb := fun W (h : Grow wr W) (R : Int) (hR : rowE x.row = R) => row_any x.row x.A x.cap W hlx (Hxv.out.grow h) R hR
        obtain ⟨rx, hrx⟩ : ∃ r, rowE x.row = r := ⟨_, rfl⟩
        rw [hrx] at inv2
        have Inv2 := Lib.hid inv2
        clear inv2 hxk hxv
        go_upto_region 6 with fail
        refine wp_forget (fun X => Blk X wr.heap.size 39 #[.slice x.A x.row.length x.cap, .int .i64 x.w] ∧ Grow wr X) ⟨Blk.new _ _ _, (Grow.refl wr).al _⟩ ?_
        rintro X ⟨Bx, G⟩
        obtain ⟨bx, fx⟩ := Bx.rules
        by_cases hw : rx = 0
        · have dw : (rx != 0) = false := by simpa using hw
          rw [if_neg (by simpa using hw)] at Inv2
          go_upto_region 9 with (go_at_call 62; ((with_reducible refine (cb _ G rx hrx).mono ?_); rintro e w2 ⟨rfl, hg2⟩; have Bx2 := Lib.hid (Bx.grow hg2)))
          obtain ⟨bx2, fx2⟩ := Bx2.out.rules
          have G2 := G.trans hg2
          by_cases h0 : x.w = 0
          · have d0 : (x.w == 0) = true := by simpa using h0
            go_wp2
            go_ret
            exact ret_int (by have := Inv2.out; rw [if_pos (.inl h0)] at this; exact this) (hg.trans G2)
          · have d0 : (x.w == 0) = false := by simpa using h0
            by_cases h1 : bigW x.w = true
            · go_wp2_with (go_at_call 63; ((with_reducible refine (weight_any _ _).mono ?_); rintro e w3 ⟨rfl, rfl⟩; rw [h1]))
              go_ret
              exact ret_int (by have := Inv2.out; rw [if_pos (.inr h1)] at this; exact this) (hg.trans G2)
            · have h1' : bigW x.w = false := by simpa using h1
              have inv3 := Inv2.out
              rw [if_neg (by simp [h0, h1'])] at inv3
              have Inv3 := Lib.hid inv3
              clear inv3 Inv2
              go_upto_region 11 with (go_at_call 63; ((with_reducible refine (weight_any _ _).mono ?_); rintro e w3 ⟨rfl, rfl⟩; rw [h1']))
              cases k with
              | zero =>
                have e : R = wgo (prevR xs 1) ((xs.drop 1).map zOf) := by have := Inv3.out; simpa [prevR, badP] using this.symm
                have E := Lib.hid e
                clear e
                apply wp_region_calm 15 (by kernel_rfl) (by kernel_rfl)
                case h' =>
                  intro Q0 hQ0
                  simp only [List.take_succ_cons, List.take_zero]
                  repeat ((first | ((first | apply calm_p rfl | apply calm_y rfl rfl rfl); case h1 => (intro w1 hw1 hF K hK; obtain ⟨bx, fx⟩ := (Blk.grow Bx2.out hw1).rules; go_simp; first | exact hK _ (Grow.refl _))) | apply calm_n rfl rfl rfl rfl); intro K hK; go_simp; apply hK; clear hK K)
                  refine calm_nil ?_
                  intro w1 hw1 hF
                  apply hQ0
                  clear hQ0
                  simp only [List.drop_succ_cons, List.drop_zero]
                  clear hF
                  go_wp2
                  go_roundw
                  case rel => exact ⟨1, by omega, rfl, E.out.symm, hg.trans (G2.trans hw1)⟩
                  case measure => simp [intOf]; omega
                case hp' => trivial
              | succ j =>
                obtain ⟨y, hyk⟩ : ∃ y, xs[j]? = some y := ⟨_, List.getElem?_eq_getElem (by omega)⟩
                obtain ⟨gy, oy, ey, cy1, cy2, hyv⟩ := (Hz.out.grow hg) j y hyk
                cases ey
                have hly := Hl.out y (List.mem_of_getElem? hyk)
                obtain ⟨cr, hcr⟩ : ∃ r, rowsG cmpV y.row x.row = r := ⟨_, rfl⟩
                have cc := fun W (h : Grow wr W) => vrows_any y.row x.row y.A x.A y.cap x.cap W hly hlx (hyv.grow h) (Hxv.out.grow h)
                rw [hcr] at cc
                have inv4 := Inv3.out
                rw [show badP (prevR xs (j + 1)) x.row = decide (0 ≤ cr) by unfold prevR; rw [if_neg (by omega), Nat.add_sub_cancel, hyk, ← hcr]; first | done | rfl] at inv4
                have Inv4 := Lib.hid inv4
                have Hy := Lib.hid (show wr.cell? ⟨gx, ox + j * 2, none⟩ = some (.slice y.A y.row.length y.cap) from cy1)
                have p0 : (0 : Int) < (j : Int) + 1 := by omega
                have dj : decide ((0 : Int) < (j : Int) + 1) = true := decide_eq_true (by omega)
                have hwp : IntKind.i64.wrap (j : Int) = (j : Int) := by rw [IntKind.wrap_i64]; omega
                have jz1 : (j : Int) < (xs.length : Int) := by omega
                have jz3 : j < xs.length := by omega
                clear inv4 Inv3 hyk cy1 cy2 hyv hcr c1 c2
                apply wp_region_calm 15 (by kernel_rfl) (by kernel_rfl)
                case h' =>
                  intro Q0 hQ0
                  simp only [List.take_succ_cons, List.take_zero]
                  repeat ((first | ((first | apply calm_p rfl | apply calm_y rfl rfl rfl); case h1 => (intro w1 hw1 hF K hK; obtain ⟨bx, fx⟩ := (Blk.grow Bx2.out hw1).rules; have cy1 := (G2.trans hw1).cell Hy.out; go_simp; first | exact hK _ (Grow.refl _) | (go_at_call 24; ((with_reducible refine (cc _ (G2.trans hw1)).mono ?_); rintro e w' ⟨rfl, hg⟩; exact ⟨_, rfl, hK _ hg⟩)))) | apply calm_n rfl rfl rfl rfl); intro K hK; go_simp; apply hK; clear hK K)
                  refine calm_nil ?_
                  intro w1 hw1 hF
                  apply hQ0
                  clear hQ0
                  simp only [List.drop_succ_cons, List.drop_zero]
                  clear hF
                  by_cases hc : 0 ≤ cr
                  · have dc : decide (0 ≤ cr) = true := by simpa using hc
                    simp only [dc]
                    go_wp2
                    go_ret
                    exact ret_int (by have := Inv4.out; rw [if_pos dc] at this; exact this) (hg.trans (G2.trans hw1))
                  · have dc : decide (0 ≤ cr) = false := by simpa using hc
                    simp only [dc]
                    go_wp2
                    go_roundw
                    case rel => exact ⟨j + 2, by omega, by go_num, by have := Inv4.out; rw [if_neg (by simp [dc])] at this; exact this, hg.trans (G2.trans hw1)⟩
                    case measure => simp [intOf]; omega
                case hp' => trivial
        · have dw : (rx != 0) = true := by simpa using hw
          go_wp2_with (go_at_call 62; ((with_reducible refine (cb _ G rx hrx).mono ?_); rintro e w2 ⟨rfl, hg2⟩))
          go_ret
          exact ret_int (by have := Inv2.out; rw [if_pos hw] at this; exact this) (hg.trans (G.trans hg2))
      · obtain rfl : k = xs.length := by omega
        have fin : R = 0 := by have := Inv.out; rw [List.drop_length] at this; exact this.symm
        go_wp2
        go_ret
        exact ret_int fin.symm hg
abbrev fitF : Value := .func (.func 76) #[] #[]
theorem fit_fn (x : I) (w : World) : Calls Try.prog 76 #[x.val] w fun e w' => e = .returned (.bool (bigW x.w)) ∧ Grow w w' := by
  unfold I.val
  go_enter Try.func76, Try.ntmps76
  go_wp2_with (go_at_call 63; ((with_reducible refine (weight_any _ _).mono ?_); rintro e w3 ⟨rfl, rfl⟩))
  go_ret
  exact ret_bool (by simp) growW

theorem index_any (xs : List I) (A : Option Addr) (c : Nat) (w : World) (hlen : xs.length ≤ 9223372036854775807) (hz : ZIn w A xs) :
    Calls Try.prog 90 #[.slice A xs.length c, fitF] w fun en w' => (∃ i : Int, en = .returned (.int .i64 i) ∧ decide (0 ≤ i) = (xs.map zOf).any (fun x => bigW x.2)) ∧ Grow w w' := by
  have Hz := Lib.hid hz
  clear hz
  go_enter Try.func90, Try.ntmps90
  go_wp2
  go_loopw [8] (fun i wr => ∃ k : Nat, k ≤ xs.length ∧ i = .int .i64 k ∧ ((xs.drop k).map zOf).any (fun x => bigW x.2) = (xs.map zOf).any (fun x => bigW x.2) ∧ Grow w wr) (fun i _ => xs.length - (intOf i).toNat)
  case atStart => exact ⟨0, Nat.zero_le _, rfl, rfl, Grow.refl _⟩
  case round =>
    obtain ⟨k, hk, rfl, hinv, hg⟩ := hrel
    have Inv := Lib.hid hinv
    clear hinv
    by_cases hlt : k < xs.length
    · obtain ⟨x, hxk⟩ : ∃ x, xs[k]? = some x := ⟨_, List.getElem?_eq_getElem hlt⟩
      obtain ⟨gx, ox, rfl, c1, c2, hxv⟩ := (Hz.out.grow hg) k x hxk
      have inv2 := (any_at hxk).symm.trans Inv.out
      have Inv2 := Lib.hid inv2
      obtain ⟨b, hb⟩ : ∃ b, bigW x.w = b := ⟨_, rfl⟩
      have cc := fun W => fit_fn x W
      rw [hb] at cc
      have Hb := Lib.hid hb
      clear inv2 hxk hxv hb
      cases b with
      | true =>
        go_wp2_with (go_at_call 76; ((with_reducible refine (cc _).mono ?_); rintro e w3 ⟨rfl, hg3⟩))
        go_ret
        exact ⟨⟨_, rfl, by have := Inv2.out; rw [Hb.out, Bool.true_or] at this; rw [← this]; simp⟩, hg.trans hg3⟩
      | false =>
        go_wp2_with (go_at_call 76; ((with_reducible refine (cc _).mono ?_); rintro e w3 ⟨rfl, hg3⟩))
        go_roundw
        case rel => exact ⟨k + 1, by omega, by go_num, by have := Inv2.out; rw [Hb.out, Bool.false_or] at this; exact this, hg.trans hg3⟩
        case measure => simp [intOf]; omega
    · obtain rfl : k = xs.length := by omega
      go_wp2
      go_ret
      exact ⟨⟨_, rfl, by have := Inv.out; rw [List.drop_length] at this; rw [← this]; rfl⟩, hg⟩

theorem contains_any (xs : List I) (A : Option Addr) (c : Nat) (w : World) (hlen : xs.length ≤ 9223372036854775807) (hz : ZIn w A xs) :
    Calls Try.prog 75 #[.slice A xs.length c, fitF] w fun en w' => en = .returned (.bool ((xs.map zOf).any (fun x => bigW x.2))) ∧ Grow w w' := by
  have cs := index_any xs A c w hlen hz
  have Hz := Lib.hid hz
  clear hz
  go_enter Try.func75, Try.ntmps75
  go_wp2_with (go_at_call 90; ((with_reducible refine cs.mono ?_); rintro en w2 ⟨⟨i, rfl, hi⟩, hg2⟩; have Hi := Lib.hid hi; clear hi))
  go_ret
  exact ret_bool Hi.out hg2

abbrev CapI (x : I) : Prop := x.row.length ≤ x.cap
def GivesP (P : I → Prop) (w w' : World) (e : Ending) (r : List Z × Int) : Prop := ∃ (B : Option Addr) (ys : List I) (cap : Nat), e = .returned (.tuple #[.slice B ys.length cap, .int .i64 r.2]) ∧ ZIn w' B ys ∧ ys.map zOf = r.1 ∧ SlOk B ys.length cap ∧ (∀ y ∈ ys, P y) ∧ Grow w w'
theorem GivesP.gives {P : I → Prop} {w w' : World} {e : Ending} {r : List Z × Int} (h : GivesP P w w' e r) : Gives w w' e r := by
  obtain ⟨B, ys, cap, h1, h2, h3, h4, _, h5⟩ := h
  exact ⟨B, ys, cap, h1, h2, h3, h4, h5⟩
theorem fit_p (xs : List I) (A : Option Addr) (c : Nat) (w : World) (hlen : xs.length ≤ 9223372036854775807) (hz : ZIn w A xs) (hok : SlOk A xs.length c) (P : I → Prop) (hP : ∀ x ∈ xs, P x) :
    Calls Try.prog 48 #[.slice A xs.length c] w fun en w' => GivesP P w w' en (fitZ (xs.map zOf)) := by
  have cs := contains_any xs A c w hlen hz
  have Hz := Lib.hid hz
  obtain ⟨b, hb⟩ : ∃ b, (xs.map zOf).any (fun x => bigW x.2) = b := ⟨_, rfl⟩
  rw [hb] at cs
  have Hb := Lib.hid hb
  clear hz hb
  go_enter Try.func48, Try.ntmps48
  cases b with
  | true =>
    go_wp2_with (go_at_call 75; ((with_reducible refine cs.mono ?_); rintro en w2 ⟨rfl, hg2⟩))
    refine bodyPost_ret (by simp [results, Try.results48, go_sem] <;> rfl) rfl ?_
    exact ⟨none, [], 0, by unfold fitZ; rw [if_pos Hb.out]; rfl, zin_nil _ _, by unfold fitZ; rw [if_pos Hb.out]; rfl, SlOk.nil, fun y hy => by simp at hy, hg2⟩
  | false =>
    by_cases h4 : 400 < xs.length
    · have d4 : decide ((400 : Int) < (xs.length : Int)) = true := decide_eq_true (by omega)
      go_wp2_with (go_at_call 75; ((with_reducible refine cs.mono ?_); rintro en w2 ⟨rfl, hg2⟩))
      refine bodyPost_ret (by simp [results, Try.results48, go_sem] <;> rfl) rfl ?_
      exact ⟨none, [], 0, by unfold fitZ; rw [if_neg (by rw [Hb.out]; simp), if_pos (by simpa using h4)]; rfl, zin_nil _ _, by unfold fitZ; rw [if_neg (by rw [Hb.out]; simp), if_pos (by simpa using h4)]; rfl, SlOk.nil, fun y hy => by simp at hy, hg2⟩
    · have d4 : decide ((400 : Int) < (xs.length : Int)) = false := decide_eq_false (by omega)
      go_wp2_with (go_at_call 75; ((with_reducible refine cs.mono ?_); rintro en w2 ⟨rfl, hg2⟩))
      refine bodyPost_ret (by simp [results, Try.results48, go_sem] <;> rfl) rfl ?_
      exact ⟨A, xs, c, by unfold fitZ; rw [if_neg (by rw [Hb.out]; simp), if_neg (by simpa using h4)], Hz.out.grow hg2, by unfold fitZ; rw [if_neg (by rw [Hb.out]; simp), if_neg (by simpa using h4)], hok, hP, hg2⟩

theorem sum_p (xs : List I) (A : Option Addr) (c : Nat) (w : World) (hlen : xs.length ≤ 200000) (hz : ZIn w A xs) (hrow : ∀ x ∈ xs, x.row.length ≤ 1000) (hrv : ∀ x ∈ xs, ∀ v ∈ x.row, RV v) (hw : ∀ x ∈ xs, -1000000000000 ≤ x.w ∧ x.w ≤ 1000000000000) :
    Calls Try.prog 26 #[.slice A xs.length c] w fun en w' => GivesP CapI w w' en (sumZ (xs.map zOf)) := by
  have cs := total_cap xs A c w hlen hz hrow hrv hw
  have Hrv := Lib.hid hrv
  have Hlen := Lib.hid hlen
  clear hz hrow hrv hw
  go_enter Try.func26, Try.ntmps26
  go_wp2_with (first
    | (go_at_call 49; ((with_reducible refine cs.mono ?_); rintro en w2 ⟨B, ys, cap, rfl, hz2, hcan, hwt, hsok, hcp, hg2⟩; have E := Lib.hid (setZ_of (l := xs.map zOf) (fun x hx => by obtain ⟨y, hy, rfl⟩ := List.mem_map.1 hx; exact Hrv.out y hy) hcan hwt); have Hz2 := Lib.hid hz2; have Hsok := Lib.hid hsok; have Hcp := Lib.hid hcp; clear hcan hwt hz2 hsok hcp))
    | (go_at_call 48; ((with_reducible refine (fit_p ys B cap _ ?lenB Hz2.out Hsok.out _ Hcp.out).mono ?_); rotate_left; rintro en w3 ⟨C, zs, cap2, rfl, hz3, hm, hk3, hp3, hg3⟩; have Fin := Lib.hid (And.intro hz3 (And.intro hm (And.intro hk3 hp3))); clear hz3 hm hk3 hp3)))
  · refine bodyPost_ret (by simp [results, Try.results26, go_sem] <;> rfl) rfl ?_
    refine ⟨C, zs, cap2, ?_, Fin.out.1, ?_, Fin.out.2.2.1, Fin.out.2.2.2, hg2.trans hg3⟩
    · unfold sumZ; rw [← E.out]
    · unfold sumZ; rw [← E.out]; exact Fin.out.2.1
  case lenB =>
    have h1 := congrArg List.length E.out
    have h2 := setZ_len (xs.map zOf)
    have h3 := Hlen.out
    simp at h1 h2
    omega

theorem sum_big (xs : List I) (A : Option Addr) (c : Nat) (w : World) (hlen : xs.length ≤ 200000) (hz : ZIn w A xs) (hrow : ∀ x ∈ xs, x.row.length ≤ 1000) (hrv : ∀ x ∈ xs, ∀ v ∈ x.row, RV v) (hw : ∀ x ∈ xs, -1000000000000 ≤ x.w ∧ x.w ≤ 1000000000000) :
    Calls Try.prog 26 #[.slice A xs.length c] w fun en w' => Gives w w' en (sumZ (xs.map zOf)) := (sum_p xs A c w hlen hz hrow hrv hw).mono fun _ _ h => h.gives
theorem sum_any (xs : List I) (A : Option Addr) (c : Nat) (w : World) (hlen : xs.length ≤ 5000) (hz : ZIn w A xs) (hrow : ∀ x ∈ xs, x.row.length ≤ 1000) (hrv : ∀ x ∈ xs, ∀ v ∈ x.row, RV v) (hw : ∀ x ∈ xs, -1000000 ≤ x.w ∧ x.w ≤ 1000000) :
    Calls Try.prog 26 #[.slice A xs.length c] w fun en w' => Gives w w' en (sumZ (xs.map zOf)) :=
  sum_big xs A c w (by omega) hz hrow hrv (fun x hx => by have := hw x hx; omega)

theorem zof_any (xs : List I) (A : Option Addr) (c : Nat) (w : World) (hlen : xs.length ≤ 9223372036854775807) (hz : ZIn w A xs) (hl : ∀ x ∈ xs, x.row.length ≤ 9223372036854775807) :
    Calls Try.prog 36 #[.slice A xs.length c] w fun en w' => Gives w w' en (ofZ (xs.map zOf)) := by
  have Hz := Lib.hid hz
  have Hl := Lib.hid hl
  clear hz hl
  go_enter Try.func36, Try.ntmps36
  by_cases h8 : 1600 < xs.length
  · have d8 : decide ((1600 : Int) < (xs.length : Int)) = true := decide_eq_true (by omega)
    go_wp2
    refine bodyPost_ret (by simp [results, Try.results36, go_sem] <;> rfl) rfl ?_
    have e : ofZ (xs.map zOf) = ([], 5) := by unfold ofZ; rw [if_pos (by simpa using h8)]
    exact ⟨none, [], 0, by rw [e]; rfl, zin_nil _ _, by rw [e]; rfl, SlOk.nil, Grow.refl _⟩
  · have d8 : decide ((1600 : Int) < (xs.length : Int)) = false := decide_eq_false (by omega)
    obtain ⟨R, hR⟩ : ∃ R, ofGo (xs.map zOf) = R := ⟨_, rfl⟩
    have e : ofZ (xs.map zOf) = if R ≠ 0 then ([], R) else sumZ (xs.map zOf) := by unfold ofZ; rw [if_neg (by simpa using h8), hR]
    have E := Lib.hid e
    have HR := Lib.hid hR
    clear e hR
    go_wp2
    go_loopw [12] (fun i wr => ∃ k : Nat, k ≤ xs.length ∧ i = .int .i64 k ∧ ofGo ((xs.drop k).map zOf) = R ∧ Grow w wr) (fun i _ => xs.length - (intOf i).toNat)
    case atStart => exact ⟨0, Nat.zero_le _, rfl, HR.out, Grow.refl _⟩
    case round =>
      obtain ⟨k, hk, rfl, hinv, hg⟩ := hrel
      have Inv := Lib.hid hinv
      clear hinv
      by_cases hlt : k < xs.length
      · obtain ⟨x, hxk⟩ : ∃ x, xs[k]? = some x := ⟨_, List.getElem?_eq_getElem hlt⟩
        obtain ⟨gx, ox, rfl, c1, c2, hxv⟩ := (Hz.out.grow hg) k x hxk
        have hlx := Hl.out x (List.mem_of_getElem? hxk)
        have inv2 := (ofGo_at hxk).symm.trans Inv.out
        have Hxv := Lib.hid hxv
        have cb := fun W (h : Grow wr W) (R : Int) (hR : rowE x.row = R) => row_any x.row x.A x.cap W hlx (Hxv.out.grow h) R hR
        obtain ⟨rx, hrx⟩ : ∃ r, rowE x.row = r := ⟨_, rfl⟩
        rw [hrx] at inv2
        have Inv2 := Lib.hid inv2
        clear inv2 hxk hxv
        go_upto_region 6 with fail
        refine wp_forget (fun X => Blk X wr.heap.size 39 #[.slice x.A x.row.length x.cap, .int .i64 x.w] ∧ Grow wr X) ⟨Blk.new _ _ _, (Grow.refl wr).al _⟩ ?_
        rintro X ⟨Bx, G⟩
        obtain ⟨bx, fx⟩ := Bx.rules
        by_cases hw : rx = 0
        · have dw : (rx != 0) = false := by simpa using hw
          rw [if_neg (by simpa using hw)] at Inv2
          go_upto_region 9 with (go_at_call 62; ((with_reducible refine (cb _ G rx hrx).mono ?_); rintro e w2 ⟨rfl, hg2⟩; have Bx2 := Lib.hid (Bx.grow hg2)))
          obtain ⟨bx2, fx2⟩ := Bx2.out.rules
          have G2 := G.trans hg2
          by_cases h1 : bigW x.w = true
          · go_wp2_with (go_at_call 63; ((with_reducible refine (weight_any _ _).mono ?_); rintro e w3 ⟨rfl, rfl⟩; rw [h1]))
            refine bodyPost_ret (by simp [results, Try.results36, go_sem] <;> rfl) rfl ?_
            have r3 : R = 3 := by have := Inv2.out; rw [if_pos h1] at this; exact this.symm
            have e : ofZ (xs.map zOf) = ([], 3) := by rw [E.out, r3]; rfl
            exact ⟨none, [], 0, by rw [e]; rfl, zin_nil _ _, by rw [e]; rfl, SlOk.nil, hg.trans G2⟩
          · have h1' : bigW x.w = false := by simpa using h1
            go_wp2_with (go_at_call 63; ((with_reducible refine (weight_any _ _).mono ?_); rintro e w3 ⟨rfl, rfl⟩; rw [h1']))
            go_roundw
            case rel => exact ⟨k + 1, by omega, by go_num, by have := Inv2.out; rw [if_neg h1] at this; exact this, hg.trans G2⟩
            case measure => simp [intOf]; omega
        · have dw : (rx != 0) = true := by simpa using hw
          go_wp2_with (go_at_call 62; ((with_reducible refine (cb _ G rx hrx).mono ?_); rintro e w2 ⟨rfl, hg2⟩))
          refine bodyPost_ret (by simp [results, Try.results36, go_sem] <;> rfl) rfl ?_
          have r3 : R = rx := by have := Inv2.out; rw [if_pos hw] at this; exact this.symm
          have e : ofZ (xs.map zOf) = ([], rx) := by rw [E.out, r3, if_pos hw]
          exact ⟨none, [], 0, by rw [e]; rfl, zin_nil _ _, by rw [e]; rfl, SlOk.nil, hg.trans (G.trans hg2)⟩
      · obtain rfl : k = xs.length := by omega
        have fin : R = 0 := by have := Inv.out; rw [List.drop_length] at this; exact this.symm
        have hok := (ofGo_zero _).1 (HR.out.trans fin)
        have cs := sum_any xs A c wr (by omega) (Hz.out.grow hg) (fun x hx => by have := (hok (zOf x) (List.mem_map_of_mem hx)).1.1; simp [zOf] at this; omega) (fun x hx => (hok (zOf x) (List.mem_map_of_mem hx)).1.2) (fun x hx => (hok (zOf x) (List.mem_map_of_mem hx)).2)
        have e : ofZ (xs.map zOf) = sumZ (xs.map zOf) := by rw [E.out, fin]; rfl
        have E2 := Lib.hid e
        clear hok e
        go_wp2_with (go_at_call 26; ((with_reducible refine cs.mono ?_); rintro en w3 ⟨C, zs, cap2, rfl, hz3, hm, hk3, hg3⟩; have Fin := Lib.hid (And.intro hz3 (And.intro hm hk3)); clear hz3 hm hk3))
        refine bodyPost_ret (by simp [results, Try.results36, go_sem] <;> rfl) rfl ?_
        exact ⟨C, zs, cap2, by rw [E2.out], Fin.out.1, by rw [E2.out]; exact Fin.out.2.1, Fin.out.2.2, hg.trans hg3⟩
theorem run_neqV (k n : Int) (s : ByteArray) (k' n' : Int) (s' : ByteArray) (w : World) :
    (binOp .neq 30 (.agg #[.int .i64 k, .int .i64 n, .string s]) (.agg #[.int .i64 k', .int .i64 n', .string s'])).run Try.prog w = .ok (.bool (!eqB ⟨k, n, s⟩ ⟨k', n', s'⟩)) w := by
  have h := run_eqlV k n s k' n' s' w
  have e1 : binOp .eql 30 (.agg #[.int .i64 k, .int .i64 n, .string s]) (.agg #[.int .i64 k', .int .i64 n', .string s']) = (do return .bool (← Op.equal 30 (.agg #[.int .i64 k, .int .i64 n, .string s]) (.agg #[.int .i64 k', .int .i64 n', .string s']))) := rfl
  have e2 : binOp .neq 30 (.agg #[.int .i64 k, .int .i64 n, .string s]) (.agg #[.int .i64 k', .int .i64 n', .string s']) = (do return .bool (!(← Op.equal 30 (.agg #[.int .i64 k, .int .i64 n, .string s]) (.agg #[.int .i64 k', .int .i64 n', .string s'])))) := rfl
  rw [e1, Sem.run_bind] at h
  rw [e2, Sem.run_bind]
  revert h
  generalize (Op.equal 30 (.agg #[.int .i64 k, .int .i64 n, .string s]) (.agg #[.int .i64 k', .int .i64 n', .string s'])).run Try.prog w = r
  intro h
  cases r with
  | ok b w2 =>
    simp only [Result.andThen_ok, Sem.run_pure, Result.ok.injEq, Value.bool.injEq] at h ⊢
    exact ⟨by rw [h.1], h.2⟩
  | _ => simp [Result.andThen] at h

def sameG : List Z → List Z → Bool
  | [], [] => true
  | x :: l, y :: m => decide (x.2 = y.2) && (decide (x.1 = y.1) && sameG l m)
  | _, _ => false
theorem sameG_iff : ∀ a b : List Z, sameG a b = true ↔ a = b
  | [], [] => by simp [sameG]
  | [], y :: m => by simp [sameG]
  | x :: l, [] => by simp [sameG]
  | x :: l, y :: m => by
    have ih := sameG_iff l m
    unfold sameG
    simp only [Bool.and_eq_true, decide_eq_true_eq, ih, List.cons.injEq]
    exact ⟨fun ⟨a, b, c⟩ => ⟨Prod.ext b a, c⟩, fun ⟨a, c⟩ => ⟨by rw [a], by rw [a], c⟩⟩
def sameV : List V → List V → Bool
  | [], [] => true
  | x :: l, y :: m => eqB x y && sameV l m
  | _, _ => false
theorem sameV_iff : ∀ a b : List V, sameV a b = true ↔ a = b
  | [], [] => by simp [sameV]
  | [], y :: m => by simp [sameV]
  | x :: l, [] => by simp [sameV]
  | x :: l, y :: m => by
    have ih := sameV_iff l m
    have h := eqB_iff x y
    unfold sameV
    rw [Bool.and_eq_true, ih, h, List.cons.injEq]
theorem sameV_at {a b : List V} {k : Nat} {x y : V} (hx : a[k]? = some x) (hy : b[k]? = some y) : sameV (a.drop k) (b.drop k) = (eqB x y && sameV (a.drop (k + 1)) (b.drop (k + 1))) := by
  obtain ⟨h1, e1⟩ := List.getElem?_eq_some_iff.1 hx
  obtain ⟨h2, e2⟩ := List.getElem?_eq_some_iff.1 hy
  rw [List.drop_eq_getElem_cons h1, List.drop_eq_getElem_cons h2, e1, e2]; rfl
theorem sameG_at {a b : List I} {k : Nat} {x y : I} (hx : a[k]? = some x) (hy : b[k]? = some y) : sameG ((a.drop k).map zOf) ((b.drop k).map zOf) = (decide (x.w = y.w) && (sameV x.row y.row && sameG ((a.drop (k + 1)).map zOf) ((b.drop (k + 1)).map zOf))) := by
  obtain ⟨h1, e1⟩ := List.getElem?_eq_some_iff.1 hx
  obtain ⟨h2, e2⟩ := List.getElem?_eq_some_iff.1 hy
  rw [List.drop_eq_getElem_cons h1, List.drop_eq_getElem_cons h2, e1, e2]
  have : sameV x.row y.row = decide (x.row = y.row) := by rw [Bool.eq_iff_iff, sameV_iff]; simp
  rw [this]; rfl
theorem sameV_len {a b : List V} (h : a.length ≠ b.length) : sameV a b = false := by
  cases hs : sameV a b with
  | false => rfl
  | true => rw [(sameV_iff a b).1 hs] at h; exact absurd rfl h

theorem same_any (xs ys : List I) (A B : Option Addr) (c d : Nat) (w : World) (hlx : xs.length ≤ 9223372036854775807) (hly : ys.length ≤ 9223372036854775807) (hx : ZIn w A xs) (hy : ZIn w B ys) (lx : ∀ x ∈ xs, x.row.length ≤ 9223372036854775807) (ly : ∀ x ∈ ys, x.row.length ≤ 9223372036854775807) (R : Bool) (hR : sameG (xs.map zOf) (ys.map zOf) = R) :
    Calls Try.prog 13 #[.slice A xs.length c, .slice B ys.length d] w fun en w' => en = .returned (.bool R) ∧ Grow w w' := by
  have hneq := run_neqV
  have HR := Lib.hid hR
  have Hx := Lib.hid hx
  have Hy := Lib.hid hy
  have Lx := Lib.hid lx
  have Ly := Lib.hid ly
  clear hx hy lx ly hR
  go_enter Try.func13, Try.ntmps13
  by_cases hl : xs.length = ys.length
  · have d0 : ((xs.length : Int) != (ys.length : Int)) = false := by simp; omega
    have HL := Lib.hid hl
    clear hl
    go_wp2
    go_loopw [14] (fun i wr => ∃ k : Nat, k ≤ xs.length ∧ i = .int .i64 k ∧ sameG ((xs.drop k).map zOf) ((ys.drop k).map zOf) = R ∧ Grow w wr) (fun i _ => xs.length - (intOf i).toNat)
    case atStart => exact ⟨0, Nat.zero_le _, rfl, by simpa using HR.out, Grow.refl _⟩
    case round =>
      obtain ⟨k, hk, rfl, hinv, hg⟩ := hrel
      have Inv := Lib.hid hinv
      clear hinv
      by_cases hlt : k < xs.length
      · obtain ⟨x, hxk⟩ : ∃ x, xs[k]? = some x := ⟨_, List.getElem?_eq_getElem hlt⟩
        have hlt2 : k < ys.length := by have := HL.out; omega
        obtain ⟨y, hyk⟩ : ∃ y, ys[k]? = some y := ⟨_, List.getElem?_eq_getElem hlt2⟩
        obtain ⟨gx, ox, rfl, cx1, cx2, hxv⟩ := (Hx.out.grow hg) k x hxk
        obtain ⟨gy, oy, rfl, cy1, cy2, hyv⟩ := (Hy.out.grow hg) k y hyk
        have hlx' := Lx.out x (List.mem_of_getElem? hxk)
        have hly' := Ly.out y (List.mem_of_getElem? hyk)
        have inv2 := (sameG_at hxk hyk).symm.trans Inv.out
        have Inv2 := Lib.hid inv2
        have Cx := Lib.hid (And.intro cx1 cx2)
        have Cy := Lib.hid (And.intro cy1 cy2)
        have Hxv := Lib.hid hxv
        have Hyv := Lib.hid hyv
        have b0 : (0 : Int) ≤ (k : Int) := by omega
        have b1 : (k : Int) < (ys.length : Int) := by omega
        have b2 : (k : Int) < (xs.length : Int) := by omega
        clear inv2 hxk hyk cx1 cx2 cy1 cy2 hxv hyv
        by_cases hw : x.w = y.w
        · have dw : (x.w != y.w) = false := by simpa using hw
          by_cases hr : x.row.length = y.row.length
          · have dr : ((x.row.length : Int) != (y.row.length : Int)) = false := by simp; omega
            have HLR := Lib.hid hr
            have inv3 := Inv2.out
            rw [decide_eq_true hw, Bool.true_and] at inv3
            have Inv3 := Lib.hid inv3
            clear inv3 Inv2 hr hw
            go_wp2
            apply wp_region_calm 26 (by kernel_rfl) (by kernel_rfl)
            case h' =>
              intro Q0 hQ0
              simp only [List.take_succ_cons, List.take_zero]
              repeat ((first | ((first | apply calm_p rfl | apply calm_y rfl rfl rfl); case h1 => (intro w1 hw1 hF K hK; obtain ⟨cx1, cx2⟩ := And.intro (hw1.cell Cx.out.1) (hw1.cell Cx.out.2); obtain ⟨cy1, cy2⟩ := And.intro (hw1.cell Cy.out.1) (hw1.cell Cy.out.2); go_simp; first | exact hK _ (Grow.refl _))) | apply calm_n rfl rfl rfl rfl); intro K hK; go_simp; apply hK; clear hK K)
              refine calm_nil ?_
              intro w1 hw1 hF
              apply hQ0
              clear hQ0
              simp only [List.drop_succ_cons, List.drop_zero]
              clear hF
              have cx1 := hw1.cell Cx.out.1
              have cy1 := hw1.cell Cy.out.1
              have G1 := hg.trans hw1
              rename World => w3
              go_wp2
              go_loopw [49] (fun i wq => ∃ j : Nat, j ≤ x.row.length ∧ i = .int .i64 j ∧ (sameV (x.row.drop j) (y.row.drop j) && sameG ((xs.drop (k + 1)).map zOf) ((ys.drop (k + 1)).map zOf)) = R ∧ Grow w3 wq) (fun i _ => x.row.length - (intOf i).toNat)
              case atStart => exact ⟨0, Nat.zero_le _, rfl, by simpa using Inv3.out, Grow.refl _⟩
              case round =>
                obtain ⟨j, hj, rfl, hjinv, hg4⟩ := hrel
                have Jinv := Lib.hid hjinv
                clear hjinv
                have cx1' := hg4.cell cx1
                have cy1' := hg4.cell cy1
                by_cases hjl : j < x.row.length
                · have hjl2 : j < y.row.length := by have := HLR.out; omega
                  obtain ⟨u, huk⟩ : ∃ u, x.row[j]? = some u := ⟨_, List.getElem?_eq_getElem hjl⟩
                  obtain ⟨v, hvk⟩ : ∃ v, y.row[j]? = some v := ⟨_, List.getElem?_eq_getElem hjl2⟩
                  obtain ⟨gu, ou, eu, hu⟩ := (Hxv.out.grow (hw1.trans hg4)) j u huk
                  obtain ⟨gv, ov, ev, hv⟩ := (Hyv.out.grow (hw1.trans hg4)) j v hvk
                  have j2 := (sameV_at huk hvk)
                  have j3 := Jinv.out
                  rw [j2] at j3
                  have J3 := Lib.hid j3
                  rw [eu] at cx1'
                  rw [ev] at cy1'
                  have Cx1 := Lib.hid cx1'
                  have Cy1 := Lib.hid cy1'
                  have Hu := Lib.hid hu
                  have Hv := Lib.hid hv
                  have q0 : (0 : Int) ≤ (j : Int) := by omega
                  have q1 : (j : Int) < (y.row.length : Int) := by omega
                  have q2 : (j : Int) < (x.row.length : Int) := by omega
                  clear j2 j3 cx1' cy1' hu hv huk hvk Jinv eu ev cx1 cy1
                  go_wp2
                  apply wp_region_calm 17 (by kernel_rfl) (by kernel_rfl)
                  case h' =>
                    intro Q0 hQ0
                    simp only [List.take_succ_cons, List.take_zero]
                    repeat ((first | ((first | apply calm_p rfl | apply calm_y rfl rfl rfl); case h1 => (intro w1 hw1 hF K hK; have cx1 := hw1.cell Cx1.out; have cy1 := hw1.cell Cy1.out; obtain ⟨a1, a2, a3⟩ := Hu.out.grow hw1; obtain ⟨d1, d2, d3⟩ := Hv.out.grow hw1; go_simp; first | exact hK _ (Grow.refl _))) | apply calm_n rfl rfl rfl rfl); intro K hK; go_simp; apply hK; clear hK K)
                    refine calm_nil ?_
                    intro w1 hw1 hF
                    apply hQ0
                    clear hQ0
                    simp only [List.drop_succ_cons, List.drop_zero]
                    clear hF
                    by_cases he : eqB u v = true
                    · simp only [V.eta, he, Bool.not_true]
                      go_wp2
                      go_roundw
                      case rel => exact ⟨j + 1, by omega, by go_num, by have := J3.out; rw [he, Bool.true_and] at this; exact this, hg4.trans hw1⟩
                      case measure => simp [intOf]; omega
                    · have he' : eqB u v = false := by simpa using he
                      simp only [V.eta, he', Bool.not_false]
                      go_wp2
                      go_ret
                      exact ret_bool (by have := J3.out; rw [he', Bool.false_and, Bool.false_and] at this; exact this) (G1.trans (hg4.trans hw1))
                  case hp' => trivial
                · obtain rfl : j = x.row.length := by omega
                  have j3 := Jinv.out
                  rw [List.drop_length, HLR.out, List.drop_length] at j3
                  have J3 := Lib.hid j3
                  clear j3
                  go_wp2
                  go_roundw
                  case rel => exact ⟨k + 1, by omega, by go_num, by have := J3.out; simpa [sameV] using this, G1.trans hg4⟩
                  case measure => simp [intOf]; omega
            case hp' => trivial
          · have dr : ((x.row.length : Int) != (y.row.length : Int)) = true := by simp; omega
            have fin : R = false := by have := Inv2.out; rw [sameV_len hr] at this; simpa using this.symm
            clear hr
            go_wp2
            apply wp_region_calm 26 (by kernel_rfl) (by kernel_rfl)
            case h' =>
              intro Q0 hQ0
              simp only [List.take_succ_cons, List.take_zero]
              repeat ((first | ((first | apply calm_p rfl | apply calm_y rfl rfl rfl); case h1 => (intro w1 hw1 hF K hK; obtain ⟨cx1, cx2⟩ := And.intro (hw1.cell Cx.out.1) (hw1.cell Cx.out.2); obtain ⟨cy1, cy2⟩ := And.intro (hw1.cell Cy.out.1) (hw1.cell Cy.out.2); go_simp; first | exact hK _ (Grow.refl _))) | apply calm_n rfl rfl rfl rfl); intro K hK; go_simp; apply hK; clear hK K)
              refine calm_nil ?_
              intro w1 hw1 hF
              apply hQ0
              clear hQ0
              simp only [List.drop_succ_cons, List.drop_zero]
              clear hF
              go_wp2
              go_ret
              exact ret_bool fin.symm (hg.trans hw1)
            case hp' => trivial
        · have dw : (x.w != y.w) = true := by simpa using hw
          have fin : R = false := by have := Inv2.out; rw [decide_eq_false hw] at this; simpa using this.symm
          go_wp2
          apply wp_region_calm 26 (by kernel_rfl) (by kernel_rfl)
          case h' =>
            intro Q0 hQ0
            simp only [List.take_succ_cons, List.take_zero]
            repeat ((first | ((first | apply calm_p rfl | apply calm_y rfl rfl rfl); case h1 => (intro w1 hw1 hF K hK; obtain ⟨cx1, cx2⟩ := And.intro (hw1.cell Cx.out.1) (hw1.cell Cx.out.2); obtain ⟨cy1, cy2⟩ := And.intro (hw1.cell Cy.out.1) (hw1.cell Cy.out.2); go_simp; first | exact hK _ (Grow.refl _))) | apply calm_n rfl rfl rfl rfl); intro K hK; go_simp; apply hK; clear hK K)
            refine calm_nil ?_
            intro w1 hw1 hF
            apply hQ0
            clear hQ0
            simp only [List.drop_succ_cons, List.drop_zero]
            clear hF
            go_wp2
            go_ret
            exact ret_bool fin.symm (hg.trans hw1)
          case hp' => trivial
      · obtain rfl : k = xs.length := by omega
        have fin : R = true := by have := Inv.out; rw [List.drop_length, HL.out, List.drop_length] at this; exact this.symm
        go_wp2
        go_ret
        exact ret_bool fin.symm hg
  · have d0 : ((xs.length : Int) != (ys.length : Int)) = true := by simp; omega
    have fin : R = false := by
      rw [← HR.out]
      cases hs : sameG (xs.map zOf) (ys.map zOf) with
      | false => rfl
      | true => have := congrArg List.length ((sameG_iff _ _).1 hs); simp at this; exact absurd this hl
    go_wp2
    go_ret
    exact ret_bool fin.symm (Grow.refl _)
def scaleZ (t : Int) (l : List Z) : List Z := l.map (fun x => (x.1, t * x.2))
theorem wt_scale (t : Int) : ∀ (l : List Z) (q : List V), wtZ (scaleZ t l) q = t * wtZ l q
  | [], q => by simp [scaleZ, wtZ_nil]
  | x :: l, q => by
    have ih := wt_scale t l q
    show wtZ ((x.1, t * x.2) :: scaleZ t l) q = _
    rw [wtZ_cons, wtZ_cons, ih, Int.mul_add]
    split <;> simp
def eachL (f : Int → Int) (z : List Z) : List Z := (z.map (fun x => (bareR x.1, f x.2))).filter (fun x => decide (x.2 ≠ 0))
def eachZ (f : Int → Int) (z : List Z) : List Z × Int := if wrongZ z ≠ 0 then ([], wrongZ z) else (eachL f z, 0)
theorem eachL_mem {f : Int → Int} {z : List Z} {y : Z} (h : y ∈ eachL f z) : (∃ x ∈ z, y = (bareR x.1, f x.2)) ∧ y.2 ≠ 0 := by
  obtain ⟨h1, h2⟩ := List.mem_filter.1 h
  obtain ⟨x, hx, rfl⟩ := List.mem_map.1 h1
  exact ⟨⟨x, hx, rfl⟩, by simpa using h2⟩
theorem eachL_canon {f : Int → Int} {z : List Z} (hr : ∀ x ∈ z, ∀ v ∈ x.1, RV v) (hu : z.Pairwise (fun x y => ordR x.1 y.1 < 0)) : Canon (eachL f z) := by
  refine ⟨?_, fun y hy => ?_, fun y hy => ?_, fun y hy => (eachL_mem hy).2⟩
  · unfold eachL
    refine List.Pairwise.filter _ (List.pairwise_map.2 (hu.imp_of_mem fun {x y} hx hy hxy => ?_))
    exact ordR_lt_eq (ordR_eq_lt (ordR_bare' (hr x hx)) hxy) (ordR_bare (hr y hy))
  · obtain ⟨⟨x, hx, rfl⟩, _⟩ := eachL_mem hy
    exact bareR_rv (hr x hx)
  · obtain ⟨⟨x, hx, rfl⟩, _⟩ := eachL_mem hy
    exact bareR_bareR _
theorem wt_keep : ∀ (l : List Z) (q : List V), wtZ (l.filter (fun x => decide (x.2 ≠ 0))) q = wtZ l q
  | [], q => rfl
  | x :: l, q => by
    have ih := wt_keep l q
    rw [List.filter_cons, wtZ_cons]
    split
    · rw [wtZ_cons, ih]
    · rename_i h
      have h : x.2 = 0 := by simpa using h
      rw [ih, h]; simp
theorem wt_bares (f : Int → Int) : ∀ (l : List Z) (q : List V), wtZ (l.map (fun x => (bareR x.1, f x.2))) q = wtZ (l.map (fun x => (x.1, f x.2))) q
  | [], q => rfl
  | x :: l, q => by
    rw [List.map_cons, List.map_cons, wtZ_cons, wtZ_cons, wt_bares f l q]
    simp only [bareR_bareR]
theorem wt_each (f : Int → Int) (l : List Z) (q : List V) : wtZ (eachL f l) q = wtZ (l.map (fun x => (x.1, f x.2))) q := by
  unfold eachL; rw [wt_keep, wt_bares]
theorem each_set {f : Int → Int} {z : List Z} (hr : ∀ x ∈ z, ∀ v ∈ x.1, RV v) (hu : z.Pairwise (fun x y => ordR x.1 y.1 < 0)) : eachL f z = setZ (z.map (fun x => (x.1, f x.2))) :=
  setZ_of (fun y hy => by obtain ⟨x, hx, rfl⟩ := List.mem_map.1 hy; exact hr x hx) (eachL_canon hr hu) (wt_each f z)
theorem wt_none : ∀ {z : List Z} {x : Z} (hx : ∀ v ∈ x.1, RV v) (hz : ∀ y ∈ z, ∀ v ∈ y.1, RV v) (h : ∀ y ∈ z, ordR x.1 y.1 < 0) {q : List V} (hq : bareR x.1 = bareR q), wtZ z q = 0
  | [], x, _, _, _, q, _ => rfl
  | y :: z, x, hx, hz, h, q, hq => by
    rw [wtZ_cons, wt_none hx (fun y hy => hz y (by simp [hy])) (fun y hy => h y (by simp [hy])) hq, if_neg]
    · rfl
    · intro e
      have h1 := h y (by simp)
      have h2 := (ordR_zero x.1 y.1 hx (hz y (by simp))).2 (hq.trans e.symm)
      omega
theorem wt_f {f : Int → Int} (f0 : f 0 = 0) : ∀ {z : List Z} (hz : ∀ y ∈ z, ∀ v ∈ y.1, RV v) (hu : z.Pairwise (fun x y => ordR x.1 y.1 < 0)) (q : List V), wtZ (z.map (fun x => (x.1, f x.2))) q = f (wtZ z q)
  | [], _, _, q => by simp [wtZ_nil, f0]
  | x :: z, hz, hu, q => by
    have ih := wt_f f0 (fun y hy => hz y (by simp [hy])) (List.pairwise_cons.1 hu).2 q
    rw [List.map_cons, wtZ_cons, wtZ_cons, ih]
    split
    · rename_i h
      rw [wt_none (hz x (by simp)) (fun y hy => hz y (by simp [hy])) (List.pairwise_cons.1 hu).1 h, f0]
      simp
    · simp
theorem wt_at : ∀ {z : List Z} (hz : ∀ y ∈ z, ∀ v ∈ y.1, RV v) (hu : z.Pairwise (fun x y => ordR x.1 y.1 < 0)) (q : List V), wtZ z q = 0 ∨ ∃ x ∈ z, wtZ z q = x.2
  | [], _, _, q => .inl rfl
  | x :: z, hz, hu, q => by
    have ih := wt_at (fun y hy => hz y (by simp [hy])) (List.pairwise_cons.1 hu).2 q
    rw [wtZ_cons]
    split
    · rename_i h
      rw [wt_none (hz x (by simp)) (fun y hy => hz y (by simp [hy])) (List.pairwise_cons.1 hu).1 h]
      exact .inr ⟨x, by simp, by simp⟩
    · rw [Int.zero_add]
      rcases ih with h | ⟨y, hy, h⟩
      · exact .inl h
      · exact .inr ⟨y, by simp [hy], h⟩
theorem wt_bd {M : Int} (hM : 0 ≤ M) {z : List Z} (hz : ∀ y ∈ z, ∀ v ∈ y.1, RV v) (hu : z.Pairwise (fun x y => ordR x.1 y.1 < 0)) (hb : bdZ M z) (q : List V) : -M ≤ wtZ z q ∧ wtZ z q ≤ M := by
  rcases wt_at hz hu q with h | ⟨x, hx, h⟩
  · omega
  · rw [h]; exact hb x hx
theorem canon_mem : ∀ {z : List Z}, Canon z → ∀ y ∈ z, wtZ z y.1 = y.2
  | x :: z, h, y, hy => by
    rcases List.mem_cons.1 hy with rfl | hy
    · exact canon_wt h
    · rw [wtZ_cons, canon_mem h.tail y hy, if_neg]
      · simp
      · intro e
        have h1 := (List.pairwise_cons.1 h.up).1 y hy
        have h2 := (ordR_zero x.1 y.1 (h.rv x (by simp)) (h.rv y (by simp [hy]))).2 e
        omega
theorem addZ_mem : ∀ (l z : List Z), ∀ y ∈ addZ z l, (∃ x ∈ z, y.1 = x.1) ∨ ∃ x ∈ l, y.1 = bareR x.1
  | [], z, y, hy => .inl ⟨y, hy, rfl⟩
  | x :: l, z, y, hy => by
    rw [addZ_cons] at hy
    rcases addZ_mem l _ y hy with ⟨u, hu, e⟩ | ⟨u, hu, e⟩
    · rcases putZ_mem _ _ _ u hu with h | ⟨h, _⟩
      · exact .inl ⟨u, h, e⟩
      · exact .inr ⟨x, by simp, by rw [e, h]⟩
    · exact .inr ⟨u, by simp [hu], e⟩
theorem setZ_mem {l : List Z} {y : Z} (h : y ∈ setZ l) : ∃ x ∈ l, y.1 = bareR x.1 := by
  rcases addZ_mem l [] y h with ⟨u, hu, _⟩ | h
  · simp at hu
  · exact h
theorem setZ_ext {a b : List Z} (ha : ∀ x ∈ a, ∀ v ∈ x.1, RV v) (hb : ∀ x ∈ b, ∀ v ∈ x.1, RV v) (h : ∀ q, wtZ a q = wtZ b q) : setZ a = setZ b :=
  setZ_of hb (setZ_spec a ha).1 (fun q => by rw [(setZ_spec a ha).2, h])
theorem bigW_iff (n : Int) : bigW n = true ↔ ¬ (-1000000 ≤ n ∧ n ≤ 1000000) := by simp [bigW]; omega
theorem fitZ_cases (z : List Z) : (fitZ z = (z, 0) ∧ z.length ≤ 400 ∧ bdZ 1000000 z) ∨ (∃ e, e ≠ 0 ∧ fitZ z = ([], e)) := by
  unfold fitZ
  split
  · exact .inr ⟨3, by omega, rfl⟩
  · rename_i h
    split
    · exact .inr ⟨5, by omega, rfl⟩
    · refine .inl ⟨rfl, by omega, fun x hx => ?_⟩
      have h2 : ¬ bigW x.2 = true := fun e => h (List.any_eq_true.2 ⟨x, hx, e⟩)
      rw [bigW_iff] at h2
      omega
theorem fitZ_ok {z : List Z} (h1 : z.length ≤ 400) (h2 : bdZ 1000000 z) : fitZ z = (z, 0) := by
  unfold fitZ
  rw [if_neg, if_neg (by omega)]
  intro e
  obtain ⟨x, hx, hb⟩ := List.any_eq_true.1 e
  have := h2 x hx
  rw [bigW_iff] at hb
  omega
def okR (z : List Z) : Prop := ∀ x ∈ z, x.1.length ≤ 8 ∧ ∀ v ∈ x.1, RV v
theorem okR_set {l : List Z} (h : okR l) : okR (setZ l) := fun y hy => by
  obtain ⟨x, hx, e⟩ := setZ_mem hy
  rw [e]
  exact ⟨by simpa [bareR] using (h x hx).1, bareR_rv (h x hx).2⟩
theorem okR_each {a : List Z} (ha : okR a) (f : Int → Int) : okR (eachL f a) := fun x hx => by
  obtain ⟨⟨y, hy, rfl⟩, _⟩ := eachL_mem hx
  exact ⟨by simpa [bareR] using (ha y hy).1, bareR_rv (ha y hy).2⟩
structure SM (M : Int) (N : Nat) (z : List Z) : Prop where
  ok : okR z
  up : z.Pairwise (fun x y => ordR x.1 y.1 < 0)
  ne : ∀ x ∈ z, x.2 ≠ 0
  bd : bdZ M z
  len : z.length ≤ N
theorem SM.rv {M : Int} {N : Nat} {z : List Z} (h : SM M N z) : ∀ x ∈ z, ∀ v ∈ x.1, RV v := fun x hx => (h.ok x hx).2
theorem SM.rz {M : Int} {N : Nat} {z : List Z} (h : SM M N z) (hM : M ≤ 1000000) (hN : N ≤ 400) : wrongZ z = 0 := (wrongZ_zero z).2 ⟨by have := h.len; omega, h.ok, fun x hx => ⟨h.ne x hx, by have := h.bd x hx; omega, by have := h.bd x hx; omega⟩, h.up⟩
theorem SM.of {z : List Z} (h : wrongZ z = 0) : SM 1000000 400 z := by
  have h := (wrongZ_zero z).1 h
  exact ⟨h.row, h.up, fun x hx => (h.w x hx).1, fun x hx => (h.w x hx).2, h.len⟩
theorem SM.canon {M : Int} {N : Nat} {z : List Z} (h : Canon z) (ok : okR z) (bd : bdZ M z) (len : z.length ≤ N) : SM M N z := ⟨ok, h.up, h.w, bd, len⟩
theorem sum_sm {l : List Z} {M : Int} {N : Nat} (hl : okR l) (hb : ∀ q, -M ≤ wtZ l q ∧ wtZ l q ≤ M) (hn : l.length ≤ N) (hM : M ≤ 1000000) (hN : N ≤ 400) : sumZ l = (setZ l, 0) ∧ Canon (setZ l) ∧ SM M N (setZ l) ∧ ∀ q, wtZ (setZ l) q = wtZ l q := by
  have h := setZ_spec l (fun x hx => (hl x hx).2)
  have hb2 : bdZ M (setZ l) := fun y hy => by
    have := canon_mem h.1 y hy
    rw [h.2] at this
    have := hb y.1
    omega
  have hlen := setZ_len l
  exact ⟨fitZ_ok (by omega) (fun y hy => by have := hb2 y hy; omega), h.1, SM.canon h.1 (okR_set hl) hb2 (by omega), h.2⟩
theorem each_sm {a : List Z} {M : Int} {N : Nat} (ha : SM M N a) {f : Int → Int} (f0 : f 0 = 0) (fb : ∀ n, -M ≤ n → n ≤ M → -M ≤ f n ∧ f n ≤ M) (hM : M ≤ 1000000) (hN : N ≤ 400) :
    ∃ s, eachZ f a = (s, 0) ∧ Canon s ∧ SM M N s ∧ ∀ q, wtZ s q = f (wtZ a q) := by
  have hc := eachL_canon (f := f) ha.rv ha.up
  refine ⟨eachL f a, ?_, hc, SM.canon hc (okR_each ha.ok f) (fun y hy => ?_) ?_, fun q => ?_⟩
  · unfold eachZ; rw [if_neg (by rw [ha.rz hM hN]; simp)]
  · obtain ⟨⟨x, hx, rfl⟩, _⟩ := eachL_mem hy
    have := ha.bd x hx
    exact fb _ this.1 this.2
  · have h1 : (eachL f a).length ≤ (a.map (fun x => (bareR x.1, f x.2))).length := List.length_filter_le _ _
    have := ha.len
    simp at h1
    omega
  · rw [wt_each, wt_f f0 ha.rv ha.up]
theorem ofZ_of {l : List Z} (h1 : l.length ≤ 1600) (h2 : ∀ x ∈ l, (x.1.length ≤ 8 ∧ ∀ v ∈ x.1, RV v) ∧ -1000000 ≤ x.2 ∧ x.2 ≤ 1000000) (h3 : (setZ l).length ≤ 400) (h4 : bdZ 1000000 (setZ l)) : ofZ l = (setZ l, 0) := by
  unfold ofZ
  rw [if_neg (by omega), if_neg (by rw [(ofGo_zero l).2 h2]; simp)]
  exact fitZ_ok h3 h4
def bks (at' : Int) (i : Nat) (x : I) : List I := if (i : Int) = at' ∧ 1 < x.w then [⟨x.A, x.row, x.cap, x.w - 1⟩, ⟨x.A, x.row, x.cap, 1⟩] else [x]
def bk (at' : Int) : Nat → List I → List I
  | _, [] => []
  | i, x :: l => bk at' (i + 1) l ++ bks at' i x
def posF (n : Int) : Int := if n < 0 then 0 else n
theorem pos_sm {a : List Z} {M : Int} {N : Nat} (ha : SM M N a) (h0 : 0 ≤ M) (hM : M ≤ 1000000) (hN : N ≤ 400) : ∃ s, eachZ posF a = (s, 0) ∧ Canon s ∧ SM M N s ∧ ∀ q, wtZ s q = posF (wtZ a q) :=
  each_sm ha rfl (fun n h1 h2 => by unfold posF; split <;> omega) hM hN
end Go.Proofs.Ytamfpppbjaelaaa
