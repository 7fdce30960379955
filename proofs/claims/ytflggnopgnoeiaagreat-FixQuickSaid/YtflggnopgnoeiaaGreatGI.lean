/- Parts of a proof. No condition. -/
import Derived.Test.YtflggnopgnoeiaaGreatGH
set_option maxRecDepth 100000
set_option maxHeartbeats 8000000
set_option maxRecDepth 100000
set_option linter.unusedSimpArgs false
set_option linter.unusedVariables false
namespace Go
variable {p : Prop}
theorem on_ (h : p := by have := Inv2.out; rw [if_pos (.inl h0)] at this; exact this) : p := h
theorem oo_ (h : p := by have := Inv2.out; rw [if_pos (.inr h1)] at this; exact this) : p := h
theorem op_ (h : p := by rw [<- HR.out]; unfold zC; rw [if_pos (by simpa using h8)]) : p := h
theorem oy_ (h : p := by have := Inv4.out; rw [if_pos dc] at this; exact this) : p := h
theorem oV_ (h : p := by simp [results, Tryz.results74, go_sem] <;> rfl) : p := h
theorem up_ (h : p := by rw [Hb.out]; simp) : p := h
theorem uG_ (h : p := by simpa using h8) : p := h
theorem wd_ (h : p := by
 obtain rfl : k = xs.length := by omega
 have fin : R = 0 := by have := xt.out; rw [List.drop_length] at this; exact this.symm
 go_wp2; go_ret; exact zk fin.symm hg) : p := h
theorem wf_ (h : p := by
 intro Q0 hQ0; simp only [List.take_succ_cons, List.take_zero]
 repeat ((first | ((first | apply calm_p rfl | apply zu rfl rfl rfl); case h1 => (intro w1 hw1 hF K hK; obtain ⟨cx1, cx2⟩ := And.intro (hw1.cell Cx.out.1) (hw1.cell Cx.out.2); obtain ⟨cy1, cy2⟩ := And.intro (hw1.cell Cy.out.1) (hw1.cell Cy.out.2); go_simp; first | exact hK _ (za.refl _))) | apply zw rfl rfl rfl rfl); intro K hK; go_simp; apply hK; clear hK K)
 refine calm_nil ?_; intro w1 hw1 hF; apply hQ0; clear hQ0; simp only [List.drop_succ_cons, List.drop_zero]; clear hF; go_wp2; go_ret; exact xn fin.symm (hg.trans hw1)) : p := h
theorem w8_ (h : p := by
 exact ⟨0, Nat.zero_le _, rfl, rfl, za.refl _⟩) : p := h
theorem xE_ (h : p := by
 have d8 : decide ((400 : Int) < (xs.length : Int)) = true := by simp; omega
 go_wp2; go_ret; exact zk op_ (za.refl _)) : p := h
theorem x6_ (h : p := by
 have d0 : (x.w == 0) = true := by simpa using h0
 go_wp2; go_ret; exact zk on_ (hg.trans G2)) : p := h
theorem yy_ (h : p := by
 exact ⟨0, Nat.zero_le _, rfl, by simpa using HR.out, za.refl _⟩) : p := h
end Go
namespace Go.Proofs.YtflggnopgnoeiaaGreat
open Go.RowKit Go.Calm
theorem KM (xs : List I) (A : Option Addr) (c : Nat) (w : World) (hlen : xs.length <= 9223372036854775807) (hz : xe w A xs) (hl : ∀ x ∈ xs, x.row.length <= 9223372036854775807) (R : Int) (hR : zC (xs.map zh) = R) :
  Calls Tryz.prog 65 #[.slice A xs.length c] w fun en w' => en = .returned (.int .i64 R) /\ za w w' := by
 have HR := hh_ hR; have Hz := hh_ hz; have Hl := hh_ hl; clear hz hR hl; go_enter Tryz.func65, Tryz.ntmps65
 by_cases h8 : 400 < xs.length
 ·exact xE_
 ·have d8 : decide ((400 : Int) < (xs.length : Int)) = false := by simp; omega
  have inv0 : BJ (qz xs 0) ((xs.drop 0).map zh) = R := by rw [<- HR.out]; unfold zC; rw [if_neg uG_, List.drop_zero]; rfl
  have Inv0 := hh_ inv0; clear inv0; go_wp2
  go_loopw [11] (fun i wr => ∃ k : Nat, k <= xs.length /\ i = .int .i64 k /\ BJ (qz xs k) ((xs.drop k).map zh) = R /\ za w wr) (fun i _ => xs.length - (intOf i).toNat)
  case atStart => exact w0_
  case round =>
   obtain ⟨k, hk, rfl, hinv, hg⟩ := hrel; have xt := hh_ hinv; clear hinv
   by_cases hlt : k < xs.length
   ·obtain ⟨x, hxk⟩ : ∃ x, xs[k]? = some x := ⟨_, qQ_ hlt⟩
    obtain ⟨gx, ox, rfl, c1, c2, hxv⟩ := (Hz.out.grow hg) k x hxk; have hlx := Hl.out x (qZ_ hxk); have inv2 := (FM hxk).symm.trans xt.out; have Inv2 := hh_ inv2; have Hxk := hh_ hxk; have Hxv := hh_ hxv; have cb := fun W (h : za wr W) (R : Int) (hR : jH x.row = R) => zai x.row x.A x.cap W hlx (Hxv.out.grow h) R hR
    obtain ⟨rx, hrx⟩ : ∃ r, jH x.row = r := ⟨_, rfl⟩
    rw [hrx] at inv2; have Inv2 := hh_ inv2; clear inv2 hxk hxv; go_upto_region 6 with fail
    refine zc (fun X => zb X wr.heap.size 53 #[.slice x.A x.row.length x.cap, .int .i64 x.w] /\ za wr X) ⟨zb.new _ _ _, (za.refl wr).al _⟩ ?_; rintro X ⟨Bx, G⟩; obtain ⟨bx, fx⟩ := Bx.rules
    by_cases hw : rx = 0
    ·have dw : (rx != 0) = false := by simpa using hw
     rw [if_neg uC_] at Inv2; go_upto_region 9 with (go_at_call 111; ((with_reducible refine (cb _ G rx hrx).mono ?_); rintro e w2 ⟨rfl, hg2⟩; have Bx2 := hh_ (Bx.grow hg2))); obtain ⟨bx2, fx2⟩ := Bx2.out.rules; have G2 := G.trans hg2
     by_cases h0 : x.w = 0
     ·exact x6_
     ·have d0 : (x.w == 0) = false := by simpa using h0
      by_cases h1 : xx x.w = true
      ·go_wp2_with (go_at_call 112; ((with_reducible refine (ZP _ _).mono ?_); rintro e w3 ⟨rfl, rfl⟩; rw [h1]))
       go_ret; exact zk oo_ (hg.trans G2)
      ·have h1' : xx x.w = false := by simpa using h1
       have inv3 := Inv2.out; rw [if_neg (by simp [h0, h1'])] at inv3; have Inv3 := hh_ inv3; clear inv3 Inv2; go_upto_region 11 with (go_at_call 112; ((with_reducible refine (ZP _ _).mono ?_); rintro e w3 ⟨rfl, rfl⟩; rw [h1'])); cases k with
       | zero =>
        have e : R = BJ (qz xs 1) ((xs.drop 1).map zh) := by have := Inv3.out; simpa [qz, K3] using this.symm
        have E := hh_ e; clear e; apply wp_region_calm 15 uQ_ uQ_
        case h' =>
         intro Q0 hQ0; simp only [List.take_succ_cons, List.take_zero]
         repeat ((first | ((first | apply calm_p rfl | apply zu rfl rfl rfl); case h1 => (intro w1 hw1 hF K hK; obtain ⟨bx, fx⟩ := (zb.grow Bx2.out hw1).rules; go_simp; first | exact hK _ (za.refl _))) | apply zw rfl rfl rfl rfl); intro K hK; go_simp; apply hK; clear hK K)
         refine calm_nil ?_; intro w1 hw1 hF; apply hQ0; clear hQ0; simp only [List.drop_succ_cons, List.drop_zero]; clear hF; go_wp2; go_roundw
         case rel => exact ⟨1, by omega, rfl, E.out.symm, hg.trans (G2.trans hw1)⟩
         case measure => exact u1_
        case hp' => trivial
       | succ j =>
        obtain ⟨y, hyk⟩ : ∃ y, xs[j]? = some y := ⟨_, qQ_ uX_⟩
        obtain ⟨gy, oy, ey, cy1, cy2, hyv⟩ := (Hz.out.grow hg) j y hyk; cases ey; have hly := Hl.out y (qZ_ hyk); obtain ⟨cr, hcr⟩ : ∃ r, zv x4 y.row x.row = r := ⟨_, rfl⟩
        have cc := fun W (h : za wr W) => qY y.row x.row y.A x.A y.cap x.cap W hly hlx (hyv.grow h) (Hxv.out.grow h)
        rw [hcr] at cc; have inv4 := Inv3.out; rw [show K3 (qz xs (j + 1)) x.row = decide (0 <= cr) by unfold qz; rw [if_neg uX_, Nat.add_sub_cancel, hyk, <- hcr]; first | done | rfl] at inv4; have Inv4 := hh_ inv4; have Hy := hh_ (show wr.cell? ⟨gx, ox + j * 2, none⟩ = some (.slice y.A y.row.length y.cap) from cy1); have p0 : (0 : Int) < (j : Int) + 1 := by omega
        have dj : decide ((0 : Int) < (j : Int) + 1) = true := decide_eq_true uX_; have hwp : IntKind.i64.wrap (j : Int) = (j : Int) := by rw [IntKind.wrap_i64]; omega
        have jz1 : (j : Int) < (xs.length : Int) := by omega
        have jz3 : j < xs.length := by omega
        clear inv4 Inv3 hyk cy1 cy2 hyv hcr c1 c2; apply wp_region_calm 15 uQ_ uQ_
        case h' =>
         intro Q0 hQ0; simp only [List.take_succ_cons, List.take_zero]
         repeat ((first | ((first | apply calm_p rfl | apply zu rfl rfl rfl); case h1 => (intro w1 hw1 hF K hK; obtain ⟨bx, fx⟩ := (zb.grow Bx2.out hw1).rules; have cy1 := (G2.trans hw1).cell Hy.out; go_simp; first | exact hK _ (za.refl _) | (go_at_call 27; ((with_reducible refine (cc _ (G2.trans hw1)).mono ?_); rintro e w' ⟨rfl, hg⟩; exact ⟨_, rfl, hK _ hg⟩)))) | apply zw rfl rfl rfl rfl); intro K hK; go_simp; apply hK; clear hK K)
         refine calm_nil ?_; intro w1 hw1 hF; apply hQ0; clear hQ0; simp only [List.drop_succ_cons, List.drop_zero]; clear hF
         by_cases hc : 0 <= cr
         ·have dc : decide (0 <= cr) = true := by simpa using hc
          simp only [dc]; go_wp2; go_ret; exact zk oy_ (hg.trans (G2.trans hw1))
         ·have dc : decide (0 <= cr) = false := by simpa using hc
          simp only [dc]; go_wp2; go_roundw
          case rel => exact ⟨j + 2, by omega, by go_num, by have := Inv4.out; rw [if_neg (by simp [dc])] at this; exact this, hg.trans (G2.trans hw1)⟩
          case measure => exact u1_
        case hp' => trivial
    ·have dw : (rx != 0) = true := by simpa using hw
     go_wp2_with (go_at_call 111; ((with_reducible refine (cb _ G rx hrx).mono ?_); rintro e w2 ⟨rfl, hg2⟩))
     go_ret; exact zk ox_ (hg.trans (G.trans hg2))
   ·exact wd_
abbrev zb2 : Value := .func (.func 131) #[] #[]
theorem za3 (x : I) (w : World) : Calls Tryz.prog 131 #[x.val] w fun e w' => e = .returned (.bool (xx x.w)) /\ za w w' := by
 unfold I.val; go_enter Tryz.func131, Tryz.ntmps131
 go_wp2_with (go_at_call 112; ((with_reducible refine (ZP _ _).mono ?_); rintro e w3 ⟨rfl, rfl⟩))
 go_ret; exact xn uY_ ze
theorem Vg (xs : List I) (A : Option Addr) (c : Nat) (w : World) (hlen : xs.length <= 9223372036854775807) (hz : xe w A xs) :
  Calls Tryz.prog 106 #[.slice A xs.length c, zb2] w fun en w' => (∃ i : Int, en = .returned (.int .i64 i) /\ decide (0 <= i) = (xs.map zh).any (fun x => xx x.2)) /\ za w w' := by
 have Hz := hh_ hz; clear hz; go_enter Tryz.func106, Tryz.ntmps106; go_wp2
 go_loopw [8] (fun i wr => ∃ k : Nat, k <= xs.length /\ i = .int .i64 k /\ ((xs.drop k).map zh).any (fun x => xx x.2) = (xs.map zh).any (fun x => xx x.2) /\ za w wr) (fun i _ => xs.length - (intOf i).toNat)
 case atStart => exact w8_
 case round =>
  obtain ⟨k, hk, rfl, hinv, hg⟩ := hrel; have xt := hh_ hinv; clear hinv
  by_cases hlt : k < xs.length
  ·obtain ⟨x, hxk⟩ : ∃ x, xs[k]? = some x := ⟨_, qQ_ hlt⟩
   obtain ⟨gx, ox, rfl, c1, c2, hxv⟩ := (Hz.out.grow hg) k x hxk; have inv2 := (Cp hxk).symm.trans xt.out; have Inv2 := hh_ inv2; obtain ⟨b, hb⟩ : ∃ b, xx x.w = b := ⟨_, rfl⟩
   have cc := fun W => za3 x W
   rw [hb] at cc; have Hb := hh_ hb; clear inv2 hxk hxv hb; cases b with
   | true =>
    go_wp2_with (go_at_call 131; ((with_reducible refine (cc _).mono ?_); rintro e w3 ⟨rfl, hg3⟩))
    go_ret; exact ⟨⟨_, rfl, by have := Inv2.out; rw [Hb.out, Bool.true_or] at this; rw [<- this]; simp⟩, hg.trans hg3⟩
   | false =>
    go_wp2_with (go_at_call 131; ((with_reducible refine (cc _).mono ?_); rintro e w3 ⟨rfl, hg3⟩))
    go_roundw
    case rel => exact ⟨k + 1, by omega, by go_num, by have := Inv2.out; rw [Hb.out, Bool.false_or] at this; exact this, hg.trans hg3⟩
    case measure => exact u1_
  ·obtain rfl : k = xs.length := by omega
   go_wp2; go_ret; exact ⟨⟨_, rfl, by have := xt.out; rw [List.drop_length] at this; rw [<- this]; rfl⟩, hg⟩
theorem Na (xs : List I) (A : Option Addr) (c : Nat) (w : World) (hlen : xs.length <= 9223372036854775807) (hz : xe w A xs) :
  Calls Tryz.prog 130 #[.slice A xs.length c, zb2] w fun en w' => en = .returned (.bool ((xs.map zh).any (fun x => xx x.2))) /\ za w w' := by
 have cs := Vg xs A c w hlen hz; have Hz := hh_ hz; clear hz; go_enter Tryz.func130, Tryz.ntmps130
 go_wp2_with (go_at_call 106; ((with_reducible refine cs.mono ?_); rintro en w2 ⟨⟨i, rfl, hi⟩, hg2⟩; have Hi := hh_ hi; clear hi))
 go_ret; exact xn Hi.out hg2
abbrev zcI (x : I) : Prop := x.row.length <= x.cap
def MV (P : I -> Prop) (w w' : World) (e : Ending) (r : List Z × Int) : Prop := ∃ (B : Option Addr) (ys : List I) (cap : Nat), e = .returned (.tuple #[.slice B ys.length cap, .int .i64 r.2]) /\ xe w' B ys /\ ys.map zh = r.1 /\ yf B ys.length cap /\ (∀ y ∈ ys, P y) /\ za w w'
theorem MV.gives {P : I -> Prop} {w w' : World} {e : Ending} {r : List Z × Int} (h : MV P w w' e r) : yr w w' e r := by
 obtain ⟨B, ys, cap, h1, h2, h3, h4, _, h5⟩ := h; exact ⟨B, ys, cap, h1, h2, h3, h4, h5⟩
theorem zb3 (xs : List I) (A : Option Addr) (c : Nat) (w : World) (hlen : xs.length <= 9223372036854775807) (hz : xe w A xs) (hok : yf A xs.length c) (P : I -> Prop) (hP : ∀ x ∈ xs, P x) :
  Calls Tryz.prog 74 #[.slice A xs.length c] w fun en w' => MV P w w' en (Xb (xs.map zh)) := by
 have cs := Na xs A c w hlen hz; have Hz := hh_ hz; obtain ⟨b, hb⟩ : ∃ b, (xs.map zh).any (fun x => xx x.2) = b := ⟨_, rfl⟩
 rw [hb] at cs; have Hb := hh_ hb; clear hz hb; go_enter Tryz.func74, Tryz.ntmps74; cases b with
 | true =>
  go_wp2_with (go_at_call 130; ((with_reducible refine cs.mono ?_); rintro en w2 ⟨rfl, hg2⟩))
  refine qX_ oV_ rfl ?_; exact ⟨none, [], 0, by unfold Xb; rw [if_pos Hb.out]; rfl, zX _ _, by unfold Xb; rw [if_pos Hb.out]; rfl, yf.nil, fun y hy => by simp at hy, hg2⟩
 | false =>
  by_cases h4 : 400 < xs.length
  ·have d4 : decide ((400 : Int) < (xs.length : Int)) = true := decide_eq_true uX_
   go_wp2_with (go_at_call 130; ((with_reducible refine cs.mono ?_); rintro en w2 ⟨rfl, hg2⟩))
   refine qX_ oV_ rfl ?_; exact ⟨none, [], 0, by unfold Xb; rw [if_neg up_, if_pos uz_]; rfl, zX _ _, by unfold Xb; rw [if_neg up_, if_pos uz_]; rfl, yf.nil, fun y hy => by simp at hy, hg2⟩
  ·have d4 : decide ((400 : Int) < (xs.length : Int)) = false := decide_eq_false uX_
   go_wp2_with (go_at_call 130; ((with_reducible refine cs.mono ?_); rintro en w2 ⟨rfl, hg2⟩))
   refine qX_ oV_ rfl ?_; exact ⟨A, xs, c, by unfold Xb; rw [if_neg up_, if_neg uz_], Hz.out.grow hg2, by unfold Xb; rw [if_neg up_, if_neg uz_], hok, hP, hg2⟩
theorem zck (xs : List I) (A : Option Addr) (c : Nat) (w : World) (hlen : xs.length <= 200000) (hz : xe w A xs) (hrow : ∀ x ∈ xs, x.row.length <= 1000) (hrv : ∀ x ∈ xs, ∀ v ∈ x.row, RV v) (hw : ∀ x ∈ xs, -1000000000000 <= x.w /\ x.w <= 1000000000000) :
  Calls Tryz.prog 29 #[.slice A xs.length c] w fun en w' => MV zcI w w' en (yy (xs.map zh)) := by
 have cs := BI xs A c w hlen hz hrow hrv hw; have Hrv := hh_ hrv; have Hlen := hh_ hlen; clear hz hrow hrv hw; go_enter Tryz.func29, Tryz.ntmps29
 go_wp2_with (first
  | (go_at_call 75; ((with_reducible refine cs.mono ?_); rintro en w2 ⟨B, ys, cap, rfl, hz2, hcan, hwt, hsok, hcp, hg2⟩; have E := hh_ (NK (l := xs.map zh) (fun x hx => by obtain ⟨y, hy, rfl⟩ := List.mem_map.1 hx; exact Hrv.out y hy) hcan hwt); have Hz2 := hh_ hz2; have Hsok := hh_ hsok; have Hcp := hh_ hcp; clear hcan hwt hz2 hsok hcp))
  | (go_at_call 74; ((with_reducible refine (zb3 ys B cap _ ?lenB Hz2.out Hsok.out _ Hcp.out).mono ?_); rotate_left; rintro en w3 ⟨C, zs, cap2, rfl, hz3, hm, hk3, hp3, hg3⟩; have Fin := hh_ (And.intro hz3 (And.intro hm (And.intro hk3 hp3))); clear hz3 hm hk3 hp3)))
 ·refine qX_ (by simp [results, Tryz.results29, go_sem] <;> rfl) rfl ?_; refine ⟨C, zs, cap2, ?_, Fin.out.1, ?_, Fin.out.2.2.1, Fin.out.2.2.2, hg2.trans hg3⟩
  ·unfold yy; rw [<- E.out]
  ·unfold yy; rw [<- E.out]; exact Fin.out.2.1
 case lenB =>
  have h1 := congrArg List.length E.out; have h2 := Yw (xs.map zh); have h3 := Hlen.out; simp at h1 h2; omega
theorem NQ (xs : List I) (A : Option Addr) (c : Nat) (w : World) (hlen : xs.length <= 200000) (hz : xe w A xs) (hrow : ∀ x ∈ xs, x.row.length <= 1000) (hrv : ∀ x ∈ xs, ∀ v ∈ x.row, RV v) (hw : ∀ x ∈ xs, -1000000000000 <= x.w /\ x.w <= 1000000000000) :
  Calls Tryz.prog 29 #[.slice A xs.length c] w fun en w' => yr w w' en (yy (xs.map zh)) := (zck xs A c w hlen hz hrow hrv hw).mono fun _ _ h => h.gives
theorem kW (xs : List I) (A : Option Addr) (c : Nat) (w : World) (hlen : xs.length <= 5000) (hz : xe w A xs) (hrow : ∀ x ∈ xs, x.row.length <= 1000) (hrv : ∀ x ∈ xs, ∀ v ∈ x.row, RV v) (hw : ∀ x ∈ xs, -1000000 <= x.w /\ x.w <= 1000000) :
  Calls Tryz.prog 29 #[.slice A xs.length c] w fun en w' => yr w w' en (yy (xs.map zh)) :=
 NQ xs A c w uX_ hz hrow hrv (fun x hx => by have := hw x hx; omega)
theorem EV (k n : Int) (s : ByteArray) (k' n' : Int) (s' : ByteArray) (w : World) :
  (binOp .neq 33 (.agg #[.int .i64 k, .int .i64 n, .string s]) (.agg #[.int .i64 k', .int .i64 n', .string s'])).run Tryz.prog w = .ok (.bool (!FV ⟨k, n, s⟩ ⟨k', n', s'⟩)) w := by
 have h := EU k n s k' n' s' w; have e1 : binOp .eql 33 (.agg #[.int .i64 k, .int .i64 n, .string s]) (.agg #[.int .i64 k', .int .i64 n', .string s']) = (do return .bool (<- Op.equal 33 (.agg #[.int .i64 k, .int .i64 n, .string s]) (.agg #[.int .i64 k', .int .i64 n', .string s']))) := rfl; have e2 : binOp .neq 33 (.agg #[.int .i64 k, .int .i64 n, .string s]) (.agg #[.int .i64 k', .int .i64 n', .string s']) = (do return .bool (!(<- Op.equal 33 (.agg #[.int .i64 k, .int .i64 n, .string s]) (.agg #[.int .i64 k', .int .i64 n', .string s'])))) := rfl; rw [e1, Sem.run_bind] at h; rw [e2, Sem.run_bind]
 revert h
 generalize (Op.equal 33 (.agg #[.int .i64 k, .int .i64 n, .string s]) (.agg #[.int .i64 k', .int .i64 n', .string s'])).run Tryz.prog w = r; intro h; cases r with
 | ok b w2 =>
  simp only [Result.andThen_ok, Sem.run_pure, Result.ok.injEq, Value.bool.injEq] at h ⊢; exact ⟨by rw [h.1], h.2⟩
 | _ => simp [Result.andThen] at h
def XU : List Z -> List Z -> Bool
 | [], [] => true
 | x :: l, y :: m => decide (x.2 = y.2) && (decide (x.1 = y.1) && XU l m)
 | _, _ => false
theorem Q9 : ∀ a b : List Z, XU a b = true ↔ a = b
 | [], [] => by simp [XU]
 | [], y :: m => by simp [XU]
 | x :: l, [] => by simp [XU]
 | x :: l, y :: m => by
  have ih := Q9 l m; unfold XU; simp only [Bool.and_eq_true, decide_eq_true_eq, ih, List.cons.injEq]; exact ⟨fun ⟨a, b, c⟩ => ⟨Prod.ext b a, c⟩, fun ⟨a, c⟩ => ⟨by rw [a], by rw [a], c⟩⟩
def kU : List V -> List V -> Bool
 | [], [] => true
 | x :: l, y :: m => FV x y && kU l m
 | _, _ => false
theorem Wa : ∀ a b : List V, kU a b = true ↔ a = b
 | [], [] => by simp [kU]
 | [], y :: m => by simp [kU]
 | x :: l, [] => by simp [kU]
 | x :: l, y :: m => by
  have ih := Wa l m; have h := TB x y; unfold kU; rw [Bool.and_eq_true, ih, h, List.cons.injEq]
theorem E5 {a b : List V} {k : Nat} {x y : V} (hx : a[k]? = some x) (hy : b[k]? = some y) : kU (a.drop k) (b.drop k) = (FV x y && kU (a.drop (k + 1)) (b.drop (k + 1))) := by
 obtain ⟨h1, e1⟩ := qQ9.1 hx; obtain ⟨h2, e2⟩ := qQ9.1 hy; rw [List.drop_eq_getElem_cons h1, List.drop_eq_getElem_cons h2, e1, e2]; rfl
theorem E0 {a b : List I} {k : Nat} {x y : I} (hx : a[k]? = some x) (hy : b[k]? = some y) : XU ((a.drop k).map zh) ((b.drop k).map zh) = (decide (x.w = y.w) && (kU x.row y.row && XU ((a.drop (k + 1)).map zh) ((b.drop (k + 1)).map zh))) := by
 obtain ⟨h1, e1⟩ := qQ9.1 hx; obtain ⟨h2, e2⟩ := qQ9.1 hy; rw [List.drop_eq_getElem_cons h1, List.drop_eq_getElem_cons h2, e1, e2]; have : kU x.row y.row = decide (x.row = y.row) := by rw [Bool.eq_iff_iff, Wa]; simp
 rw [this]; rfl
theorem Bi {a b : List V} (h : a.length ≠ b.length) : kU a b = false := by
 cases hs : kU a b with
 | false => rfl
 | true => rw [(Wa a b).1 hs] at h; exact absurd rfl h
theorem E6 (xs ys : List I) (A B : Option Addr) (c d : Nat) (w : World) (hlx : xs.length <= 9223372036854775807) (hly : ys.length <= 9223372036854775807) (hx : xe w A xs) (hy : xe w B ys) (lx : ∀ x ∈ xs, x.row.length <= 9223372036854775807) (ly : ∀ x ∈ ys, x.row.length <= 9223372036854775807) (R : Bool) (hR : XU (xs.map zh) (ys.map zh) = R) :
  Calls Tryz.prog 9 #[.slice A xs.length c, .slice B ys.length d] w fun en w' => en = .returned (.bool R) /\ za w w' := by
 have hneq := EV; have HR := hh_ hR; have Hx := hh_ hx; have Hy := hh_ hy; have Lx := hh_ lx; have Ly := hh_ ly; clear hx hy lx ly hR; go_enter Tryz.func9, Tryz.ntmps9
 by_cases hl : xs.length = ys.length
 ·have d0 : ((xs.length : Int) != (ys.length : Int)) = false := by simp; omega
  have HL := hh_ hl; clear hl; go_wp2
  go_loopw [14] (fun i wr => ∃ k : Nat, k <= xs.length /\ i = .int .i64 k /\ XU ((xs.drop k).map zh) ((ys.drop k).map zh) = R /\ za w wr) (fun i _ => xs.length - (intOf i).toNat)
  case atStart => exact yy_
  case round =>
   obtain ⟨k, hk, rfl, hinv, hg⟩ := hrel; have xt := hh_ hinv; clear hinv
   by_cases hlt : k < xs.length
   ·obtain ⟨x, hxk⟩ : ∃ x, xs[k]? = some x := ⟨_, qQ_ hlt⟩
    have hlt2 : k < ys.length := by have := HL.out; omega
    obtain ⟨y, hyk⟩ : ∃ y, ys[k]? = some y := ⟨_, qQ_ hlt2⟩
    obtain ⟨gx, ox, rfl, cx1, cx2, hxv⟩ := (Hx.out.grow hg) k x hxk; obtain ⟨gy, oy, rfl, cy1, cy2, hyv⟩ := (Hy.out.grow hg) k y hyk; have hlx' := Lx.out x (qZ_ hxk); have hly' := Ly.out y (qZ_ hyk); have inv2 := (E0 hxk hyk).symm.trans xt.out; have Inv2 := hh_ inv2; have Cx := hh_ (And.intro cx1 cx2); have Cy := hh_ (And.intro cy1 cy2); have Hxv := hh_ hxv; have Hyv := hh_ hyv; have b0 : (0 : Int) <= (k : Int) := by omega
    have b1 : (k : Int) < (ys.length : Int) := by omega
    have b2 : (k : Int) < (xs.length : Int) := by omega
    clear inv2 hxk hyk cx1 cx2 cy1 cy2 hxv hyv
    by_cases hw : x.w = y.w
    ·have dw : (x.w != y.w) = false := by simpa using hw
     by_cases hr : x.row.length = y.row.length
     ·have dr : ((x.row.length : Int) != (y.row.length : Int)) = false := by simp; omega
      have HLR := hh_ hr; have inv3 := Inv2.out; rw [decide_eq_true hw, Bool.true_and] at inv3; have Inv3 := hh_ inv3; clear inv3 Inv2 hr hw; go_wp2; apply wp_region_calm 26 uQ_ uQ_
      case h' =>
       intro Q0 hQ0; simp only [List.take_succ_cons, List.take_zero]
       repeat ((first | ((first | apply calm_p rfl | apply zu rfl rfl rfl); case h1 => (intro w1 hw1 hF K hK; obtain ⟨cx1, cx2⟩ := And.intro (hw1.cell Cx.out.1) (hw1.cell Cx.out.2); obtain ⟨cy1, cy2⟩ := And.intro (hw1.cell Cy.out.1) (hw1.cell Cy.out.2); go_simp; first | exact hK _ (za.refl _))) | apply zw rfl rfl rfl rfl); intro K hK; go_simp; apply hK; clear hK K)
       refine calm_nil ?_; intro w1 hw1 hF; apply hQ0; clear hQ0; simp only [List.drop_succ_cons, List.drop_zero]; clear hF; have cx1 := hw1.cell Cx.out.1; have cy1 := hw1.cell Cy.out.1; have G1 := hg.trans hw1; rename World => w3
       go_wp2
       go_loopw [49] (fun i wq => ∃ j : Nat, j <= x.row.length /\ i = .int .i64 j /\ (kU (x.row.drop j) (y.row.drop j) && XU ((xs.drop (k + 1)).map zh) ((ys.drop (k + 1)).map zh)) = R /\ za w3 wq) (fun i _ => x.row.length - (intOf i).toNat)
       case atStart => exact ⟨0, Nat.zero_le _, rfl, by simpa using Inv3.out, za.refl _⟩
       case round =>
        obtain ⟨j, hj, rfl, hjinv, hg4⟩ := hrel; have Jinv := hh_ hjinv; clear hjinv; have cx1' := hg4.cell cx1; have cy1' := hg4.cell cy1
        by_cases hjl : j < x.row.length
        ·have hjl2 : j < y.row.length := by have := HLR.out; omega
         obtain ⟨u, huk⟩ : ∃ u, x.row[j]? = some u := ⟨_, qQ_ hjl⟩
         obtain ⟨v, hvk⟩ : ∃ v, y.row[j]? = some v := ⟨_, qQ_ hjl2⟩
         obtain ⟨gu, ou, eu, hu⟩ := (Hxv.out.grow (hw1.trans hg4)) j u huk; obtain ⟨gv, ov, ev, hv⟩ := (Hyv.out.grow (hw1.trans hg4)) j v hvk; have j2 := (E5 huk hvk)
         have j3 := Jinv.out; rw [j2] at j3; have J3 := hh_ j3; rw [eu] at cx1'; rw [ev] at cy1'; have Cx1 := hh_ cx1'; have Cy1 := hh_ cy1'; have Hu := hh_ hu; have Hv := hh_ hv; have q0 : (0 : Int) <= (j : Int) := by omega
         have q1 : (j : Int) < (y.row.length : Int) := by omega
         have q2 : (j : Int) < (x.row.length : Int) := by omega
         clear j2 j3 cx1' cy1' hu hv huk hvk Jinv eu ev cx1 cy1; go_wp2; apply wp_region_calm 17 uQ_ uQ_
         case h' =>
          intro Q0 hQ0; simp only [List.take_succ_cons, List.take_zero]
          repeat ((first | ((first | apply calm_p rfl | apply zu rfl rfl rfl); case h1 => (intro w1 hw1 hF K hK; have cx1 := hw1.cell Cx1.out; have cy1 := hw1.cell Cy1.out; obtain ⟨a1, a2, a3⟩ := Hu.out.grow hw1; obtain ⟨d1, d2, d3⟩ := Hv.out.grow hw1; go_simp; first | exact hK _ (za.refl _))) | apply zw rfl rfl rfl rfl); intro K hK; go_simp; apply hK; clear hK K)
          refine calm_nil ?_; intro w1 hw1 hF; apply hQ0; clear hQ0; simp only [List.drop_succ_cons, List.drop_zero]; clear hF
          by_cases he : FV u v = true
          ·simp only [V.eta, he, Bool.not_true]; go_wp2; go_roundw
           case rel => exact ⟨j + 1, by omega, by go_num, by have := J3.out; rw [he, Bool.true_and] at this; exact this, hg4.trans hw1⟩
           case measure => exact u1_
          ·have he' : FV u v = false := by simpa using he
           simp only [V.eta, he', Bool.not_false]; go_wp2; go_ret; exact xn (by have := J3.out; rw [he', Bool.false_and, Bool.false_and] at this; exact this) (G1.trans (hg4.trans hw1))
         case hp' => trivial
        ·obtain rfl : j = x.row.length := by omega
         have j3 := Jinv.out; rw [List.drop_length, HLR.out, List.drop_length] at j3; have J3 := hh_ j3; clear j3; go_wp2; go_roundw
         case rel => exact ⟨k + 1, by omega, by go_num, by have := J3.out; simpa [kU] using this, G1.trans hg4⟩
         case measure => exact u1_
      case hp' => trivial
     ·have dr : ((x.row.length : Int) != (y.row.length : Int)) = true := by simp; omega
      have fin : R = false := by have := Inv2.out; rw [Bi hr] at this; simpa using this.symm
      clear hr; go_wp2; apply wp_region_calm 26 uQ_ uQ_
      case h' => exact wf_
      case hp' => trivial
    ·have dw : (x.w != y.w) = true := by simpa using hw
     have fin : R = false := by have := Inv2.out; rw [decide_eq_false hw] at this; simpa using this.symm
     go_wp2; apply wp_region_calm 26 uQ_ uQ_
     case h' => exact wf_
     case hp' => trivial
   ·obtain rfl : k = xs.length := by omega
    have fin : R = true := by have := xt.out; rw [List.drop_length, HL.out, List.drop_length] at this; exact this.symm
    go_wp2; go_ret; exact xn fin.symm hg
 ·have d0 : ((xs.length : Int) != (ys.length : Int)) = true := by simp; omega
  have fin : R = false := by
   rw [<- HR.out]; cases hs : XU (xs.map zh) (ys.map zh) with
   | false => rfl
   | true => have := congrArg List.length ((Q9 _ _).1 hs); simp at this; exact absurd this hl
  go_wp2; go_ret; exact xn fin.symm (za.refl _)
def yI (t : Int) (l : List Z) : List Z := l.map (fun x => (x.1, t * x.2))
theorem Xx (t : Int) : ∀ (l : List Z) (q : List V), zW (yI t l) q = t * zW l q
 | [], q => by simp [yI, qM]
 | x :: l, q => by
  have ih := Xx t l q; show zW ((x.1, t * x.2) :: yI t l) q = _; rw [zq, zq, ih, Int.mul_add]; split <;> simp
theorem Bl (l : List Z) : yI 1 l = l := by simp [yI]
def xf (a b : List Z) (t : Int) : List Z × Int := if zC a ≠ 0 then ([], zC a) else if zC b ≠ 0 then ([], zC b) else yy (a ++ yI t b)
def yP (f : Int -> Int) (z : List Z) : List Z := (z.map (fun x => (zd x.1, f x.2))).filter (fun x => decide (x.2 ≠ 0))
def ye (f : Int -> Int) (z : List Z) : List Z × Int := if zC z ≠ 0 then ([], zC z) else (yP f z, 0)
theorem xX {f : Int -> Int} {z : List Z} {y : Z} (h : y ∈ yP f z) : (∃ x ∈ z, y = (zd x.1, f x.2)) /\ y.2 ≠ 0 := by
 obtain ⟨h1, h2⟩ := List.mem_filter.1 h; obtain ⟨x, hx, rfl⟩ := List.mem_map.1 h1; exact ⟨⟨x, hx, rfl⟩, by simpa using h2⟩
theorem Wr {f : Int -> Int} {z : List Z} (hr : ∀ x ∈ z, ∀ v ∈ x.1, RV v) (hu : z.Pairwise (fun x y => zK x.1 y.1 < 0)) : yA (yP f z) := by
 refine ⟨?_, fun y hy => ?_, fun y hy => ?_, fun y hy => (xX hy).2⟩
 ·unfold yP; refine List.Pairwise.filter _ (List.pairwise_map.2 (hu.imp_of_mem fun {x y} hx hy hxy => ?_)); exact XL (J8 (J7 (hr x hx)) hxy) (Y4 (hr y hy))
 ·obtain ⟨⟨x, hx, rfl⟩, _⟩ := xX hy; exact qE (hr x hx)
 ·obtain ⟨⟨x, hx, rfl⟩, _⟩ := xX hy; exact yL _
theorem Uq : ∀ (l : List Z) (q : List V), zW (l.filter (fun x => decide (x.2 ≠ 0))) q = zW l q
 | [], q => rfl
 | x :: l, q => by
  have ih := Uq l q; rw [List.filter_cons, zq]; split
  ·rw [zq, ih]
  ·rename_i h; have h : x.2 = 0 := by simpa using h
   rw [ih, h]; simp
theorem RH (f : Int -> Int) : ∀ (l : List Z) (q : List V), zW (l.map (fun x => (zd x.1, f x.2))) q = zW (l.map (fun x => (x.1, f x.2))) q
 | [], q => rfl
 | x :: l, q => by
  rw [List.map_cons, List.map_cons, zq, zq, RH f l q]; simp only [yL]
theorem Uo (f : Int -> Int) (l : List Z) (q : List V) : zW (yP f l) q = zW (l.map (fun x => (x.1, f x.2))) q := by
 unfold yP; rw [Uq, RH]
theorem Jh : ∀ {z : List Z} {x : Z} (hx : ∀ v ∈ x.1, RV v) (hz : ∀ y ∈ z, ∀ v ∈ y.1, RV v) (h : ∀ y ∈ z, zK x.1 y.1 < 0) {q : List V} (hq : zd x.1 = zd q), zW z q = 0
 | [], x, _, _, _, q, _ => rfl
 | y :: z, x, hx, hz, h, q, hq => by
  rw [zq, Jh hx (fun y hy => hz y uS_) (fun y hy => h y uS_) hq, if_neg]
  ·rfl
  ·intro e; have h1 := h y uY_; have h2 := (yR x.1 y.1 hx (hz y uY_)).2 (hq.trans e.symm); omega
theorem zct {f : Int -> Int} (f0 : f 0 = 0) : ∀ {z : List Z} (hz : ∀ y ∈ z, ∀ v ∈ y.1, RV v) (hu : z.Pairwise (fun x y => zK x.1 y.1 < 0)) (q : List V), zW (z.map (fun x => (x.1, f x.2))) q = f (zW z q)
 | [], _, _, q => by simp [qM, f0]
 | x :: z, hz, hu, q => by
  have ih := zct f0 (fun y hy => hz y uS_) (List.pairwise_cons.1 hu).2 q; rw [List.map_cons, zq, zq, ih]; split
  ·rename_i h; rw [Jh (hz x uY_) (fun y hy => hz y uS_) (List.pairwise_cons.1 hu).1 h, f0]; simp
  ·simp
theorem zaO : ∀ {z : List Z} (hz : ∀ y ∈ z, ∀ v ∈ y.1, RV v) (hu : z.Pairwise (fun x y => zK x.1 y.1 < 0)) (q : List V), zW z q = 0 \/ ∃ x ∈ z, zW z q = x.2
 | [], _, _, q => .inl rfl
 | x :: z, hz, hu, q => by
  have ih := zaO (fun y hy => hz y uS_) (List.pairwise_cons.1 hu).2 q; rw [zq]; split
  ·rename_i h; rw [Jh (hz x uY_) (fun y hy => hz y uS_) (List.pairwise_cons.1 hu).1 h]; exact .inr ⟨x, by simp, by simp⟩
  ·rw [Int.zero_add]; rcases ih with h | ⟨y, hy, h⟩
   ·exact .inl h
   ·exact .inr ⟨y, by simp [hy], h⟩
theorem FN {M : Int} (hM : 0 <= M) {z : List Z} (hz : ∀ y ∈ z, ∀ v ∈ y.1, RV v) (hu : z.Pairwise (fun x y => zK x.1 y.1 < 0)) (hb : Pf M z) (q : List V) : -M <= zW z q /\ zW z q <= M := by
 rcases zaO hz hu q with h | ⟨x, hx, h⟩
 ·omega
 ·rw [h]; exact hb x hx
theorem xj : ∀ {z : List Z}, yA z -> ∀ y ∈ z, zW z y.1 = y.2
 | x :: z, h, y, hy => by
  rcases List.mem_cons.1 hy with rfl | hy
  ·exact kz h
  ·rw [zq, xj h.tail y hy, if_neg]
   ·simp
   ·intro e; have h1 := (List.pairwise_cons.1 h.up).1 y hy; have h2 := (yR x.1 y.1 (h.rv x uY_) (h.rv y uS_)).2 e; omega
theorem Pa : ∀ (l z : List Z), ∀ y ∈ WQ z l, (∃ x ∈ z, y.1 = x.1) \/ ∃ x ∈ l, y.1 = zd x.1
 | [], z, y, hy => .inl ⟨y, hy, rfl⟩
 | x :: l, z, y, hy => by
  rw [YF] at hy; rcases Pa l _ y hy with ⟨u, hu, e⟩ | ⟨u, hu, e⟩
  ·rcases Kg _ _ _ u hu with h | ⟨h, _⟩
   ·exact .inl ⟨u, h, e⟩
   ·exact .inr ⟨x, by simp, by rw [e, h]⟩
  ·exact .inr ⟨u, by simp [hu], e⟩
theorem kF {l : List Z} {y : Z} (h : y ∈ yE l) : ∃ x ∈ l, y.1 = zd x.1 := by
 rcases Pa l [] y h with ⟨u, hu, _⟩ | h
 ·simp at hu
 ·exact h
theorem Rl {a b : List Z} (ha : ∀ x ∈ a, ∀ v ∈ x.1, RV v) (hb : ∀ x ∈ b, ∀ v ∈ x.1, RV v) (h : ∀ q, zW a q = zW b q) : yE a = yE b :=
 NK hb (yW a ha).1 (fun q => by rw [(yW a ha).2, h])
theorem Jn (n : Int) : xx n = true ↔ ¬ (-1000000 <= n /\ n <= 1000000) := by simp [xx]; omega
theorem XC (z : List Z) : (Xb z = (z, 0) /\ z.length <= 400 /\ Pf 1000000 z) \/ (∃ e, e ≠ 0 /\ Xb z = ([], e)) := by
 unfold Xb; split
 ·exact .inr ⟨3, by omega, rfl⟩
 ·rename_i h; split
  ·exact .inr ⟨5, by omega, rfl⟩
  ·refine .inl ⟨rfl, by omega, fun x hx => ?_⟩; have h2 : ¬ xx x.2 = true := fun e => h (List.any_eq_true.2 ⟨x, hx, e⟩)
   rw [Jn] at h2; omega
theorem YR {z : List Z} (h1 : z.length <= 400) (h2 : Pf 1000000 z) : Xb z = (z, 0) := by
 unfold Xb; rw [if_neg, if_neg uX_]; intro e; obtain ⟨x, hx, hb⟩ := List.any_eq_true.1 e; have := h2 x hx; rw [Jn] at hb; omega
def Xk (z : List Z) : Prop := ∀ x ∈ z, x.1.length <= 8 /\ ∀ v ∈ x.1, RV v
theorem Jb {l : List Z} (h : Xk l) : Xk (yE l) := fun y hy => by
 obtain ⟨x, hx, e⟩ := kF hy; rw [e]; exact ⟨by simpa [zd] using (h x hx).1, qE (h x hx).2⟩
theorem qQ {a b : List Z} (ha : Xk a) (hb : Xk b) : Xk (a ++ b) := fun x hx => by
 rcases List.mem_append.1 hx with h | h
 ·exact ha x h
 ·exact hb x h
theorem Y0 {a : List Z} (ha : Xk a) (t : Int) : Xk (yI t a) := fun x hx => by
 obtain ⟨y, hy, rfl⟩ := List.mem_map.1 hx; exact ha y hy
theorem Qp {a : List Z} (ha : Xk a) (f : Int -> Int) : Xk (yP f a) := fun x hx => by
 obtain ⟨⟨y, hy, rfl⟩, _⟩ := xX hx; exact ⟨by simpa [zd] using (ha y hy).1, qE (ha y hy).2⟩
structure SM (M : Int) (N : Nat) (z : List Z) : Prop where
 ok : Xk z
 up : z.Pairwise (fun x y => zK x.1 y.1 < 0)
 ne : ∀ x ∈ z, x.2 ≠ 0
 bd : Pf M z
 len : z.length <= N
theorem SM.rv {M : Int} {N : Nat} {z : List Z} (h : SM M N z) : ∀ x ∈ z, ∀ v ∈ x.1, RV v := fun x hx => (h.ok x hx).2
theorem SM.rz {M : Int} {N : Nat} {z : List Z} (h : SM M N z) (hM : M <= 1000000) (hN : N <= 400) : zC z = 0 := (jK z).2 ⟨by have := h.len; omega, h.ok, fun x hx => ⟨h.ne x hx, by have := h.bd x hx; omega, by have := h.bd x hx; omega⟩, h.up⟩
theorem SM.of {z : List Z} (h : zC z = 0) : SM 1000000 400 z := by
 have h := (jK z).1 h; exact ⟨h.row, h.up, fun x hx => (h.w x hx).1, fun x hx => (h.w x hx).2, h.len⟩
theorem SM.canon {M : Int} {N : Nat} {z : List Z} (h : yA z) (ok : Xk z) (bd : Pf M z) (len : z.length <= N) : SM M N z := ⟨ok, h.up, h.w, bd, len⟩
theorem Fk {l : List Z} {M : Int} {N : Nat} (hl : Xk l) (hb : ∀ q, -M <= zW l q /\ zW l q <= M) (hn : l.length <= N) (hM : M <= 1000000) (hN : N <= 400) : yy l = (yE l, 0) /\ yA (yE l) /\ SM M N (yE l) /\ ∀ q, zW (yE l) q = zW l q := by
 have h := yW l (fun x hx => (hl x hx).2)
 have hb2 : Pf M (yE l) := fun y hy => by
  have := xj h.1 y hy; rw [h.2] at this; have := hb y.1; omega
 have hlen := Yw l; exact ⟨YR uX_ (fun y hy => by have := hb2 y hy; omega), h.1, SM.canon h.1 (Jb hl) hb2 uX_, h.2⟩
theorem Qb {a : List Z} {M : Int} {N : Nat} (ha : SM M N a) {f : Int -> Int} (f0 : f 0 = 0) (fb : ∀ n, -M <= n -> n <= M -> -M <= f n /\ f n <= M) (hM : M <= 1000000) (hN : N <= 400) :
  ∃ s, ye f a = (s, 0) /\ yA s /\ SM M N s /\ ∀ q, zW s q = f (zW a q) := by
 have hc := Wr (f := f) ha.rv ha.up; refine ⟨yP f a, ?_, hc, SM.canon hc (Qp ha.ok f) (fun y hy => ?_) ?_, fun q => ?_⟩
 ·unfold ye; rw [if_neg (by rw [ha.rz hM hN]; simp)]
 ·obtain ⟨⟨x, hx, rfl⟩, _⟩ := xX hy; have := ha.bd x hx; exact fb _ this.1 this.2
 ·have h1 : (yP f a).length <= (a.map (fun x => (zd x.1, f x.2))).length := List.length_filter_le _ _; have := ha.len; simp at h1; omega
 ·rw [Uo, zct f0 ha.rv ha.up]
def bks (at' : Int) (i : Nat) (x : I) : List I := if (i : Int) = at' /\ 1 < x.w then [⟨x.A, x.row, x.cap, x.w - 1⟩, ⟨x.A, x.row, x.cap, 1⟩] else [x]
def bk (at' : Int) : Nat -> List I -> List I
 | _, [] => []
 | i, x :: l => bk at' (i + 1) l ++ bks at' i x
def xy (n : Int) : Int := if n < 0 then 0 else n
def yM (n : Int) : Int := if 0 < n then 1 else 0
theorem QN {a : List Z} {M : Int} {N : Nat} (ha : SM M N a) (h0 : 1 <= M) (hM : M <= 1000000) (hN : N <= 400) : ∃ s, ye yM a = (s, 0) /\ yA s /\ SM M N s /\ ∀ q, zW s q = yM (zW a q) :=
 Qb ha rfl (fun n h1 h2 => by unfold yM; split <;> omega) hM hN
theorem zbj {a : List Z} {M : Int} {N : Nat} (ha : SM M N a) (hM : M <= 1000000) (hN : N <= 400) : ∃ s, ye (fun n => -n) a = (s, 0) /\ yA s /\ SM M N s /\ ∀ q, zW s q = -(zW a q) :=
 Qb ha rfl (fun n h1 h2 => by omega) hM hN
