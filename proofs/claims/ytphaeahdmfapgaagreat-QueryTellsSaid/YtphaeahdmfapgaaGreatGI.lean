/- Parts of a proof. No condition. -/
import Derived.Test.YtphaeahdmfapgaaGreatGH
set_option maxRecDepth 100000
set_option maxHeartbeats 8000000
set_option maxRecDepth 100000
set_option linter.unusedSimpArgs false
set_option linter.unusedVariables false
namespace Go
variable {p : Prop}
theorem om_ (h : p := by have := Inv2.out; rw [if_pos (.inl h0)] at this; exact this) : p := h
theorem on_ (h : p := by have := Inv2.out; rw [if_pos (.inr h1)] at this; exact this) : p := h
theorem oo_ (h : p := by rw [<- HR.out]; unfold zD; rw [if_pos (by simpa using h8)]) : p := h
theorem oB_ (h : p := by have := Inv4.out; rw [if_pos dc] at this; exact this) : p := h
theorem oH_ (h : p := by simp [results, Tryz.results40, go_sem] <;> rfl) : p := h
theorem uA_ (h : p := by rw [Hb.out]; simp) : p := h
theorem uP_ (h : p := by simpa using h8) : p := h
theorem wk_ (h : p := by
 obtain rfl : k = xs.length := by omega
 have fin : R = 0 := by have := xP.out; rw [List.drop_length] at this; exact this.symm
 go_wp2; go_ret; exact zk fin.symm hg) : p := h
theorem wo_ (h : p := by
 intro Q0 hQ0; simp only [List.take_succ_cons, List.take_zero]
 repeat ((first | ((first | apply zu rfl | apply zw rfl rfl rfl); case h1 => (intro w1 hw1 hF K hK; obtain ⟨cx1, cx2⟩ := And.intro (hw1.cell Cx.out.1) (hw1.cell Cx.out.2); obtain ⟨cy1, cy2⟩ := And.intro (hw1.cell Cy.out.1) (hw1.cell Cy.out.2); go_simp; first | exact hK _ (za.refl _))) | apply zz rfl rfl rfl rfl); intro K hK; go_simp; apply hK; clear hK K)
 refine zo ?_; intro w1 hw1 hF; apply hQ0; clear hQ0; simp only [List.drop_succ_cons, List.drop_zero]; clear hF; go_wp2; go_ret; exact yG fin.symm (hg.trans hw1)) : p := h
theorem xP_ (h : p := by
 have d8 : decide ((400 : Int) < (xs.length : Int)) = true := by simp; omega
 go_wp2; go_ret; exact zk oo_ (za.refl _)) : p := h
theorem yd_ (h : p := by
 have d0 : (x.w == 0) = true := by simpa using h0
 go_wp2; go_ret; exact zk om_ (hg.trans G2)) : p := h
theorem yE_ (h : p := by
 exact ⟨0, Nat.zero_le _, rfl, by simpa using HR.out, za.refl _⟩) : p := h
end Go
namespace Go.Proofs.YtphaeahdmfapgaaGreat
open Go.RowKit Go.Calm
theorem Jd (xs : List I) (A : Option Addr) (c : Nat) (w : World) (hlen : xs.length <= 9223372036854775807) (hz : xc w A xs) (hl : ∀ x ∈ xs, x.row.length <= 9223372036854775807) (R : Int) (hR : zD (xs.map zg) = R) :
  Calls Tryz.prog 38 #[.slice A xs.length c] w fun en w' => en = .returned (.int .i64 R) /\ za w w' := by
 have HR := hh_ hR; have Hz := hh_ hz; have Hl := hh_ hl; clear hz hR hl; go_enter Tryz.func38, Tryz.ntmps38
 by_cases h8 : 400 < xs.length
 ·exact xP_
 ·have d8 : decide ((400 : Int) < (xs.length : Int)) = false := by simp; omega
  have inv0 : TJ (qh xs 0) ((xs.drop 0).map zg) = R := by rw [<- HR.out]; unfold zD; rw [if_neg uP_, List.drop_zero]; rfl
  have Inv0 := hh_ inv0; clear inv0; go_wp2
  go_loopw [11] (fun i wr => ∃ k : Nat, k <= xs.length /\ i = .int .i64 k /\ TJ (qh xs k) ((xs.drop k).map zg) = R /\ za w wr) (fun i _ => xs.length - (intOf i).toNat)
  case atStart => exact xf_
  case round =>
   obtain ⟨k, hk, rfl, hinv, hg⟩ := hrel; have xP := hh_ hinv; clear hinv
   by_cases hlt : k < xs.length
   ·obtain ⟨x, hxk⟩ : ∃ x, xs[k]? = some x := ⟨_, qQ_ hlt⟩
    obtain ⟨gx, ox, rfl, c1, c2, hxv⟩ := (Hz.out.grow hg) k x hxk; have hlx := Hl.out x (qZ_ hxk); have inv2 := (Bl hxk).symm.trans xP.out; have Inv2 := hh_ inv2; have Hxk := hh_ hxk; have Hxv := hh_ hxv; have cb := fun W (h : za wr W) (R : Int) (hR : XU x.row = R) => Dh x.row x.A x.cap W hlx (Hxv.out.grow h) R hR
    obtain ⟨rx, hrx⟩ : ∃ r, XU x.row = r := ⟨_, rfl⟩
    rw [hrx] at inv2; have Inv2 := hh_ inv2; clear inv2 hxk hxv; go_upto_region 6 with fail
    refine zb (fun X => zc X wr.heap.size 59 #[.slice x.A x.row.length x.cap, .int .i64 x.w] /\ za wr X) ⟨zc.new _ _ _, (za.refl wr).al _⟩ ?_; rintro X ⟨Bx, G⟩; obtain ⟨bx, fx⟩ := Bx.rules
    by_cases hw : rx = 0
    ·have dw : (rx != 0) = false := by simpa using hw
     rw [if_neg uN_] at Inv2; go_upto_region 9 with (go_at_call 69; ((with_reducible refine (cb _ G rx hrx).mono ?_); rintro e w2 ⟨rfl, hg2⟩; have Bx2 := hh_ (Bx.grow hg2))); obtain ⟨bx2, fx2⟩ := Bx2.out.rules; have G2 := G.trans hg2
     by_cases h0 : x.w = 0
     ·exact yd_
     ·have d0 : (x.w == 0) = false := by simpa using h0
      by_cases h1 : xD x.w = true
      ·go_wp2_with (go_at_call 70; ((with_reducible refine (Y5 _ _).mono ?_); rintro e w3 ⟨rfl, rfl⟩; rw [h1]))
       go_ret; exact zk on_ (hg.trans G2)
      ·have h1' : xD x.w = false := by simpa using h1
       have inv3 := Inv2.out; rw [if_neg (by simp [h0, h1'])] at inv3; have Inv3 := hh_ inv3; clear inv3 Inv2; go_upto_region 11 with (go_at_call 70; ((with_reducible refine (Y5 _ _).mono ?_); rintro e w3 ⟨rfl, rfl⟩; rw [h1'])); cases k with
       | zero =>
        have e : R = TJ (qh xs 1) ((xs.drop 1).map zg) := by have := Inv3.out; simpa [qh, Jn] using this.symm
        have E := hh_ e; clear e; apply ze 15 uY_ uY_
        case h' =>
         intro Q0 hQ0; simp only [List.take_succ_cons, List.take_zero]
         repeat ((first | ((first | apply zu rfl | apply zw rfl rfl rfl); case h1 => (intro w1 hw1 hF K hK; obtain ⟨bx, fx⟩ := (zc.grow Bx2.out hw1).rules; go_simp; first | exact hK _ (za.refl _))) | apply zz rfl rfl rfl rfl); intro K hK; go_simp; apply hK; clear hK K)
         refine zo ?_; intro w1 hw1 hF; apply hQ0; clear hQ0; simp only [List.drop_succ_cons, List.drop_zero]; clear hF; go_wp2; go_roundw
         case rel => exact ⟨1, by omega, rfl, E.out.symm, hg.trans (G2.trans hw1)⟩
         case measure => exact wa_
        case hp' => trivial
       | succ j =>
        obtain ⟨y, hyk⟩ : ∃ y, xs[j]? = some y := ⟨_, qQ_ u4_⟩
        obtain ⟨gy, oy, ey, cy1, cy2, hyv⟩ := (Hz.out.grow hg) j y hyk; cases ey; have hly := Hl.out y (qZ_ hyk); obtain ⟨cr, hcr⟩ : ∃ r, zC xT y.row x.row = r := ⟨_, rfl⟩
        have cc := fun W (h : za wr W) => jJ y.row x.row y.A x.A y.cap x.cap W hly hlx (hyv.grow h) (Hxv.out.grow h)
        rw [hcr] at cc; have inv4 := Inv3.out; rw [show Jn (qh xs (j + 1)) x.row = decide (0 <= cr) by unfold qh; rw [if_neg u4_, Nat.add_sub_cancel, hyk, <- hcr]; first | done | rfl] at inv4; have Inv4 := hh_ inv4; have Hy := hh_ (show wr.cell? ⟨gx, ox + j * 2, none⟩ = some (.slice y.A y.row.length y.cap) from cy1); have p0 : (0 : Int) < (j : Int) + 1 := by omega
        have dj : decide ((0 : Int) < (j : Int) + 1) = true := decide_eq_true u4_; have hwp : IntKind.i64.wrap (j : Int) = (j : Int) := by rw [IntKind.wrap_i64]; omega
        have jz1 : (j : Int) < (xs.length : Int) := by omega
        have jz3 : j < xs.length := by omega
        clear inv4 Inv3 hyk cy1 cy2 hyv hcr c1 c2; apply ze 15 uY_ uY_
        case h' =>
         intro Q0 hQ0; simp only [List.take_succ_cons, List.take_zero]
         repeat ((first | ((first | apply zu rfl | apply zw rfl rfl rfl); case h1 => (intro w1 hw1 hF K hK; obtain ⟨bx, fx⟩ := (zc.grow Bx2.out hw1).rules; have cy1 := (G2.trans hw1).cell Hy.out; go_simp; first | exact hK _ (za.refl _) | (go_at_call 71; ((with_reducible refine (cc _ (G2.trans hw1)).mono ?_); rintro e w' ⟨rfl, hg⟩; exact ⟨_, rfl, hK _ hg⟩)))) | apply zz rfl rfl rfl rfl); intro K hK; go_simp; apply hK; clear hK K)
         refine zo ?_; intro w1 hw1 hF; apply hQ0; clear hQ0; simp only [List.drop_succ_cons, List.drop_zero]; clear hF
         by_cases hc : 0 <= cr
         ·have dc : decide (0 <= cr) = true := by simpa using hc
          simp only [dc]; go_wp2; go_ret; exact zk oB_ (hg.trans (G2.trans hw1))
         ·have dc : decide (0 <= cr) = false := by simpa using hc
          simp only [dc]; go_wp2; go_roundw
          case rel => exact ⟨j + 2, by omega, by go_num, by have := Inv4.out; rw [if_neg (by simp [dc])] at this; exact this, hg.trans (G2.trans hw1)⟩
          case measure => exact wa_
        case hp' => trivial
    ·have dw : (rx != 0) = true := by simpa using hw
     go_wp2_with (go_at_call 69; ((with_reducible refine (cb _ G rx hrx).mono ?_); rintro e w2 ⟨rfl, hg2⟩))
     go_ret; exact zk oA_ (hg.trans (G.trans hg2))
   ·exact wk_
abbrev FE : Value := .func (.func 74) #[] #[]
theorem Ee (x : I) (w : World) : Calls Tryz.prog 74 #[x.val] w fun e w' => e = .returned (.bool (xD x.w)) /\ za w w' := by
 unfold I.val; go_enter Tryz.func74, Tryz.ntmps74
 go_wp2_with (go_at_call 70; ((with_reducible refine (Y5 _ _).mono ?_); rintro e w3 ⟨rfl, rfl⟩))
 go_ret; exact yG u5_ zd
theorem So (xs : List I) (A : Option Addr) (c : Nat) (w : World) (hlen : xs.length <= 9223372036854775807) (hz : xc w A xs) :
  Calls Tryz.prog 117 #[.slice A xs.length c, FE] w fun en w' => (∃ i : Int, en = .returned (.int .i64 i) /\ decide (0 <= i) = (xs.map zg).any (fun x => xD x.2)) /\ za w w' := by
 have Hz := hh_ hz; clear hz; go_enter Tryz.func117, Tryz.ntmps117; go_wp2
 go_loopw [8] (fun i wr => ∃ k : Nat, k <= xs.length /\ i = .int .i64 k /\ ((xs.drop k).map zg).any (fun x => xD x.2) = (xs.map zg).any (fun x => xD x.2) /\ za w wr) (fun i _ => xs.length - (intOf i).toNat)
 case atStart => exact ⟨0, Nat.zero_le _, rfl, rfl, za.refl _⟩
 case round =>
  obtain ⟨k, hk, rfl, hinv, hg⟩ := hrel; have xP := hh_ hinv; clear hinv
  by_cases hlt : k < xs.length
  ·obtain ⟨x, hxk⟩ : ∃ x, xs[k]? = some x := ⟨_, qQ_ hlt⟩
   obtain ⟨gx, ox, rfl, c1, c2, hxv⟩ := (Hz.out.grow hg) k x hxk; have inv2 := (T0 hxk).symm.trans xP.out; have Inv2 := hh_ inv2; obtain ⟨b, hb⟩ : ∃ b, xD x.w = b := ⟨_, rfl⟩
   have cc := fun W => Ee x W
   rw [hb] at cc; have Hb := hh_ hb; clear inv2 hxk hxv hb; cases b with
   | true =>
    go_wp2_with (go_at_call 74; ((with_reducible refine (cc _).mono ?_); rintro e w3 ⟨rfl, hg3⟩))
    go_ret; exact ⟨⟨_, rfl, by have := Inv2.out; rw [Hb.out, Bool.true_or] at this; rw [<- this]; simp⟩, hg.trans hg3⟩
   | false =>
    go_wp2_with (go_at_call 74; ((with_reducible refine (cc _).mono ?_); rintro e w3 ⟨rfl, hg3⟩))
    go_roundw
    case rel => exact ⟨k + 1, by omega, by go_num, by have := Inv2.out; rw [Hb.out, Bool.false_or] at this; exact this, hg.trans hg3⟩
    case measure => exact wa_
  ·obtain rfl : k = xs.length := by omega
   go_wp2; go_ret; exact ⟨⟨_, rfl, by have := xP.out; rw [List.drop_length] at this; rw [<- this]; rfl⟩, hg⟩
theorem La (xs : List I) (A : Option Addr) (c : Nat) (w : World) (hlen : xs.length <= 9223372036854775807) (hz : xc w A xs) :
  Calls Tryz.prog 73 #[.slice A xs.length c, FE] w fun en w' => en = .returned (.bool ((xs.map zg).any (fun x => xD x.2))) /\ za w w' := by
 have cs := So xs A c w hlen hz; have Hz := hh_ hz; clear hz; go_enter Tryz.func73, Tryz.ntmps73
 go_wp2_with (go_at_call 117; ((with_reducible refine cs.mono ?_); rintro en w2 ⟨⟨i, rfl, hi⟩, hg2⟩; have Hi := hh_ hi; clear hi))
 go_ret; exact yG Hi.out hg2
abbrev F4 (x : I) : Prop := x.row.length <= x.cap
def KO (P : I -> Prop) (w w' : World) (e : Ending) (r : List Z × Int) : Prop := ∃ (B : Option Addr) (ys : List I) (cap : Nat), e = .returned (.tuple #[.slice B ys.length cap, .int .i64 r.2]) /\ xc w' B ys /\ ys.map zg = r.1 /\ zX B ys.length cap /\ (∀ y ∈ ys, P y) /\ za w w'
theorem KO.gives {P : I -> Prop} {w w' : World} {e : Ending} {r : List Z × Int} (h : KO P w w' e r) : z0 w w' e r := by
 obtain ⟨B, ys, cap, h1, h2, h3, h4, _, h5⟩ := h; exact ⟨B, ys, cap, h1, h2, h3, h4, h5⟩
theorem FF (xs : List I) (A : Option Addr) (c : Nat) (w : World) (hlen : xs.length <= 9223372036854775807) (hz : xc w A xs) (hok : zX A xs.length c) (P : I -> Prop) (hP : ∀ x ∈ xs, P x) :
  Calls Tryz.prog 40 #[.slice A xs.length c] w fun en w' => KO P w w' en (qj (xs.map zg)) := by
 have cs := La xs A c w hlen hz; have Hz := hh_ hz; obtain ⟨b, hb⟩ : ∃ b, (xs.map zg).any (fun x => xD x.2) = b := ⟨_, rfl⟩
 rw [hb] at cs; have Hb := hh_ hb; clear hz hb; go_enter Tryz.func40, Tryz.ntmps40; cases b with
 | true =>
  go_wp2_with (go_at_call 73; ((with_reducible refine cs.mono ?_); rintro en w2 ⟨rfl, hg2⟩))
  refine qX_ oH_ rfl ?_; exact ⟨none, [], 0, by unfold qj; rw [if_pos Hb.out]; rfl, zy _ _, by unfold qj; rw [if_pos Hb.out]; rfl, zX.nil, fun y hy => by simp at hy, hg2⟩
 | false =>
  by_cases h4 : 400 < xs.length
  ·have d4 : decide ((400 : Int) < (xs.length : Int)) = true := decide_eq_true u4_
   go_wp2_with (go_at_call 73; ((with_reducible refine cs.mono ?_); rintro en w2 ⟨rfl, hg2⟩))
   refine qX_ oH_ rfl ?_; exact ⟨none, [], 0, by unfold qj; rw [if_neg uA_, if_pos uK_]; rfl, zy _ _, by unfold qj; rw [if_neg uA_, if_pos uK_]; rfl, zX.nil, fun y hy => by simp at hy, hg2⟩
  ·have d4 : decide ((400 : Int) < (xs.length : Int)) = false := decide_eq_false u4_
   go_wp2_with (go_at_call 73; ((with_reducible refine cs.mono ?_); rintro en w2 ⟨rfl, hg2⟩))
   refine qX_ oH_ rfl ?_; exact ⟨A, xs, c, by unfold qj; rw [if_neg uA_, if_neg uK_], Hz.out.grow hg2, by unfold qj; rw [if_neg uA_, if_neg uK_], hok, hP, hg2⟩
theorem FX (xs : List I) (A : Option Addr) (c : Nat) (w : World) (hlen : xs.length <= 200000) (hz : xc w A xs) (hrow : ∀ x ∈ xs, x.row.length <= 1000) (hrv : ∀ x ∈ xs, ∀ v ∈ x.row, RV v) (hw : ∀ x ∈ xs, -1000000000000 <= x.w /\ x.w <= 1000000000000) :
  Calls Tryz.prog 29 #[.slice A xs.length c] w fun en w' => KO F4 w w' en (yZ (xs.map zg)) := by
 have cs := TH xs A c w hlen hz hrow hrv hw; have Hrv := hh_ hrv; have Hlen := hh_ hlen; clear hz hrow hrv hw; go_enter Tryz.func29, Tryz.ntmps29
 go_wp2_with (first
  | (go_at_call 41; ((with_reducible refine cs.mono ?_); rintro en w2 ⟨B, ys, cap, rfl, hz2, hcan, hwt, hsok, hcp, hg2⟩; have E := hh_ (Zs (l := xs.map zg) (fun x hx => by obtain ⟨y, hy, rfl⟩ := List.mem_map.1 hx; exact Hrv.out y hy) hcan hwt); have Hz2 := hh_ hz2; have Hsok := hh_ hsok; have Hcp := hh_ hcp; clear hcan hwt hz2 hsok hcp))
  | (go_at_call 40; ((with_reducible refine (FF ys B cap _ ?lenB Hz2.out Hsok.out _ Hcp.out).mono ?_); rotate_left; rintro en w3 ⟨C, zs, cap2, rfl, hz3, hm, hk3, hp3, hg3⟩; have Fin := hh_ (And.intro hz3 (And.intro hm (And.intro hk3 hp3))); clear hz3 hm hk3 hp3)))
 ·refine qX_ (by simp [results, Tryz.results29, go_sem] <;> rfl) rfl ?_; refine ⟨C, zs, cap2, ?_, Fin.out.1, ?_, Fin.out.2.2.1, Fin.out.2.2.2, hg2.trans hg3⟩
  ·unfold yZ; rw [<- E.out]
  ·unfold yZ; rw [<- E.out]; exact Fin.out.2.1
 case lenB =>
  have h1 := congrArg List.length E.out; have h2 := xv (xs.map zg); have h3 := Hlen.out; simp at h1 h2; omega
theorem LP (xs : List I) (A : Option Addr) (c : Nat) (w : World) (hlen : xs.length <= 200000) (hz : xc w A xs) (hrow : ∀ x ∈ xs, x.row.length <= 1000) (hrv : ∀ x ∈ xs, ∀ v ∈ x.row, RV v) (hw : ∀ x ∈ xs, -1000000000000 <= x.w /\ x.w <= 1000000000000) :
  Calls Tryz.prog 29 #[.slice A xs.length c] w fun en w' => z0 w w' en (yZ (xs.map zg)) := (FX xs A c w hlen hz hrow hrv hw).mono fun _ _ h => h.gives
theorem kd (xs : List I) (A : Option Addr) (c : Nat) (w : World) (hlen : xs.length <= 5000) (hz : xc w A xs) (hrow : ∀ x ∈ xs, x.row.length <= 1000) (hrv : ∀ x ∈ xs, ∀ v ∈ x.row, RV v) (hw : ∀ x ∈ xs, -1000000 <= x.w /\ x.w <= 1000000) :
  Calls Tryz.prog 29 #[.slice A xs.length c] w fun en w' => z0 w w' en (yZ (xs.map zg)) :=
 LP xs A c w u4_ hz hrow hrv (fun x hx => by have := hw x hx; omega)
theorem VJ (k n : Int) (s : ByteArray) (k' n' : Int) (s' : ByteArray) (w : World) :
  (binOp .neq 24 (.agg #[.int .i64 k, .int .i64 n, .string s]) (.agg #[.int .i64 k', .int .i64 n', .string s'])).run Tryz.prog w = .ok (.bool (!Bw ⟨k, n, s⟩ ⟨k', n', s'⟩)) w := by
 have h := VI k n s k' n' s' w; have e1 : binOp .eql 24 (.agg #[.int .i64 k, .int .i64 n, .string s]) (.agg #[.int .i64 k', .int .i64 n', .string s']) = (do return .bool (<- Op.equal 24 (.agg #[.int .i64 k, .int .i64 n, .string s]) (.agg #[.int .i64 k', .int .i64 n', .string s']))) := rfl; have e2 : binOp .neq 24 (.agg #[.int .i64 k, .int .i64 n, .string s]) (.agg #[.int .i64 k', .int .i64 n', .string s']) = (do return .bool (!(<- Op.equal 24 (.agg #[.int .i64 k, .int .i64 n, .string s]) (.agg #[.int .i64 k', .int .i64 n', .string s'])))) := rfl; rw [e1, Sem.run_bind] at h; rw [e2, Sem.run_bind]
 revert h
 generalize (Op.equal 24 (.agg #[.int .i64 k, .int .i64 n, .string s]) (.agg #[.int .i64 k', .int .i64 n', .string s'])).run Tryz.prog w = r; intro h; cases r with
 | ok b w2 =>
  simp only [Result.andThen_ok, Sem.run_pure, Result.ok.injEq, Value.bool.injEq] at h ⊢; exact ⟨by rw [h.1], h.2⟩
 | _ => simp [Result.andThen] at h
def Xx : List Z -> List Z -> Bool
 | [], [] => true
 | x :: l, y :: m => decide (x.2 = y.2) && (decide (x.1 = y.1) && Xx l m)
 | _, _ => false
theorem Qg : ∀ a b : List Z, Xx a b = true ↔ a = b
 | [], [] => by simp [Xx]
 | [], y :: m => by simp [Xx]
 | x :: l, [] => by simp [Xx]
 | x :: l, y :: m => by
  have ih := Qg l m; unfold Xx; simp only [Bool.and_eq_true, decide_eq_true_eq, ih, List.cons.injEq]; exact ⟨fun ⟨a, b, c⟩ => ⟨Prod.ext b a, c⟩, fun ⟨a, c⟩ => ⟨by rw [a], by rw [a], c⟩⟩
def j9 : List V -> List V -> Bool
 | [], [] => true
 | x :: l, y :: m => Bw x y && j9 l m
 | _, _ => false
theorem Qh : ∀ a b : List V, j9 a b = true ↔ a = b
 | [], [] => by simp [j9]
 | [], y :: m => by simp [j9]
 | x :: l, [] => by simp [j9]
 | x :: l, y :: m => by
  have ih := Qh l m; have h := Rl x y; unfold j9; rw [Bool.and_eq_true, ih, h, List.cons.injEq]
theorem VL {a b : List V} {k : Nat} {x y : V} (hx : a[k]? = some x) (hy : b[k]? = some y) : j9 (a.drop k) (b.drop k) = (Bw x y && j9 (a.drop (k + 1)) (b.drop (k + 1))) := by
 obtain ⟨h1, e1⟩ := qQ9.1 hx; obtain ⟨h2, e2⟩ := qQ9.1 hy; rw [List.drop_eq_getElem_cons h1, List.drop_eq_getElem_cons h2, e1, e2]; rfl
theorem VK {a b : List I} {k : Nat} {x y : I} (hx : a[k]? = some x) (hy : b[k]? = some y) : Xx ((a.drop k).map zg) ((b.drop k).map zg) = (decide (x.w = y.w) && (j9 x.row y.row && Xx ((a.drop (k + 1)).map zg) ((b.drop (k + 1)).map zg))) := by
 obtain ⟨h1, e1⟩ := qQ9.1 hx; obtain ⟨h2, e2⟩ := qQ9.1 hy; rw [List.drop_eq_getElem_cons h1, List.drop_eq_getElem_cons h2, e1, e2]; have : j9 x.row y.row = decide (x.row = y.row) := by rw [Bool.eq_iff_iff, Qh]; simp
 rw [this]; rfl
theorem Tl {a b : List V} (h : a.length ≠ b.length) : j9 a b = false := by
 cases hs : j9 a b with
 | false => rfl
 | true => rw [(Qh a b).1 hs] at h; exact absurd rfl h
theorem VM (xs ys : List I) (A B : Option Addr) (c d : Nat) (w : World) (hlx : xs.length <= 9223372036854775807) (hly : ys.length <= 9223372036854775807) (hx : xc w A xs) (hy : xc w B ys) (lx : ∀ x ∈ xs, x.row.length <= 9223372036854775807) (ly : ∀ x ∈ ys, x.row.length <= 9223372036854775807) (R : Bool) (hR : Xx (xs.map zg) (ys.map zg) = R) :
  Calls Tryz.prog 9 #[.slice A xs.length c, .slice B ys.length d] w fun en w' => en = .returned (.bool R) /\ za w w' := by
 have hneq := VJ; have HR := hh_ hR; have Hx := hh_ hx; have Hy := hh_ hy; have Lx := hh_ lx; have Ly := hh_ ly; clear hx hy lx ly hR; go_enter Tryz.func9, Tryz.ntmps9
 by_cases hl : xs.length = ys.length
 ·have d0 : ((xs.length : Int) != (ys.length : Int)) = false := by simp; omega
  have HL := hh_ hl; clear hl; go_wp2
  go_loopw [14] (fun i wr => ∃ k : Nat, k <= xs.length /\ i = .int .i64 k /\ Xx ((xs.drop k).map zg) ((ys.drop k).map zg) = R /\ za w wr) (fun i _ => xs.length - (intOf i).toNat)
  case atStart => exact yE_
  case round =>
   obtain ⟨k, hk, rfl, hinv, hg⟩ := hrel; have xP := hh_ hinv; clear hinv
   by_cases hlt : k < xs.length
   ·obtain ⟨x, hxk⟩ : ∃ x, xs[k]? = some x := ⟨_, qQ_ hlt⟩
    have hlt2 : k < ys.length := by have := HL.out; omega
    obtain ⟨y, hyk⟩ : ∃ y, ys[k]? = some y := ⟨_, qQ_ hlt2⟩
    obtain ⟨gx, ox, rfl, cx1, cx2, hxv⟩ := (Hx.out.grow hg) k x hxk; obtain ⟨gy, oy, rfl, cy1, cy2, hyv⟩ := (Hy.out.grow hg) k y hyk; have hlx' := Lx.out x (qZ_ hxk); have hly' := Ly.out y (qZ_ hyk); have inv2 := (VK hxk hyk).symm.trans xP.out; have Inv2 := hh_ inv2; have Cx := hh_ (And.intro cx1 cx2); have Cy := hh_ (And.intro cy1 cy2); have Hxv := hh_ hxv; have Hyv := hh_ hyv; have b0 : (0 : Int) <= (k : Int) := by omega
    have b1 : (k : Int) < (ys.length : Int) := by omega
    have b2 : (k : Int) < (xs.length : Int) := by omega
    clear inv2 hxk hyk cx1 cx2 cy1 cy2 hxv hyv
    by_cases hw : x.w = y.w
    ·have dw : (x.w != y.w) = false := by simpa using hw
     by_cases hr : x.row.length = y.row.length
     ·have dr : ((x.row.length : Int) != (y.row.length : Int)) = false := by simp; omega
      have HLR := hh_ hr; have inv3 := Inv2.out; rw [decide_eq_true hw, Bool.true_and] at inv3; have Inv3 := hh_ inv3; clear inv3 Inv2 hr hw; go_wp2; apply ze 26 uY_ uY_
      case h' =>
       intro Q0 hQ0; simp only [List.take_succ_cons, List.take_zero]
       repeat ((first | ((first | apply zu rfl | apply zw rfl rfl rfl); case h1 => (intro w1 hw1 hF K hK; obtain ⟨cx1, cx2⟩ := And.intro (hw1.cell Cx.out.1) (hw1.cell Cx.out.2); obtain ⟨cy1, cy2⟩ := And.intro (hw1.cell Cy.out.1) (hw1.cell Cy.out.2); go_simp; first | exact hK _ (za.refl _))) | apply zz rfl rfl rfl rfl); intro K hK; go_simp; apply hK; clear hK K)
       refine zo ?_; intro w1 hw1 hF; apply hQ0; clear hQ0; simp only [List.drop_succ_cons, List.drop_zero]; clear hF; have cx1 := hw1.cell Cx.out.1; have cy1 := hw1.cell Cy.out.1; have G1 := hg.trans hw1; rename World => w3
       go_wp2
       go_loopw [49] (fun i wq => ∃ j : Nat, j <= x.row.length /\ i = .int .i64 j /\ (j9 (x.row.drop j) (y.row.drop j) && Xx ((xs.drop (k + 1)).map zg) ((ys.drop (k + 1)).map zg)) = R /\ za w3 wq) (fun i _ => x.row.length - (intOf i).toNat)
       case atStart => exact ⟨0, Nat.zero_le _, rfl, by simpa using Inv3.out, za.refl _⟩
       case round =>
        obtain ⟨j, hj, rfl, hjinv, hg4⟩ := hrel; have Jinv := hh_ hjinv; clear hjinv; have cx1' := hg4.cell cx1; have cy1' := hg4.cell cy1
        by_cases hjl : j < x.row.length
        ·have hjl2 : j < y.row.length := by have := HLR.out; omega
         obtain ⟨u, huk⟩ : ∃ u, x.row[j]? = some u := ⟨_, qQ_ hjl⟩
         obtain ⟨v, hvk⟩ : ∃ v, y.row[j]? = some v := ⟨_, qQ_ hjl2⟩
         obtain ⟨gu, ou, eu, hu⟩ := (Hxv.out.grow (hw1.trans hg4)) j u huk; obtain ⟨gv, ov, ev, hv⟩ := (Hyv.out.grow (hw1.trans hg4)) j v hvk; have j2 := (VL huk hvk)
         have j3 := Jinv.out; rw [j2] at j3; have J3 := hh_ j3; rw [eu] at cx1'; rw [ev] at cy1'; have Cx1 := hh_ cx1'; have Cy1 := hh_ cy1'; have Hu := hh_ hu; have Hv := hh_ hv; have q0 : (0 : Int) <= (j : Int) := by omega
         have q1 : (j : Int) < (y.row.length : Int) := by omega
         have q2 : (j : Int) < (x.row.length : Int) := by omega
         clear j2 j3 cx1' cy1' hu hv huk hvk Jinv eu ev cx1 cy1; go_wp2; apply ze 17 uY_ uY_
         case h' =>
          intro Q0 hQ0; simp only [List.take_succ_cons, List.take_zero]
          repeat ((first | ((first | apply zu rfl | apply zw rfl rfl rfl); case h1 => (intro w1 hw1 hF K hK; have cx1 := hw1.cell Cx1.out; have cy1 := hw1.cell Cy1.out; obtain ⟨a1, a2, a3⟩ := Hu.out.grow hw1; obtain ⟨d1, d2, d3⟩ := Hv.out.grow hw1; go_simp; first | exact hK _ (za.refl _))) | apply zz rfl rfl rfl rfl); intro K hK; go_simp; apply hK; clear hK K)
          refine zo ?_; intro w1 hw1 hF; apply hQ0; clear hQ0; simp only [List.drop_succ_cons, List.drop_zero]; clear hF
          by_cases he : Bw u v = true
          ·simp only [V.eta, he, Bool.not_true]; go_wp2; go_roundw
           case rel => exact ⟨j + 1, by omega, by go_num, by have := J3.out; rw [he, Bool.true_and] at this; exact this, hg4.trans hw1⟩
           case measure => exact wa_
          ·have he' : Bw u v = false := by simpa using he
           simp only [V.eta, he', Bool.not_false]; go_wp2; go_ret; exact yG (by have := J3.out; rw [he', Bool.false_and, Bool.false_and] at this; exact this) (G1.trans (hg4.trans hw1))
         case hp' => trivial
        ·obtain rfl : j = x.row.length := by omega
         have j3 := Jinv.out; rw [List.drop_length, HLR.out, List.drop_length] at j3; have J3 := hh_ j3; clear j3; go_wp2; go_roundw
         case rel => exact ⟨k + 1, by omega, by go_num, by have := J3.out; simpa [j9] using this, G1.trans hg4⟩
         case measure => exact wa_
      case hp' => trivial
     ·have dr : ((x.row.length : Int) != (y.row.length : Int)) = true := by simp; omega
      have fin : R = false := by have := Inv2.out; rw [Tl hr] at this; simpa using this.symm
      clear hr; go_wp2; apply ze 26 uY_ uY_
      case h' => exact wo_
      case hp' => trivial
    ·have dw : (x.w != y.w) = true := by simpa using hw
     have fin : R = false := by have := Inv2.out; rw [decide_eq_false hw] at this; simpa using this.symm
     go_wp2; apply ze 26 uY_ uY_
     case h' => exact wo_
     case hp' => trivial
   ·obtain rfl : k = xs.length := by omega
    have fin : R = true := by have := xP.out; rw [List.drop_length, HL.out, List.drop_length] at this; exact this.symm
    go_wp2; go_ret; exact yG fin.symm hg
 ·have d0 : ((xs.length : Int) != (ys.length : Int)) = true := by simp; omega
  have fin : R = false := by
   rw [<- HR.out]; cases hs : Xx (xs.map zg) (ys.map zg) with
   | false => rfl
   | true => have := congrArg List.length ((Qg _ _).1 hs); simp at this; exact absurd this hl
  go_wp2; go_ret; exact yG fin.symm (za.refl _)
def y7 (t : Int) (l : List Z) : List Z := l.map (fun x => (x.1, t * x.2))
theorem NC (t : Int) : ∀ (l : List Z) (q : List V), xe (y7 t l) q = t * xe l q
 | [], q => by simp [y7, qx]
 | x :: l, q => by
  have ih := NC t l q; show xe ((x.1, t * x.2) :: y7 t l) q = _; rw [zv, zv, ih, Int.mul_add]; split <;> simp
theorem Tn (l : List Z) : y7 1 l = l := by simp [y7]
def xE (a b : List Z) (t : Int) : List Z × Int := if zD a ≠ 0 then ([], zD a) else if zD b ≠ 0 then ([], zD b) else yZ (a ++ y7 t b)
def yz (f : Int -> Int) (z : List Z) : List Z := (z.map (fun x => (zj x.1, f x.2))).filter (fun x => decide (x.2 ≠ 0))
def yA (f : Int -> Int) (z : List Z) : List Z × Int := if zD z ≠ 0 then ([], zD z) else (yz f z, 0)
theorem qR {f : Int -> Int} {z : List Z} {y : Z} (h : y ∈ yz f z) : (∃ x ∈ z, y = (zj x.1, f x.2)) /\ y.2 ≠ 0 := by
 obtain ⟨h1, h2⟩ := List.mem_filter.1 h; obtain ⟨x, hx, rfl⟩ := List.mem_map.1 h1; exact ⟨⟨x, hx, rfl⟩, by simpa using h2⟩
theorem j4 {f : Int -> Int} {z : List Z} (hr : ∀ x ∈ z, ∀ v ∈ x.1, RV v) (hu : z.Pairwise (fun x y => zZ x.1 y.1 < 0)) : xi (yz f z) := by
 refine ⟨?_, fun y hy => ?_, fun y hy => ?_, fun y hy => (qR hy).2⟩
 ·unfold yz; refine List.Pairwise.filter _ (List.pairwise_map.2 (hu.imp_of_mem fun {x y} hx hy hxy => ?_)); exact Xl (WD (YR (hr x hx)) hxy) (kL (hr y hy))
 ·obtain ⟨⟨x, hx, rfl⟩, _⟩ := qR hy; exact xS (hr x hx)
 ·obtain ⟨⟨x, hx, rfl⟩, _⟩ := qR hy; exact yK _
theorem RN : ∀ (l : List Z) (q : List V), xe (l.filter (fun x => decide (x.2 ≠ 0))) q = xe l q
 | [], q => rfl
 | x :: l, q => by
  have ih := RN l q; rw [List.filter_cons, zv]; split
  ·rw [zv, ih]
  ·rename_i h; have h : x.2 = 0 := by simpa using h
   rw [ih, h]; simp
theorem Nz (f : Int -> Int) : ∀ (l : List Z) (q : List V), xe (l.map (fun x => (zj x.1, f x.2))) q = xe (l.map (fun x => (x.1, f x.2))) q
 | [], q => rfl
 | x :: l, q => by
  rw [List.map_cons, List.map_cons, zv, zv, Nz f l q]; simp only [yK]
theorem LU (f : Int -> Int) (l : List Z) (q : List V) : xe (yz f l) q = xe (l.map (fun x => (x.1, f x.2))) q := by
 unfold yz; rw [RN, Nz]
theorem MB {f : Int -> Int} {z : List Z} (hr : ∀ x ∈ z, ∀ v ∈ x.1, RV v) (hu : z.Pairwise (fun x y => zZ x.1 y.1 < 0)) : yz f z = yC (z.map (fun x => (x.1, f x.2))) :=
 Zs (fun y hy => by obtain ⟨x, hx, rfl⟩ := List.mem_map.1 hy; exact hr x hx) (j4 hr hu) (LU f z)
theorem LV : ∀ {z : List Z} {x : Z} (hx : ∀ v ∈ x.1, RV v) (hz : ∀ y ∈ z, ∀ v ∈ y.1, RV v) (h : ∀ y ∈ z, zZ x.1 y.1 < 0) {q : List V} (hq : zj x.1 = zj q), xe z q = 0
 | [], x, _, _, _, q, _ => rfl
 | y :: z, x, hx, hz, h, q, hq => by
  rw [zv, LV hx (fun y hy => hz y u0_) (fun y hy => h y u0_) hq, if_neg]
  ·rfl
  ·intro e; have h1 := h y u5_; have h2 := (yX x.1 y.1 hx (hz y u5_)).2 (hq.trans e.symm); omega
theorem F1 {f : Int -> Int} (f0 : f 0 = 0) : ∀ {z : List Z} (hz : ∀ y ∈ z, ∀ v ∈ y.1, RV v) (hu : z.Pairwise (fun x y => zZ x.1 y.1 < 0)) (q : List V), xe (z.map (fun x => (x.1, f x.2))) q = f (xe z q)
 | [], _, _, q => by simp [qx, f0]
 | x :: z, hz, hu, q => by
  have ih := F1 f0 (fun y hy => hz y u0_) (List.pairwise_cons.1 hu).2 q; rw [List.map_cons, zv, zv, ih]; split
  ·rename_i h; rw [LV (hz x u5_) (fun y hy => hz y u0_) (List.pairwise_cons.1 hu).1 h, f0]; simp
  ·simp
theorem DT : ∀ {z : List Z} (hz : ∀ y ∈ z, ∀ v ∈ y.1, RV v) (hu : z.Pairwise (fun x y => zZ x.1 y.1 < 0)) (q : List V), xe z q = 0 \/ ∃ x ∈ z, xe z q = x.2
 | [], _, _, q => .inl rfl
 | x :: z, hz, hu, q => by
  have ih := DT (fun y hy => hz y u0_) (List.pairwise_cons.1 hu).2 q; rw [zv]; split
  ·rename_i h; rw [LV (hz x u5_) (fun y hy => hz y u0_) (List.pairwise_cons.1 hu).1 h]; exact .inr ⟨x, by simp, by simp⟩
  ·rw [Int.zero_add]; rcases ih with h | ⟨y, hy, h⟩
   ·exact .inl h
   ·exact .inr ⟨y, by simp [hy], h⟩
theorem DU {M : Int} (hM : 0 <= M) {z : List Z} (hz : ∀ y ∈ z, ∀ v ∈ y.1, RV v) (hu : z.Pairwise (fun x y => zZ x.1 y.1 < 0)) (hb : Mi M z) (q : List V) : -M <= xe z q /\ xe z q <= M := by
 rcases DT hz hu q with h | ⟨x, hx, h⟩
 ·omega
 ·rw [h]; exact hb x hx
theorem JD : ∀ {z : List Z}, xi z -> ∀ y ∈ z, xe z y.1 = y.2
 | x :: z, h, y, hy => by
  rcases List.mem_cons.1 hy with rfl | hy
  ·exact jP h
  ·rw [zv, JD h.tail y hy, if_neg]
   ·simp
   ·intro e; have h1 := (List.pairwise_cons.1 h.up).1 y hy; have h2 := (yX x.1 y.1 (h.rv x u5_) (h.rv y u0_)).2 e; omega
theorem Md : ∀ (l z : List Z), ∀ y ∈ QK z l, (∃ x ∈ z, y.1 = x.1) \/ ∃ x ∈ l, y.1 = zj x.1
 | [], z, y, hy => .inl ⟨y, hy, rfl⟩
 | x :: l, z, y, hy => by
  rw [Yd] at hy; rcases Md l _ y hy with ⟨u, hu, e⟩ | ⟨u, hu, e⟩
  ·rcases WP _ _ _ u hu with h | ⟨h, _⟩
   ·exact .inl ⟨u, h, e⟩
   ·exact .inr ⟨x, by simp, by rw [e, h]⟩
  ·exact .inr ⟨u, by simp [hu], e⟩
theorem Zr {l : List Z} {y : Z} (h : y ∈ yC l) : ∃ x ∈ l, y.1 = zj x.1 := by
 rcases Md l [] y h with ⟨u, hu, _⟩ | h
 ·simp at hu
 ·exact h
theorem Nh {a b : List Z} (ha : ∀ x ∈ a, ∀ v ∈ x.1, RV v) (hb : ∀ x ∈ b, ∀ v ∈ x.1, RV v) (h : ∀ q, xe a q = xe b q) : yC a = yC b :=
 Zs hb (qe a ha).1 (fun q => by rw [(qe a ha).2, h])
theorem Q6 (n : Int) : xD n = true ↔ ¬ (-1000000 <= n /\ n <= 1000000) := by simp [xD]; omega
theorem Wj (z : List Z) : (qj z = (z, 0) /\ z.length <= 400 /\ Mi 1000000 z) \/ (∃ e, e ≠ 0 /\ qj z = ([], e)) := by
 unfold qj; split
 ·exact .inr ⟨3, by omega, rfl⟩
 ·rename_i h; split
  ·exact .inr ⟨5, by omega, rfl⟩
  ·refine .inl ⟨rfl, by omega, fun x hx => ?_⟩; have h2 : ¬ xD x.2 = true := fun e => h (List.any_eq_true.2 ⟨x, hx, e⟩)
   rw [Q6] at h2; omega
theorem Cu {z : List Z} (h1 : z.length <= 400) (h2 : Mi 1000000 z) : qj z = (z, 0) := by
 unfold qj; rw [if_neg, if_neg u4_]; intro e; obtain ⟨x, hx, hb⟩ := List.any_eq_true.1 e; have := h2 x hx; rw [Q6] at hb; omega
def ZG (z : List Z) : Prop := ∀ x ∈ z, x.1.length <= 8 /\ ∀ v ∈ x.1, RV v
theorem Ls {l : List Z} (h : ZG l) : ZG (yC l) := fun y hy => by
 obtain ⟨x, hx, e⟩ := Zr hy; rw [e]; exact ⟨by simpa [zj] using (h x hx).1, xS (h x hx).2⟩
theorem Xj {a b : List Z} (ha : ZG a) (hb : ZG b) : ZG (a ++ b) := fun x hx => by
 rcases List.mem_append.1 hx with h | h
 ·exact ha x h
 ·exact hb x h
theorem Kh {a : List Z} (ha : ZG a) (t : Int) : ZG (y7 t a) := fun x hx => by
 obtain ⟨y, hy, rfl⟩ := List.mem_map.1 hx; exact ha y hy
theorem Wx {a : List Z} (ha : ZG a) (f : Int -> Int) : ZG (yz f a) := fun x hx => by
 obtain ⟨⟨y, hy, rfl⟩, _⟩ := qR hx; exact ⟨by simpa [zj] using (ha y hy).1, xS (ha y hy).2⟩
structure SM (M : Int) (N : Nat) (z : List Z) : Prop where
 ok : ZG z
 up : z.Pairwise (fun x y => zZ x.1 y.1 < 0)
 ne : ∀ x ∈ z, x.2 ≠ 0
 bd : Mi M z
 len : z.length <= N
theorem SM.rv {M : Int} {N : Nat} {z : List Z} (h : SM M N z) : ∀ x ∈ z, ∀ v ∈ x.1, RV v := fun x hx => (h.ok x hx).2
theorem SM.rz {M : Int} {N : Nat} {z : List Z} (h : SM M N z) (hM : M <= 1000000) (hN : N <= 400) : zD z = 0 := (jo z).2 ⟨by have := h.len; omega, h.ok, fun x hx => ⟨h.ne x hx, by have := h.bd x hx; omega, by have := h.bd x hx; omega⟩, h.up⟩
theorem SM.of {z : List Z} (h : zD z = 0) : SM 1000000 400 z := by
 have h := (jo z).1 h; exact ⟨h.row, h.up, fun x hx => (h.w x hx).1, fun x hx => (h.w x hx).2, h.len⟩
theorem SM.canon {M : Int} {N : Nat} {z : List Z} (h : xi z) (ok : ZG z) (bd : Mi M z) (len : z.length <= N) : SM M N z := ⟨ok, h.up, h.w, bd, len⟩
theorem PG {l : List Z} {M : Int} {N : Nat} (hl : ZG l) (hb : ∀ q, -M <= xe l q /\ xe l q <= M) (hn : l.length <= N) (hM : M <= 1000000) (hN : N <= 400) : yZ l = (yC l, 0) /\ xi (yC l) /\ SM M N (yC l) /\ ∀ q, xe (yC l) q = xe l q := by
 have h := qe l (fun x hx => (hl x hx).2)
 have hb2 : Mi M (yC l) := fun y hy => by
  have := JD h.1 y hy; rw [h.2] at this; have := hb y.1; omega
 have hlen := xv l; exact ⟨Cu u4_ (fun y hy => by have := hb2 y hy; omega), h.1, SM.canon h.1 (Ls hl) hb2 u4_, h.2⟩
theorem Rk {a : List Z} {M : Int} {N : Nat} (ha : SM M N a) {f : Int -> Int} (f0 : f 0 = 0) (fb : ∀ n, -M <= n -> n <= M -> -M <= f n /\ f n <= M) (hM : M <= 1000000) (hN : N <= 400) :
  ∃ s, yA f a = (s, 0) /\ xi s /\ SM M N s /\ ∀ q, xe s q = f (xe a q) := by
 have hc := j4 (f := f) ha.rv ha.up; refine ⟨yz f a, ?_, hc, SM.canon hc (Wx ha.ok f) (fun y hy => ?_) ?_, fun q => ?_⟩
 ·unfold yA; rw [if_neg (by rw [ha.rz hM hN]; simp)]
 ·obtain ⟨⟨x, hx, rfl⟩, _⟩ := qR hy; have := ha.bd x hx; exact fb _ this.1 this.2
 ·have h1 : (yz f a).length <= (a.map (fun x => (zj x.1, f x.2))).length := List.length_filter_le _ _; have := ha.len; simp at h1; omega
 ·rw [LU, F1 f0 ha.rv ha.up]
def Gt (at' : Int) (i : Nat) (x : I) : List I := if (i : Int) = at' /\ 1 < x.w then [⟨x.A, x.row, x.cap, x.w - 1⟩, ⟨x.A, x.row, x.cap, 1⟩] else [x]
def bk (at' : Int) : Nat -> List I -> List I
 | _, [] => []
 | i, x :: l => bk at' (i + 1) l ++ Gt at' i x
def xh (n : Int) : Int := if n < 0 then 0 else n
def Xz (n : Int) : Int := if 0 < n then 1 else 0
theorem Ez {a : List Z} {M : Int} {N : Nat} (ha : SM M N a) (hM : M <= 1000000) (hN : N <= 400) : ∃ s, yA (fun n => -n) a = (s, 0) /\ xi s /\ SM M N s /\ ∀ q, xe s q = -(xe a q) :=
 Rk ha rfl (fun n h1 h2 => by omega) hM hN
