/-
 Joined texts of this claim: Zs6, Zs10, Zs8, Zp, Zq. What each proves its own head says; no condition beside those that each theorem names.
-/
import Derived.Test.YtcaedcpjdmlilaaGreatGH
import Derived.Deep.DeepCutAuto
set_option maxRecDepth 100000
set_option maxHeartbeats 8000000
namespace Go.Proofs.YtcaedcpjdmlilaaGreat
open Go.RowKit Go.Calm
set_option linter.unusedSimpArgs false
set_option linter.unusedVariables false
theorem Kz (xs : List I) (A : Option Addr) (c : Nat) (w : World) (hlen : xs.length <= 9223372036854775807) (hz : xF w A xs) (hl : ∀ x ∈ xs, x.row.length <= 9223372036854775807) (R : Int) (hR : zu (xs.map zj) = R) :
  Calls Tryz.prog 95 #[.slice A xs.length c] w fun en w' => en = .returned (.int .i64 R) /\ za w w' := by
 have HR := Lib.hid hR; have Hz := Lib.hid hz; have Hl := Lib.hid hl; clear hz hR hl; go_enter Tryz.func95, Tryz.ntmps95
 by_cases h8 : 400 < xs.length
 ·have d8 : decide ((400 : Int) < (xs.length : Int)) = true := by simp; omega
  go_wp2; go_ret; exact zA (by rw [<- HR.out]; unfold zu; rw [if_pos (by simpa using h8)]) (za.refl _)
 ·have d8 : decide ((400 : Int) < (xs.length : Int)) = false := by simp; omega
  have inv0 : En (Yi xs 0) ((xs.drop 0).map zj) = R := by rw [<- HR.out]; unfold zu; rw [if_neg (by simpa using h8), List.drop_zero]; rfl
  have Inv0 := Lib.hid inv0; clear inv0; go_wp2
  go_loopw [11] (fun i wr => ∃ k : Nat, k <= xs.length /\ i = .int .i64 k /\ En (Yi xs k) ((xs.drop k).map zj) = R /\ za w wr) (fun i _ => xs.length - (intOf i).toNat)
  case atStart => exact ⟨0, Nat.zero_le _, rfl, Inv0.out, za.refl _⟩
  case round =>
   obtain ⟨k, hk, rfl, hinv, hg⟩ := hrel; have jd := Lib.hid hinv; clear hinv
   by_cases hlt : k < xs.length
   ·obtain ⟨x, hxk⟩ : ∃ x, xs[k]? = some x := ⟨_, List.getElem?_eq_getElem hlt⟩
    obtain ⟨gx, ox, rfl, c1, c2, hxv⟩ := (Hz.out.grow hg) k x hxk; have hlx := Hl.out x (List.mem_of_getElem? hxk); have inv2 := (zbn hxk).symm.trans jd.out; have Inv2 := Lib.hid inv2; have Hxk := Lib.hid hxk; have Hxv := Lib.hid hxv; have cb := fun W (h : za wr W) (R : Int) (hR : QH x.row = R) => F9 x.row x.A x.cap W hlx (Hxv.out.grow h) R hR
    obtain ⟨rx, hrx⟩ : ∃ r, QH x.row = r := ⟨_, rfl⟩
    rw [hrx] at inv2; have Inv2 := Lib.hid inv2; clear inv2 hxk hxv; go_upto_region 6 with fail
    refine zc (fun X => zb X wr.heap.size 62 #[.slice x.A x.row.length x.cap, .int .i64 x.w] /\ za wr X) ⟨zb.new _ _ _, (za.refl wr).al _⟩ ?_; rintro X ⟨Bx, G⟩; obtain ⟨bx, fx⟩ := Bx.rules
    by_cases hw : rx = 0
    ·have dw : (rx != 0) = false := by simpa using hw
     rw [if_neg (by simpa using hw)] at Inv2; go_upto_region 9 with (go_at_call 133; ((with_reducible refine (cb _ G rx hrx).mono ?_); rintro e w2 ⟨rfl, hg2⟩; have Bx2 := Lib.hid (Bx.grow hg2))); obtain ⟨bx2, fx2⟩ := Bx2.out.rules; have G2 := G.trans hg2
     by_cases h0 : x.w = 0
     ·have d0 : (x.w == 0) = true := by simpa using h0
      go_wp2; go_ret; exact zA (by have := Inv2.out; rw [if_pos (.inl h0)] at this; exact this) (hg.trans G2)
     ·have d0 : (x.w == 0) = false := by simpa using h0
      by_cases h1 : jk x.w = true
      ·go_wp2_with (go_at_call 134; ((with_reducible refine (ZO _ _).mono ?_); rintro e w3 ⟨rfl, rfl⟩; rw [h1]))
       go_ret; exact zA (by have := Inv2.out; rw [if_pos (.inr h1)] at this; exact this) (hg.trans G2)
      ·have h1' : jk x.w = false := by simpa using h1
       have inv3 := Inv2.out; rw [if_neg (by simp [h0, h1'])] at inv3; have Inv3 := Lib.hid inv3; clear inv3 Inv2; go_upto_region 11 with (go_at_call 134; ((with_reducible refine (ZO _ _).mono ?_); rintro e w3 ⟨rfl, rfl⟩; rw [h1'])); cases k with
       | zero =>
        have e : R = En (Yi xs 1) ((xs.drop 1).map zj) := by have := Inv3.out; simpa [Yi, NH] using this.symm
        have E := Lib.hid e; clear e; apply wp_region_calm 15 (by kernel_rfl) (by kernel_rfl)
        case h' =>
         intro Q0 hQ0; simp only [List.take_succ_cons, List.take_zero]
         repeat ((first | ((first | apply calm_p rfl | apply zg rfl rfl rfl); case h1 => (intro w1 hw1 hF K hK; obtain ⟨bx, fx⟩ := (zb.grow Bx2.out hw1).rules; go_simp; first | exact hK _ (za.refl _))) | apply ze rfl rfl rfl rfl); intro K hK; go_simp; apply hK; clear hK K)
         refine calm_nil ?_; intro w1 hw1 hF; apply hQ0; clear hQ0; simp only [List.drop_succ_cons, List.drop_zero]; clear hF; go_wp2; go_roundw
         case rel => exact ⟨1, by omega, rfl, E.out.symm, hg.trans (G2.trans hw1)⟩
         case measure => simp [intOf]; omega
        case hp' => trivial
       | succ j =>
        obtain ⟨y, hyk⟩ : ∃ y, xs[j]? = some y := ⟨_, List.getElem?_eq_getElem (by omega)⟩
        obtain ⟨gy, oy, ey, cy1, cy2, hyv⟩ := (Hz.out.grow hg) j y hyk; cases ey; have hly := Hl.out y (List.mem_of_getElem? hyk); obtain ⟨cr, hcr⟩ : ∃ r, zB x7 y.row x.row = r := ⟨_, rfl⟩
        have cc := fun W (h : za wr W) => qH y.row x.row y.A x.A y.cap x.cap W hly hlx (hyv.grow h) (Hxv.out.grow h)
        rw [hcr] at cc; have inv4 := Inv3.out; rw [show NH (Yi xs (j + 1)) x.row = decide (0 <= cr) by unfold Yi; rw [if_neg (by omega), Nat.add_sub_cancel, hyk, <- hcr]; first | done | rfl] at inv4; have Inv4 := Lib.hid inv4; have Hy := Lib.hid (show wr.cell? ⟨gx, ox + j * 2, none⟩ = some (.slice y.A y.row.length y.cap) from cy1); have p0 : (0 : Int) < (j : Int) + 1 := by omega
        have dj : decide ((0 : Int) < (j : Int) + 1) = true := decide_eq_true (by omega); have hwp : IntKind.i64.wrap (j : Int) = (j : Int) := by rw [IntKind.wrap_i64]; omega
        have jz1 : (j : Int) < (xs.length : Int) := by omega
        have jz3 : j < xs.length := by omega
        clear inv4 Inv3 hyk cy1 cy2 hyv hcr c1 c2; apply wp_region_calm 15 (by kernel_rfl) (by kernel_rfl)
        case h' =>
         intro Q0 hQ0; simp only [List.take_succ_cons, List.take_zero]
         repeat ((first | ((first | apply calm_p rfl | apply zg rfl rfl rfl); case h1 => (intro w1 hw1 hF K hK; obtain ⟨bx, fx⟩ := (zb.grow Bx2.out hw1).rules; have cy1 := (G2.trans hw1).cell Hy.out; go_simp; first | exact hK _ (za.refl _) | (go_at_call 85; ((with_reducible refine (cc _ (G2.trans hw1)).mono ?_); rintro e w' ⟨rfl, hg⟩; exact ⟨_, rfl, hK _ hg⟩)))) | apply ze rfl rfl rfl rfl); intro K hK; go_simp; apply hK; clear hK K)
         refine calm_nil ?_; intro w1 hw1 hF; apply hQ0; clear hQ0; simp only [List.drop_succ_cons, List.drop_zero]; clear hF
         by_cases hc : 0 <= cr
         ·have dc : decide (0 <= cr) = true := by simpa using hc
          simp only [dc]; go_wp2; go_ret; exact zA (by have := Inv4.out; rw [if_pos dc] at this; exact this) (hg.trans (G2.trans hw1))
         ·have dc : decide (0 <= cr) = false := by simpa using hc
          simp only [dc]; go_wp2; go_roundw
          case rel => exact ⟨j + 2, by omega, by go_num, by have := Inv4.out; rw [if_neg (by simp [dc])] at this; exact this, hg.trans (G2.trans hw1)⟩
          case measure => simp [intOf]; omega
        case hp' => trivial
    ·have dw : (rx != 0) = true := by simpa using hw
     go_wp2_with (go_at_call 133; ((with_reducible refine (cb _ G rx hrx).mono ?_); rintro e w2 ⟨rfl, hg2⟩))
     go_ret; exact zA (by have := Inv2.out; rw [if_pos hw] at this; exact this) (hg.trans (G.trans hg2))
   ·obtain rfl : k = xs.length := by omega
    have fin : R = 0 := by have := jd.out; rw [List.drop_length] at this; exact this.symm
    go_wp2; go_ret; exact zA fin.symm hg
abbrev zbK : Value := .func (.func 136) #[] #[]
theorem zau (x : I) (w : World) : Calls Tryz.prog 136 #[x.val] w fun e w' => e = .returned (.bool (jk x.w)) /\ za w w' := by
 unfold I.val; go_enter Tryz.func136, Tryz.ntmps136
 go_wp2_with (go_at_call 134; ((with_reducible refine (ZO _ _).mono ?_); rintro e w3 ⟨rfl, rfl⟩))
 go_ret; exact xA (by simp) (by with_reducible repeat (first | exact za.refl _ | assumption | refine za.set ?_ (by simp <;> omega) _ | refine za.al ?_ _ | refine za.drew ?_ | refine za.drewN ?_ _ | refine za.trans ?_ (by assumption)))
theorem UO (xs : List I) (A : Option Addr) (c : Nat) (w : World) (hlen : xs.length <= 9223372036854775807) (hz : xF w A xs) :
  Calls Tryz.prog 99 #[.slice A xs.length c, zbK] w fun en w' => (∃ i : Int, en = .returned (.int .i64 i) /\ decide (0 <= i) = (xs.map zj).any (fun x => jk x.2)) /\ za w w' := by
 have Hz := Lib.hid hz; clear hz; go_enter Tryz.func99, Tryz.ntmps99; go_wp2
 go_loopw [8] (fun i wr => ∃ k : Nat, k <= xs.length /\ i = .int .i64 k /\ ((xs.drop k).map zj).any (fun x => jk x.2) = (xs.map zj).any (fun x => jk x.2) /\ za w wr) (fun i _ => xs.length - (intOf i).toNat)
 case atStart => exact ⟨0, Nat.zero_le _, rfl, rfl, za.refl _⟩
 case round =>
  obtain ⟨k, hk, rfl, hinv, hg⟩ := hrel; have jd := Lib.hid hinv; clear hinv
  by_cases hlt : k < xs.length
  ·obtain ⟨x, hxk⟩ : ∃ x, xs[k]? = some x := ⟨_, List.getElem?_eq_getElem hlt⟩
   obtain ⟨gx, ox, rfl, c1, c2, hxv⟩ := (Hz.out.grow hg) k x hxk; have inv2 := (zal hxk).symm.trans jd.out; have Inv2 := Lib.hid inv2; obtain ⟨b, hb⟩ : ∃ b, jk x.w = b := ⟨_, rfl⟩
   have cc := fun W => zau x W
   rw [hb] at cc; have Hb := Lib.hid hb; clear inv2 hxk hxv hb; cases b with
   | true =>
    go_wp2_with (go_at_call 136; ((with_reducible refine (cc _).mono ?_); rintro e w3 ⟨rfl, hg3⟩))
    go_ret; exact ⟨⟨_, rfl, by have := Inv2.out; rw [Hb.out, Bool.true_or] at this; rw [<- this]; simp⟩, hg.trans hg3⟩
   | false =>
    go_wp2_with (go_at_call 136; ((with_reducible refine (cc _).mono ?_); rintro e w3 ⟨rfl, hg3⟩))
    go_roundw
    case rel => exact ⟨k + 1, by omega, by go_num, by have := Inv2.out; rw [Hb.out, Bool.false_or] at this; exact this, hg.trans hg3⟩
    case measure => simp [intOf]; omega
  ·obtain rfl : k = xs.length := by omega
   go_wp2; go_ret; exact ⟨⟨_, rfl, by have := jd.out; rw [List.drop_length] at this; rw [<- this]; rfl⟩, hg⟩
theorem Mx (xs : List I) (A : Option Addr) (c : Nat) (w : World) (hlen : xs.length <= 9223372036854775807) (hz : xF w A xs) :
  Calls Tryz.prog 135 #[.slice A xs.length c, zbK] w fun en w' => en = .returned (.bool ((xs.map zj).any (fun x => jk x.2))) /\ za w w' := by
 have cs := UO xs A c w hlen hz; have Hz := Lib.hid hz; clear hz; go_enter Tryz.func135, Tryz.ntmps135
 go_wp2_with (go_at_call 99; ((with_reducible refine cs.mono ?_); rintro en w2 ⟨⟨i, rfl, hi⟩, hg2⟩; have Hi := Lib.hid hi; clear hi))
 go_ret; exact xA Hi.out hg2
theorem E7 (xs : List I) (A : Option Addr) (c : Nat) (w : World) (hlen : xs.length <= 9223372036854775807) (hz : xF w A xs) (hok : yw A xs.length c) :
  Calls Tryz.prog 96 #[.slice A xs.length c] w fun en w' => yu w w' en (Qb (xs.map zj)) := by
 have cs := Mx xs A c w hlen hz; have Hz := Lib.hid hz; obtain ⟨b, hb⟩ : ∃ b, (xs.map zj).any (fun x => jk x.2) = b := ⟨_, rfl⟩
 rw [hb] at cs; have Hb := Lib.hid hb; clear hz hb; go_enter Tryz.func96, Tryz.ntmps96; cases b with
 | true =>
  go_wp2_with (go_at_call 135; ((with_reducible refine cs.mono ?_); rintro en w2 ⟨rfl, hg2⟩))
  refine bodyPost_ret (by simp [results, Tryz.results96, go_sem] <;> rfl) rfl ?_; exact ⟨none, [], 0, by unfold Qb; rw [if_pos Hb.out]; rfl, yd _ _, by unfold Qb; rw [if_pos Hb.out]; rfl, yw.nil, hg2⟩
 | false =>
  by_cases h4 : 400 < xs.length
  ·have d4 : decide ((400 : Int) < (xs.length : Int)) = true := decide_eq_true (by omega)
   go_wp2_with (go_at_call 135; ((with_reducible refine cs.mono ?_); rintro en w2 ⟨rfl, hg2⟩))
   refine bodyPost_ret (by simp [results, Tryz.results96, go_sem] <;> rfl) rfl ?_; exact ⟨none, [], 0, by unfold Qb; rw [if_neg (by rw [Hb.out]; simp), if_pos (by simpa using h4)]; rfl, yd _ _, by unfold Qb; rw [if_neg (by rw [Hb.out]; simp), if_pos (by simpa using h4)]; rfl, yw.nil, hg2⟩
  ·have d4 : decide ((400 : Int) < (xs.length : Int)) = false := decide_eq_false (by omega)
   go_wp2_with (go_at_call 135; ((with_reducible refine cs.mono ?_); rintro en w2 ⟨rfl, hg2⟩))
   refine bodyPost_ret (by simp [results, Tryz.results96, go_sem] <;> rfl) rfl ?_; exact ⟨A, xs, c, by unfold Qb; rw [if_neg (by rw [Hb.out]; simp), if_neg (by simpa using h4)], Hz.out.grow hg2, by unfold Qb; rw [if_neg (by rw [Hb.out]; simp), if_neg (by simpa using h4)], hok, hg2⟩
theorem Nm (xs : List I) (A : Option Addr) (c : Nat) (w : World) (hlen : xs.length <= 200000) (hz : xF w A xs) (hrow : ∀ x ∈ xs, x.row.length <= 1000) (hrv : ∀ x ∈ xs, ∀ v ∈ x.row, RV v) (hw : ∀ x ∈ xs, -1000000000000 <= x.w /\ x.w <= 1000000000000) :
  Calls Tryz.prog 52 #[.slice A xs.length c] w fun en w' => yu w w' en (yN (xs.map zj)) := by
 have cs := VF xs A c w hlen hz hrow hrv hw; have Hrv := Lib.hid hrv; have Hlen := Lib.hid hlen; clear hz hrow hrv hw; go_enter Tryz.func52, Tryz.ntmps52
 go_wp2_with (first
  | (go_at_call 97; ((with_reducible refine cs.mono ?_); rintro en w2 ⟨B, ys, cap, rfl, hz2, hcan, hwt, hsok, hg2⟩; have E := Lib.hid (Jg (l := xs.map zj) (fun x hx => by obtain ⟨y, hy, rfl⟩ := List.mem_map.1 hx; exact Hrv.out y hy) hcan hwt); have Hz2 := Lib.hid hz2; have Hsok := Lib.hid hsok; clear hcan hwt hz2 hsok))
  | (go_at_call 96; ((with_reducible refine (E7 ys B cap _ ?lenB Hz2.out Hsok.out).mono ?_); rotate_left; rintro en w3 ⟨C, zs, cap2, rfl, hz3, hm, hk3, hg3⟩; have Fin := Lib.hid (And.intro hz3 (And.intro hm hk3)); clear hz3 hm hk3)))
 ·refine bodyPost_ret (by simp [results, Tryz.results52, go_sem] <;> rfl) rfl ?_; refine ⟨C, zs, cap2, ?_, Fin.out.1, ?_, Fin.out.2.2, hg2.trans hg3⟩
  ·unfold yN; rw [<- E.out]
  ·unfold yN; rw [<- E.out]; exact Fin.out.2.1
 case lenB =>
  have h1 := congrArg List.length E.out; have h2 := Ki (xs.map zj); have h3 := Hlen.out; simp at h1 h2; omega
theorem kF (xs : List I) (A : Option Addr) (c : Nat) (w : World) (hlen : xs.length <= 5000) (hz : xF w A xs) (hrow : ∀ x ∈ xs, x.row.length <= 1000) (hrv : ∀ x ∈ xs, ∀ v ∈ x.row, RV v) (hw : ∀ x ∈ xs, -1000000 <= x.w /\ x.w <= 1000000) :
  Calls Tryz.prog 52 #[.slice A xs.length c] w fun en w' => yu w w' en (yN (xs.map zj)) :=
 Nm xs A c w (by omega) hz hrow hrv (fun x hx => by have := hw x hx; omega)
theorem Du (k n : Int) (s : ByteArray) (k' n' : Int) (s' : ByteArray) (w : World) :
  (binOp .neq 24 (.agg #[.int .i64 k, .int .i64 n, .string s]) (.agg #[.int .i64 k', .int .i64 n', .string s'])).run Tryz.prog w = .ok (.bool (!E5 ⟨k, n, s⟩ ⟨k', n', s'⟩)) w := by
 have h := Dt k n s k' n' s' w; have e1 : binOp .eql 24 (.agg #[.int .i64 k, .int .i64 n, .string s]) (.agg #[.int .i64 k', .int .i64 n', .string s']) = (do return .bool (<- Op.equal 24 (.agg #[.int .i64 k, .int .i64 n, .string s]) (.agg #[.int .i64 k', .int .i64 n', .string s']))) := rfl; have e2 : binOp .neq 24 (.agg #[.int .i64 k, .int .i64 n, .string s]) (.agg #[.int .i64 k', .int .i64 n', .string s']) = (do return .bool (!(<- Op.equal 24 (.agg #[.int .i64 k, .int .i64 n, .string s]) (.agg #[.int .i64 k', .int .i64 n', .string s'])))) := rfl; rw [e1, Sem.run_bind] at h; rw [e2, Sem.run_bind]
 revert h
 generalize (Op.equal 24 (.agg #[.int .i64 k, .int .i64 n, .string s]) (.agg #[.int .i64 k', .int .i64 n', .string s'])).run Tryz.prog w = r; intro h; cases r with
 | ok b w2 =>
  simp only [Result.andThen_ok, Sem.run_pure, Result.ok.injEq, Value.bool.injEq] at h ⊢; exact ⟨by rw [h.1], h.2⟩
 | _ => simp [Result.andThen] at h
def XN : List Z -> List Z -> Bool
 | [], [] => true
 | x :: l, y :: m => decide (x.2 = y.2) && (decide (x.1 = y.1) && XN l m)
 | _, _ => false
theorem We : ∀ a b : List Z, XN a b = true ↔ a = b
 | [], [] => by simp [XN]
 | [], y :: m => by simp [XN]
 | x :: l, [] => by simp [XN]
 | x :: l, y :: m => by
  have ih := We l m; unfold XN; simp only [Bool.and_eq_true, decide_eq_true_eq, ih, List.cons.injEq]; exact ⟨fun ⟨a, b, c⟩ => ⟨Prod.ext b a, c⟩, fun ⟨a, c⟩ => ⟨by rw [a], by rw [a], c⟩⟩
def kC : List V -> List V -> Bool
 | [], [] => true
 | x :: l, y :: m => E5 x y && kC l m
 | _, _ => false
theorem Wf : ∀ a b : List V, kC a b = true ↔ a = b
 | [], [] => by simp [kC]
 | [], y :: m => by simp [kC]
 | x :: l, [] => by simp [kC]
 | x :: l, y :: m => by
  have ih := Wf l m; have h := Tr x y; unfold kC; rw [Bool.and_eq_true, ih, h, List.cons.injEq]
theorem Dx {a b : List V} {k : Nat} {x y : V} (hx : a[k]? = some x) (hy : b[k]? = some y) : kC (a.drop k) (b.drop k) = (E5 x y && kC (a.drop (k + 1)) (b.drop (k + 1))) := by
 obtain ⟨h1, e1⟩ := List.getElem?_eq_some_iff.1 hx; obtain ⟨h2, e2⟩ := List.getElem?_eq_some_iff.1 hy; rw [List.drop_eq_getElem_cons h1, List.drop_eq_getElem_cons h2, e1, e2]; rfl
theorem Dv {a b : List I} {k : Nat} {x y : I} (hx : a[k]? = some x) (hy : b[k]? = some y) : XN ((a.drop k).map zj) ((b.drop k).map zj) = (decide (x.w = y.w) && (kC x.row y.row && XN ((a.drop (k + 1)).map zj) ((b.drop (k + 1)).map zj))) := by
 obtain ⟨h1, e1⟩ := List.getElem?_eq_some_iff.1 hx; obtain ⟨h2, e2⟩ := List.getElem?_eq_some_iff.1 hy; rw [List.drop_eq_getElem_cons h1, List.drop_eq_getElem_cons h2, e1, e2]; have : kC x.row y.row = decide (x.row = y.row) := by rw [Bool.eq_iff_iff, Wf]; simp
 rw [this]; rfl
theorem Vq {a b : List V} (h : a.length ≠ b.length) : kC a b = false := by
 cases hs : kC a b with
 | false => rfl
 | true => rw [(Wf a b).1 hs] at h; exact absurd rfl h
theorem Dy (xs ys : List I) (A B : Option Addr) (c d : Nat) (w : World) (hlx : xs.length <= 9223372036854775807) (hly : ys.length <= 9223372036854775807) (hx : xF w A xs) (hy : xF w B ys) (lx : ∀ x ∈ xs, x.row.length <= 9223372036854775807) (ly : ∀ x ∈ ys, x.row.length <= 9223372036854775807) (R : Bool) (hR : XN (xs.map zj) (ys.map zj) = R) :
  Calls Tryz.prog 16 #[.slice A xs.length c, .slice B ys.length d] w fun en w' => en = .returned (.bool R) /\ za w w' := by
 have hneq := Du; have HR := Lib.hid hR; have Hx := Lib.hid hx; have Hy := Lib.hid hy; have Lx := Lib.hid lx; have Ly := Lib.hid ly; clear hx hy lx ly hR; go_enter Tryz.func16, Tryz.ntmps16
 by_cases hl : xs.length = ys.length
 ·have d0 : ((xs.length : Int) != (ys.length : Int)) = false := by simp; omega
  have HL := Lib.hid hl; clear hl; go_wp2
  go_loopw [14] (fun i wr => ∃ k : Nat, k <= xs.length /\ i = .int .i64 k /\ XN ((xs.drop k).map zj) ((ys.drop k).map zj) = R /\ za w wr) (fun i _ => xs.length - (intOf i).toNat)
  case atStart => exact ⟨0, Nat.zero_le _, rfl, by simpa using HR.out, za.refl _⟩
  case round =>
   obtain ⟨k, hk, rfl, hinv, hg⟩ := hrel; have jd := Lib.hid hinv; clear hinv
   by_cases hlt : k < xs.length
   ·obtain ⟨x, hxk⟩ : ∃ x, xs[k]? = some x := ⟨_, List.getElem?_eq_getElem hlt⟩
    have hlt2 : k < ys.length := by have := HL.out; omega
    obtain ⟨y, hyk⟩ : ∃ y, ys[k]? = some y := ⟨_, List.getElem?_eq_getElem hlt2⟩
    obtain ⟨gx, ox, rfl, cx1, cx2, hxv⟩ := (Hx.out.grow hg) k x hxk; obtain ⟨gy, oy, rfl, cy1, cy2, hyv⟩ := (Hy.out.grow hg) k y hyk; have hlx' := Lx.out x (List.mem_of_getElem? hxk); have hly' := Ly.out y (List.mem_of_getElem? hyk); have inv2 := (Dv hxk hyk).symm.trans jd.out; have Inv2 := Lib.hid inv2; have Cx := Lib.hid (And.intro cx1 cx2); have Cy := Lib.hid (And.intro cy1 cy2); have Hxv := Lib.hid hxv; have Hyv := Lib.hid hyv; have b0 : (0 : Int) <= (k : Int) := by omega
    have b1 : (k : Int) < (ys.length : Int) := by omega
    have b2 : (k : Int) < (xs.length : Int) := by omega
    clear inv2 hxk hyk cx1 cx2 cy1 cy2 hxv hyv
    by_cases hw : x.w = y.w
    ·have dw : (x.w != y.w) = false := by simpa using hw
     by_cases hr : x.row.length = y.row.length
     ·have dr : ((x.row.length : Int) != (y.row.length : Int)) = false := by simp; omega
      have HLR := Lib.hid hr; have inv3 := Inv2.out; rw [decide_eq_true hw, Bool.true_and] at inv3; have Inv3 := Lib.hid inv3; clear inv3 Inv2 hr hw; go_wp2; apply wp_region_calm 26 (by kernel_rfl) (by kernel_rfl)
      case h' =>
       intro Q0 hQ0; simp only [List.take_succ_cons, List.take_zero]
       repeat ((first | ((first | apply calm_p rfl | apply zg rfl rfl rfl); case h1 => (intro w1 hw1 hF K hK; obtain ⟨cx1, cx2⟩ := And.intro (hw1.cell Cx.out.1) (hw1.cell Cx.out.2); obtain ⟨cy1, cy2⟩ := And.intro (hw1.cell Cy.out.1) (hw1.cell Cy.out.2); go_simp; first | exact hK _ (za.refl _))) | apply ze rfl rfl rfl rfl); intro K hK; go_simp; apply hK; clear hK K)
       refine calm_nil ?_; intro w1 hw1 hF; apply hQ0; clear hQ0; simp only [List.drop_succ_cons, List.drop_zero]; clear hF; have cx1 := hw1.cell Cx.out.1; have cy1 := hw1.cell Cy.out.1; have G1 := hg.trans hw1; rename World => w3
       go_wp2
       go_loopw [49] (fun i wq => ∃ j : Nat, j <= x.row.length /\ i = .int .i64 j /\ (kC (x.row.drop j) (y.row.drop j) && XN ((xs.drop (k + 1)).map zj) ((ys.drop (k + 1)).map zj)) = R /\ za w3 wq) (fun i _ => x.row.length - (intOf i).toNat)
       case atStart => exact ⟨0, Nat.zero_le _, rfl, by simpa using Inv3.out, za.refl _⟩
       case round =>
        obtain ⟨j, hj, rfl, hjinv, hg4⟩ := hrel; have Jinv := Lib.hid hjinv; clear hjinv; have cx1' := hg4.cell cx1; have cy1' := hg4.cell cy1
        by_cases hjl : j < x.row.length
        ·have hjl2 : j < y.row.length := by have := HLR.out; omega
         obtain ⟨u, huk⟩ : ∃ u, x.row[j]? = some u := ⟨_, List.getElem?_eq_getElem hjl⟩
         obtain ⟨v, hvk⟩ : ∃ v, y.row[j]? = some v := ⟨_, List.getElem?_eq_getElem hjl2⟩
         obtain ⟨gu, ou, eu, hu⟩ := (Hxv.out.grow (hw1.trans hg4)) j u huk; obtain ⟨gv, ov, ev, hv⟩ := (Hyv.out.grow (hw1.trans hg4)) j v hvk; have j2 := (Dx huk hvk)
         have j3 := Jinv.out; rw [j2] at j3; have J3 := Lib.hid j3; rw [eu] at cx1'; rw [ev] at cy1'; have Cx1 := Lib.hid cx1'; have Cy1 := Lib.hid cy1'; have Hu := Lib.hid hu; have Hv := Lib.hid hv; have q0 : (0 : Int) <= (j : Int) := by omega
         have q1 : (j : Int) < (y.row.length : Int) := by omega
         have q2 : (j : Int) < (x.row.length : Int) := by omega
         clear j2 j3 cx1' cy1' hu hv huk hvk Jinv eu ev cx1 cy1; go_wp2; apply wp_region_calm 17 (by kernel_rfl) (by kernel_rfl)
         case h' =>
          intro Q0 hQ0; simp only [List.take_succ_cons, List.take_zero]
          repeat ((first | ((first | apply calm_p rfl | apply zg rfl rfl rfl); case h1 => (intro w1 hw1 hF K hK; have cx1 := hw1.cell Cx1.out; have cy1 := hw1.cell Cy1.out; obtain ⟨a1, a2, a3⟩ := Hu.out.grow hw1; obtain ⟨d1, d2, d3⟩ := Hv.out.grow hw1; go_simp; first | exact hK _ (za.refl _))) | apply ze rfl rfl rfl rfl); intro K hK; go_simp; apply hK; clear hK K)
          refine calm_nil ?_; intro w1 hw1 hF; apply hQ0; clear hQ0; simp only [List.drop_succ_cons, List.drop_zero]; clear hF
          by_cases he : E5 u v = true
          ·simp only [V.eta, he, Bool.not_true]; go_wp2; go_roundw
           case rel => exact ⟨j + 1, by omega, by go_num, by have := J3.out; rw [he, Bool.true_and] at this; exact this, hg4.trans hw1⟩
           case measure => simp [intOf]; omega
          ·have he' : E5 u v = false := by simpa using he
           simp only [V.eta, he', Bool.not_false]; go_wp2; go_ret; exact xA (by have := J3.out; rw [he', Bool.false_and, Bool.false_and] at this; exact this) (G1.trans (hg4.trans hw1))
         case hp' => trivial
        ·obtain rfl : j = x.row.length := by omega
         have j3 := Jinv.out; rw [List.drop_length, HLR.out, List.drop_length] at j3; have J3 := Lib.hid j3; clear j3; go_wp2; go_roundw
         case rel => exact ⟨k + 1, by omega, by go_num, by have := J3.out; simpa [kC] using this, G1.trans hg4⟩
         case measure => simp [intOf]; omega
      case hp' => trivial
     ·have dr : ((x.row.length : Int) != (y.row.length : Int)) = true := by simp; omega
      have fin : R = false := by have := Inv2.out; rw [Vq hr] at this; simpa using this.symm
      clear hr; go_wp2; apply wp_region_calm 26 (by kernel_rfl) (by kernel_rfl)
      case h' =>
       intro Q0 hQ0; simp only [List.take_succ_cons, List.take_zero]
       repeat ((first | ((first | apply calm_p rfl | apply zg rfl rfl rfl); case h1 => (intro w1 hw1 hF K hK; obtain ⟨cx1, cx2⟩ := And.intro (hw1.cell Cx.out.1) (hw1.cell Cx.out.2); obtain ⟨cy1, cy2⟩ := And.intro (hw1.cell Cy.out.1) (hw1.cell Cy.out.2); go_simp; first | exact hK _ (za.refl _))) | apply ze rfl rfl rfl rfl); intro K hK; go_simp; apply hK; clear hK K)
       refine calm_nil ?_; intro w1 hw1 hF; apply hQ0; clear hQ0; simp only [List.drop_succ_cons, List.drop_zero]; clear hF; go_wp2; go_ret; exact xA fin.symm (hg.trans hw1)
      case hp' => trivial
    ·have dw : (x.w != y.w) = true := by simpa using hw
     have fin : R = false := by have := Inv2.out; rw [decide_eq_false hw] at this; simpa using this.symm
     go_wp2; apply wp_region_calm 26 (by kernel_rfl) (by kernel_rfl)
     case h' =>
      intro Q0 hQ0; simp only [List.take_succ_cons, List.take_zero]
      repeat ((first | ((first | apply calm_p rfl | apply zg rfl rfl rfl); case h1 => (intro w1 hw1 hF K hK; obtain ⟨cx1, cx2⟩ := And.intro (hw1.cell Cx.out.1) (hw1.cell Cx.out.2); obtain ⟨cy1, cy2⟩ := And.intro (hw1.cell Cy.out.1) (hw1.cell Cy.out.2); go_simp; first | exact hK _ (za.refl _))) | apply ze rfl rfl rfl rfl); intro K hK; go_simp; apply hK; clear hK K)
      refine calm_nil ?_; intro w1 hw1 hF; apply hQ0; clear hQ0; simp only [List.drop_succ_cons, List.drop_zero]; clear hF; go_wp2; go_ret; exact xA fin.symm (hg.trans hw1)
     case hp' => trivial
   ·obtain rfl : k = xs.length := by omega
    have fin : R = true := by have := jd.out; rw [List.drop_length, HL.out, List.drop_length] at this; exact this.symm
    go_wp2; go_ret; exact xA fin.symm hg
 ·have d0 : ((xs.length : Int) != (ys.length : Int)) = true := by simp; omega
  have fin : R = false := by
   rw [<- HR.out]; cases hs : XN (xs.map zj) (ys.map zj) with
   | false => rfl
   | true => have := congrArg List.length ((We _ _).1 hs); simp at this; exact absurd this hl
  go_wp2; go_ret; exact xA fin.symm (za.refl _)
def xl (t : Int) (l : List Z) : List Z := l.map (fun x => (x.1, t * x.2))
theorem QS (t : Int) : ∀ (l : List Z) (q : List V), yi (xl t l) q = t * yi l q
 | [], q => by simp [xl, qR]
 | x :: l, q => by
  have ih := QS t l q; show yi ((x.1, t * x.2) :: xl t l) q = _; rw [zm, zm, ih, Int.mul_add]; split <;> simp
theorem Vr (l : List Z) : xl 1 l = l := by simp [xl]
def yI (a b : List Z) (t : Int) : List Z × Int := if zu a ≠ 0 then ([], zu a) else if zu b ≠ 0 then ([], zu b) else yN (a ++ xl t b)
def yq (f : Int -> Int) (z : List Z) : List Z := (z.map (fun x => (zd x.1, f x.2))).filter (fun x => decide (x.2 ≠ 0))
def zP (f : Int -> Int) (z : List Z) : List Z × Int := if zu z ≠ 0 then ([], zu z) else (yq f z, 0)
theorem x8 {f : Int -> Int} {z : List Z} {y : Z} (h : y ∈ yq f z) : (∃ x ∈ z, y = (zd x.1, f x.2)) /\ y.2 ≠ 0 := by
 obtain ⟨h1, h2⟩ := List.mem_filter.1 h; obtain ⟨x, hx, rfl⟩ := List.mem_map.1 h1; exact ⟨⟨x, hx, rfl⟩, by simpa using h2⟩
theorem Ws {f : Int -> Int} {z : List Z} (hr : ∀ x ∈ z, ∀ v ∈ x.1, RV v) (hu : z.Pairwise (fun x y => zG x.1 y.1 < 0)) : yp (yq f z) := by
 refine ⟨?_, fun y hy => ?_, fun y hy => ?_, fun y hy => (x8 hy).2⟩
 ·unfold yq; refine List.Pairwise.filter _ (List.pairwise_map.2 (hu.imp_of_mem fun {x y} hx hy hxy => ?_)); exact XA (J7 (J6 (hr x hx)) hxy) (YO (hr y hy))
 ·obtain ⟨⟨x, hx, rfl⟩, _⟩ := x8 hy; exact qq (hr x hx)
 ·obtain ⟨⟨x, hx, rfl⟩, _⟩ := x8 hy; exact yA _
theorem T3 : ∀ (l : List Z) (q : List V), yi (l.filter (fun x => decide (x.2 ≠ 0))) q = yi l q
 | [], q => rfl
 | x :: l, q => by
  have ih := T3 l q; rw [List.filter_cons, zm]; split
  ·rw [zm, ih]
  ·rename_i h; have h : x.2 = 0 := by simpa using h
   rw [ih, h]; simp
theorem Rj (f : Int -> Int) : ∀ (l : List Z) (q : List V), yi (l.map (fun x => (zd x.1, f x.2))) q = yi (l.map (fun x => (x.1, f x.2))) q
 | [], q => rfl
 | x :: l, q => by
  rw [List.map_cons, List.map_cons, zm, zm, Rj f l q]; simp only [yA]
theorem T2 (f : Int -> Int) (l : List Z) (q : List V) : yi (yq f l) q = yi (l.map (fun x => (x.1, f x.2))) q := by
 unfold yq; rw [T3, Rj]
theorem Jl : ∀ {z : List Z} {x : Z} (hx : ∀ v ∈ x.1, RV v) (hz : ∀ y ∈ z, ∀ v ∈ y.1, RV v) (h : ∀ y ∈ z, zG x.1 y.1 < 0) {q : List V} (hq : zd x.1 = zd q), yi z q = 0
 | [], x, _, _, _, q, _ => rfl
 | y :: z, x, hx, hz, h, q, hq => by
  rw [zm, Jl hx (fun y hy => hz y (by simp [hy])) (fun y hy => h y (by simp [hy])) hq, if_neg]
  ·rfl
  ·intro e; have h1 := h y (by simp); have h2 := (yE x.1 y.1 hx (hz y (by simp))).2 (hq.trans e.symm); omega
theorem zb0 {f : Int -> Int} (f0 : f 0 = 0) : ∀ {z : List Z} (hz : ∀ y ∈ z, ∀ v ∈ y.1, RV v) (hu : z.Pairwise (fun x y => zG x.1 y.1 < 0)) (q : List V), yi (z.map (fun x => (x.1, f x.2))) q = f (yi z q)
 | [], _, _, q => by simp [qR, f0]
 | x :: z, hz, hu, q => by
  have ih := zb0 f0 (fun y hy => hz y (by simp [hy])) (List.pairwise_cons.1 hu).2 q; rw [List.map_cons, zm, zm, ih]; split
  ·rename_i h; rw [Jl (hz x (by simp)) (fun y hy => hz y (by simp [hy])) (List.pairwise_cons.1 hu).1 h, f0]; simp
  ·simp
theorem zab : ∀ {z : List Z} (hz : ∀ y ∈ z, ∀ v ∈ y.1, RV v) (hu : z.Pairwise (fun x y => zG x.1 y.1 < 0)) (q : List V), yi z q = 0 \/ ∃ x ∈ z, yi z q = x.2
 | [], _, _, q => .inl rfl
 | x :: z, hz, hu, q => by
  have ih := zab (fun y hy => hz y (by simp [hy])) (List.pairwise_cons.1 hu).2 q; rw [zm]; split
  ·rename_i h; rw [Jl (hz x (by simp)) (fun y hy => hz y (by simp [hy])) (List.pairwise_cons.1 hu).1 h]; exact .inr ⟨x, by simp, by simp⟩
  ·rw [Int.zero_add]; rcases ih with h | ⟨y, hy, h⟩
   ·exact .inl h
   ·exact .inr ⟨y, by simp [hy], h⟩
theorem D7 {M : Int} (hM : 0 <= M) {z : List Z} (hz : ∀ y ∈ z, ∀ v ∈ y.1, RV v) (hu : z.Pairwise (fun x y => zG x.1 y.1 < 0)) (hb : Rp M z) (q : List V) : -M <= yi z q /\ yi z q <= M := by
 rcases zab hz hu q with h | ⟨x, hx, h⟩
 ·omega
 ·rw [h]; exact hb x hx
theorem YD : ∀ {z : List Z}, yp z -> ∀ y ∈ z, yi z y.1 = y.2
 | x :: z, h, y, hy => by
  rcases List.mem_cons.1 hy with rfl | hy
  ·exact jW h
  ·rw [zm, YD h.tail y hy, if_neg]
   ·simp
   ·intro e; have h1 := (List.pairwise_cons.1 h.up).1 y hy; have h2 := (yE x.1 y.1 (h.rv x (by simp)) (h.rv y (by simp [hy]))).2 e; omega
theorem NB : ∀ (l z : List Z), ∀ y ∈ Jp z l, (∃ x ∈ z, y.1 = x.1) \/ ∃ x ∈ l, y.1 = zd x.1
 | [], z, y, hy => .inl ⟨y, hy, rfl⟩
 | x :: l, z, y, hy => by
  rw [Yx] at hy; rcases NB l _ y hy with ⟨u, hu, e⟩ | ⟨u, hu, e⟩
  ·rcases Kg _ _ _ u hu with h | ⟨h, _⟩
   ·exact .inl ⟨u, h, e⟩
   ·exact .inr ⟨x, by simp, by rw [e, h]⟩
  ·exact .inr ⟨u, by simp [hu], e⟩
theorem PW {l : List Z} {y : Z} (h : y ∈ xJ l) : ∃ x ∈ l, y.1 = zd x.1 := by
 rcases NB l [] y h with ⟨u, hu, _⟩ | h
 ·simp at hu
 ·exact h
theorem PU {a b : List Z} (ha : ∀ x ∈ a, ∀ v ∈ x.1, RV v) (hb : ∀ x ∈ b, ∀ v ∈ x.1, RV v) (h : ∀ q, yi a q = yi b q) : xJ a = xJ b :=
 Jg hb (qZ a ha).1 (fun q => by rw [(qZ a ha).2, h])
theorem Jr (n : Int) : jk n = true ↔ ¬ (-1000000 <= n /\ n <= 1000000) := by simp [jk]; omega
theorem Xr (z : List Z) : (Qb z = (z, 0) /\ z.length <= 400 /\ Rp 1000000 z) \/ (∃ e, e ≠ 0 /\ Qb z = ([], e)) := by
 unfold Qb; split
 ·exact .inr ⟨3, by omega, rfl⟩
 ·rename_i h; split
  ·exact .inr ⟨5, by omega, rfl⟩
  ·refine .inl ⟨rfl, by omega, fun x hx => ?_⟩; have h2 : ¬ jk x.2 = true := fun e => h (List.any_eq_true.2 ⟨x, hx, e⟩)
   rw [Jr] at h2; omega
theorem Mz {z : List Z} (h1 : z.length <= 400) (h2 : Rp 1000000 z) : Qb z = (z, 0) := by
 unfold Qb; rw [if_neg, if_neg (by omega)]; intro e; obtain ⟨x, hx, hb⟩ := List.any_eq_true.1 e; have := h2 x hx; rw [Jr] at hb; omega
def QC (z : List Z) : Prop := ∀ x ∈ z, x.1.length <= 8 /\ ∀ v ∈ x.1, RV v
theorem Jc {l : List Z} (h : QC l) : QC (xJ l) := fun y hy => by
 obtain ⟨x, hx, e⟩ := PW hy; rw [e]; exact ⟨by simpa [zd] using (h x hx).1, qq (h x hx).2⟩
theorem qX {a b : List Z} (ha : QC a) (hb : QC b) : QC (a ++ b) := fun x hx => by
 rcases List.mem_append.1 hx with h | h
 ·exact ha x h
 ·exact hb x h
theorem YN {a : List Z} (ha : QC a) (t : Int) : QC (xl t a) := fun x hx => by
 obtain ⟨y, hy, rfl⟩ := List.mem_map.1 hx; exact ha y hy
theorem J0 {a : List Z} (ha : QC a) (f : Int -> Int) : QC (yq f a) := fun x hx => by
 obtain ⟨⟨y, hy, rfl⟩, _⟩ := x8 hx; exact ⟨by simpa [zd] using (ha y hy).1, qq (ha y hy).2⟩
structure SM (M : Int) (N : Nat) (z : List Z) : Prop where
 ok : QC z
 up : z.Pairwise (fun x y => zG x.1 y.1 < 0)
 ne : ∀ x ∈ z, x.2 ≠ 0
 bd : Rp M z
 len : z.length <= N
theorem SM.rv {M : Int} {N : Nat} {z : List Z} (h : SM M N z) : ∀ x ∈ z, ∀ v ∈ x.1, RV v := fun x hx => (h.ok x hx).2
theorem SM.rz {M : Int} {N : Nat} {z : List Z} (h : SM M N z) (hM : M <= 1000000) (hN : N <= 400) : zu z = 0 := (jv z).2 ⟨by have := h.len; omega, h.ok, fun x hx => ⟨h.ne x hx, by have := h.bd x hx; omega, by have := h.bd x hx; omega⟩, h.up⟩
theorem SM.of {z : List Z} (h : zu z = 0) : SM 1000000 400 z := by
 have h := (jv z).1 h; exact ⟨h.row, h.up, fun x hx => (h.w x hx).1, fun x hx => (h.w x hx).2, h.len⟩
theorem SM.canon {M : Int} {N : Nat} {z : List Z} (h : yp z) (ok : QC z) (bd : Rp M z) (len : z.length <= N) : SM M N z := ⟨ok, h.up, h.w, bd, len⟩
theorem SR {l : List Z} {M : Int} {N : Nat} (hl : QC l) (hb : ∀ q, -M <= yi l q /\ yi l q <= M) (hn : l.length <= N) (hM : M <= 1000000) (hN : N <= 400) : yN l = (xJ l, 0) /\ yp (xJ l) /\ SM M N (xJ l) /\ ∀ q, yi (xJ l) q = yi l q := by
 have h := qZ l (fun x hx => (hl x hx).2)
 have hb2 : Rp M (xJ l) := fun y hy => by
  have := YD h.1 y hy; rw [h.2] at this; have := hb y.1; omega
 have hlen := Ki l; exact ⟨Mz (by omega) (fun y hy => by have := hb2 y hy; omega), h.1, SM.canon h.1 (Jc hl) hb2 (by omega), h.2⟩
theorem kA {a : List Z} {M : Int} {N : Nat} (ha : SM M N a) {f : Int -> Int} (f0 : f 0 = 0) (fb : ∀ n, -M <= n -> n <= M -> -M <= f n /\ f n <= M) (hM : M <= 1000000) (hN : N <= 400) :
  ∃ s, zP f a = (s, 0) /\ yp s /\ SM M N s /\ ∀ q, yi s q = f (yi a q) := by
 have hc := Ws (f := f) ha.rv ha.up; refine ⟨yq f a, ?_, hc, SM.canon hc (J0 ha.ok f) (fun y hy => ?_) ?_, fun q => ?_⟩
 ·unfold zP; rw [if_neg (by rw [ha.rz hM hN]; simp)]
 ·obtain ⟨⟨x, hx, rfl⟩, _⟩ := x8 hy; have := ha.bd x hx; exact fb _ this.1 this.2
 ·have h1 : (yq f a).length <= (a.map (fun x => (zd x.1, f x.2))).length := List.length_filter_le _ _; have := ha.len; simp at h1; omega
 ·rw [T2, zb0 f0 ha.rv ha.up]
def bks (at' : Int) (i : Nat) (x : I) : List I := if (i : Int) = at' /\ 1 < x.w then [⟨x.A, x.row, x.cap, x.w - 1⟩, ⟨x.A, x.row, x.cap, 1⟩] else [x]
def bk (at' : Int) : Nat -> List I -> List I
 | _, [] => []
 | i, x :: l => bk at' (i + 1) l ++ bks at' i x
def yJ (n : Int) : Int := if n < 0 then 0 else n
def yB (n : Int) : Int := if 0 < n then 1 else 0
theorem EW (n : Int) : yB (yB n) = yB n := by unfold yB; by_cases h : 0 < n <;> simp [h]
theorem F0 (n : Int) : yJ (yJ n) = yJ n := by unfold yJ; by_cases h : n < 0 <;> simp [h]
theorem EY (n : Int) : yB (yJ n) = yB n := by
 unfold yB yJ
 by_cases h : n < 0
 ·have h2 : ¬ 0 < n := by omega
  simp [h, h2]
 ·simp [h]
theorem zar {a : List Z} {M : Int} {N : Nat} (ha : SM M N a) (h0 : 1 <= M) (hM : M <= 1000000) (hN : N <= 400) : ∃ s, zP yB a = (s, 0) /\ yp s /\ SM M N s /\ ∀ q, yi s q = yB (yi a q) :=
 kA ha rfl (fun n h1 h2 => by unfold yB; split <;> omega) hM hN
theorem zaK {a : List Z} {M : Int} {N : Nat} (ha : SM M N a) (hM : M <= 1000000) (hN : N <= 400) : ∃ s, zP (fun n => -n) a = (s, 0) /\ yp s /\ SM M N s /\ ∀ q, yi s q = -(yi a q) :=
 kA ha rfl (fun n h1 h2 => by omega) hM hN
end Go.Proofs.YtcaedcpjdmlilaaGreat

