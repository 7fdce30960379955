/- Parts of a proof. No condition. -/
import Derived.Laws.AppendOwnNone
import Derived.Test.YtflggnopgnoeiaaGreatGI
import Derived.Lib.AppendZeros
set_option maxRecDepth 100000
set_option maxHeartbeats 8000000
set_option maxRecDepth 100000
set_option linter.unusedSimpArgs false
set_option linter.unusedVariables false
namespace Go
variable {p : Prop}
theorem oC_ (h : p := by simp [results, Tryz.results107, go_sem] <;> rfl) : p := h
theorem oW_ (h : p := by simp [results, Tryz.results39, go_sem] <;> rfl) : p := h
theorem oX_ (h : p := by simp [results, Tryz.results98, go_sem] <;> rfl) : p := h
theorem oY_ (h : p := by simp [results, Tryz.results19, go_sem] <;> rfl) : p := h
theorem vg_ (h : p := by rw [<- e]; exact qQ_ hi) : p := h
theorem vr_ (h : p := by rw [Nat.zero_add, List.length_take]; omega) : p := h
theorem vF_ (h : p := by have := (GV.trans gB).size; simp; omega) : p := h
theorem vU_ (h : p := by rw [Nh, List.length_append]; omega) : p := h
theorem v5_ (h : p := by have := hg.size; simp; omega) : p := h
theorem uh_ (h : p := by unfold maxLen; omega) : p := h
theorem uq_ (h : p := by simpa using hown) : p := h
theorem ut_ (h : p := by rw [hz2]; omega) : p := h
theorem u9_ (h : p := by
 (go_simp; first | exact Dr.out | simpa using Dr.out | simpa [hc] using Dr.out)) : p := h
theorem wI_ (h : p := by
 refine ⟨fun y hy => ?_, fun y hy => ?_⟩
 ·rcases List.mem_append.1 hy with hy | hy
  ·exact h.1 y hy
  ·simp at hy; subst hy; exact ⟨h1, h2⟩
 ·rcases List.mem_append.1 hy with hy | hy
  ·exact h.2 y hy
  ·simp at hy; subst hy; exact h3) : p := h
theorem wY_ (h : p := by
 exact ⟨k + 1, n + s.xs.length, by omega, by go_num, Hn2.out, by rw [hfl.out]; exact Own7.out, hg7⟩) : p := h
theorem wZ_ (h : p := by
 intro j u hj
 match j, hj with
 | 0, hj => simp [zN] at hj; subst hj; simp [Addr.add]
 | 1, hj => simp [zN] at hj; subst hj; simp [Addr.add]
 | 2, hj => simp [zN] at hj; subst hj; simp [Addr.add]) : p := h
theorem xh_ (h : p := by
 subst h0; go_wp2; go_ret; exact ⟨_, rfl, World.ownsRow_nil _ _ _ _, za.refl _⟩) : p := h
theorem xk_ (h : p := by
 exact ⟨k + 1, m + s.xs.length, by omega, by go_num, by go_num, Hm2.out, hg⟩) : p := h
theorem xs_ (h : p := by
 obtain ⟨⟨B, ys, cap, h1, h2, h3, h4⟩, h5, h6⟩ := h; exact ⟨⟨B, ys, cap, h1, h2.grow hg, h3, h4⟩, h5.trans hg, h6⟩) : p := h
theorem xH_ (h : p := by
 have : ys = [] := List.length_eq_zero_iff.1 h0; subst this; exact ⟨none, 0, rfl, fun i x hx => by simp at hx⟩) : p := h
theorem xJ_ (h : p := by
 exact ⟨k + 1, by omega, by go_num, by have := Inv2.out; rw [if_neg uC_] at this; exact this, hg.trans hg2⟩) : p := h
theorem xN_ (h : p := by
 exact ⟨0, 0, Nat.zero_le _, rfl, rfl, rfl, za.refl _⟩) : p := h
theorem xS_ (h : p := by
 exact ⟨0, 0, Nat.zero_le _, rfl, rfl, Own.out, hg2⟩) : p := h
theorem x0_ (h : p := by
 rw [<- htk, List.getElem?_take] at hv; split at hv
 ·rw [hb.cell]; simpa using hv
 ·cases hv) : p := h
theorem yk_ (h : p := by
 exact ⟨k + 1, by omega, by go_num, by rw [E.out, XE]; simpa using hown', hg7⟩) : p := h
theorem ys_ (h : p := by
 exact ⟨0, Nat.zero_le _, rfl, World.ownsRow_nil _ _ _ _, za.refl w⟩) : p := h
theorem yu_ (h : p := by
 obtain ⟨⟨B, ys, cap, h1, _⟩, _⟩ := h; exact ⟨B, _, cap, h1⟩) : p := h
theorem yz_ (h : p := by
 have := G2.size; simp; omega) : p := h
theorem yI_ (h : p := by
 unfold Addr.add; split
 ·rename_i h0; subst h0; rfl
 ·rfl) : p := h
theorem yZ_ (h : p := by
 intro v' w7 hown' hgrow _; have hg7 : za w w7 := za.own (G2.al _) hgrow (fun i hi => (HL2.out i hi).1); clear hgrow; go_wp2; go_roundw
 case rel => exact yk_
 case measure => exact u1_) : p := h
end Go
namespace Go.Proofs.YtflggnopgnoeiaaGreat
open Go.RowKit Go.Calm
theorem YK (n : Int) (w : World) : Calls Tryz.prog 61 #[.int .i64 n] w fun e w' => e = .returned (.bool (xx n)) /\ w = w' := by
 go_enter Tryz.func61, Tryz.ntmps61
 by_cases h1 : n < -1000000
 ·have d1 : decide (n < -1000000) = true := decide_eq_true h1; go_wp2; go_ret; refine xn ?_ rfl; simp [xx, d1]
 ·have d1 : decide (n < -1000000) = false := decide_eq_false h1
  by_cases h2 : 1000000 < n
  ·have d2 : decide (1000000 < n) = true := decide_eq_true h2; go_wp2; go_ret; refine xn ?_ rfl; simp [xx, d2]
  ·have d2 : decide (1000000 < n) = false := decide_eq_false h2; go_wp2; go_ret; refine xn ?_ rfl; simp [xx, d1, d2]
theorem Rg (row : List V) (A : Option Addr) (c : Nat) (w : World) (hlen : row.length <= 9223372036854775807) (hx : xi w A row) (R : Int) (hR : jH row = R) :
  Calls Tryz.prog 60 #[.slice A row.length c] w fun en w' => en = .returned (.int .i64 R) /\ za w w' := by
 have HR := hh_ hR; have Hx := hh_ hx; clear hx hR; go_enter Tryz.func60, Tryz.ntmps60
 by_cases h8 : 8 < row.length
 ·exact xF_
 ·have d8 : decide ((8 : Int) < (row.length : Int)) = false := by simp; omega
  have inv0 : kA (row.drop 0) = R := by rw [<- HR.out]; unfold jH; rw [if_neg h8, List.drop_zero]
  have Inv0 := hh_ inv0; clear inv0; go_wp2
  go_loopw [11] (fun i wr => ∃ k : Nat, k <= row.length /\ i = .int .i64 k /\ kA (row.drop k) = R /\ za w wr) (fun i _ => row.length - (intOf i).toNat)
  case atStart => exact w0_
  case round =>
   obtain ⟨k, hk, rfl, hinv, hg⟩ := hrel; have xt := hh_ hinv; clear hinv
   by_cases hlt : k < row.length
   ·obtain ⟨x, hxk⟩ : ∃ x, row[k]? = some x := ⟨_, qQ_ hlt⟩
    obtain ⟨gx, ox, rfl, c1, c2, c3⟩ := (Hx.out.grow hg) k x hxk; have inv2 := (LJ hxk).symm.trans xt.out; have Inv2 := hh_ inv2; clear inv2 hxk
    by_cases hw : zY x = 0
    ·have dw : (zY x != 0) = false := by simpa using hw
     go_wp2_with (go_at_call 109; ((with_reducible refine (qi x _).mono ?_); rintro e w2 ⟨rfl, hg2⟩; have G2 := (hg.al _).trans hg2))
     go_roundw
     case rel => exact xV_
     case measure => exact u1_
    ·have dw : (zY x != 0) = true := by simpa using hw
     go_wp2_with (go_at_call 109; ((with_reducible refine (qi x _).mono ?_); rintro e w2 ⟨rfl, hg2⟩; have G2 := (hg.al _).trans hg2))
     go_ret; exact zk ox_ G2
   ·exact xc_
theorem Cr {y r : List V} (hy : ∀ v ∈ y, RV v) (hr : ∀ v ∈ r, RV v) : decide (0 <= zv x4 y r) = (zv zO y r != -1) := by
 rw [yg _ _ hy hr]; rcases Yr zO kD y r with h | h | h <;> rw [h] <;> decide
theorem Rk (xs : List I) (A : Option Addr) (c : Nat) (w : World) (hlen : xs.length <= 9223372036854775807) (hz : xe w A xs) (hl : ∀ x ∈ xs, x.row.length <= 9223372036854775807) (R : Int) (hR : zC (xs.map zh) = R) :
  Calls Tryz.prog 77 #[.slice A xs.length c] w fun en w' => en = .returned (.int .i64 R) /\ za w w' := by
 have HR := hh_ hR; have Hz := hh_ hz; have Hl := hh_ hl; clear hz hR hl; go_enter Tryz.func77, Tryz.ntmps77
 by_cases h8 : 400 < xs.length
 ·exact xE_
 ·have d8 : decide ((400 : Int) < (xs.length : Int)) = false := by simp; omega
  have inv0 : BJ (qz xs 0) ((xs.drop 0).map zh) = R := by rw [<- HR.out]; unfold zC; rw [if_neg uG_, List.drop_zero]; rfl
  have Inv0 := hh_ inv0; clear inv0; go_wp2
  go_loopw [10] (fun i wr => ∃ k : Nat, k <= xs.length /\ i = .int .i64 k /\ BJ (qz xs k) ((xs.drop k).map zh) = R /\ (∀ y, qz xs k = some y -> ∀ v ∈ y, RV v) /\ za w wr) (fun i _ => xs.length - (intOf i).toNat)
  case atStart => exact ⟨0, Nat.zero_le _, rfl, Inv0.out, fun y hy => by simp [qz] at hy, za.refl _⟩
  case round =>
   obtain ⟨k, hk, rfl, hinv, hpr, hg⟩ := hrel; have xt := hh_ hinv; have Hpr := hh_ hpr; clear hinv hpr
   by_cases hlt : k < xs.length
   ·obtain ⟨x, hxk⟩ : ∃ x, xs[k]? = some x := ⟨_, qQ_ hlt⟩
    obtain ⟨gx, ox, rfl, c1, c2, hxv⟩ := (Hz.out.grow hg) k x hxk; have hlx := Hl.out x (qZ_ hxk); have inv2 := (FM hxk).symm.trans xt.out; have Hxk := hh_ hxk; have Hxv := hh_ hxv; have cb := fun W (h : za wr W) (R : Int) (hR : jH x.row = R) => Rg x.row x.A x.cap W hlx (Hxv.out.grow h) R hR
    obtain ⟨rx, hrx⟩ : ∃ r, jH x.row = r := ⟨_, rfl⟩
    have hnx : qz xs (k + 1) = some x.row := by unfold qz; rw [if_neg uX_, Nat.add_sub_cancel, hxk]; rfl
    have Hnx := hh_ hnx; rw [hrx] at inv2; have Inv2 := hh_ inv2; clear inv2 hxk hxv hnx
    by_cases hw : rx = 0
    ·have dw : (rx != 0) = false := by simpa using hw
     rw [if_neg uC_] at Inv2; have hrv := ((kg x.row).1 (hrx.trans hw)).2; have Hrv := hh_ hrv; clear hrv; go_upto_region 9 with (go_at_call 60; ((with_reducible refine (cb _ (za.refl _) rx hrx).mono ?_); rintro e w2 ⟨rfl, G2⟩)); have C1 := hh_ (G2.cell c1); have c2' := G2.cell c2
     by_cases h0 : x.w = 0
     ·exact x6_
     ·have d0 : (x.w == 0) = false := by simpa using h0
      by_cases h1 : xx x.w = true
      ·go_wp2_with (go_at_call 61; ((with_reducible refine (YK _ _).mono ?_); rintro e w3 ⟨rfl, rfl⟩; rw [h1]))
       go_ret; exact zk oo_ (hg.trans G2)
      ·have h1' : xx x.w = false := by simpa using h1
       have inv3 := Inv2.out; rw [if_neg (by simp [h0, h1'])] at inv3; have Inv3 := hh_ inv3; clear inv3 Inv2; go_upto_region 11 with (go_at_call 61; ((with_reducible refine (YK _ _).mono ?_); rintro e w3 ⟨rfl, rfl⟩; rw [h1'])); cases k with
       | zero =>
        have e : R = BJ (qz xs 1) ((xs.drop 1).map zh) := by have := Inv3.out; simpa [qz, K3] using this.symm
        have E := hh_ e; clear e; apply wp_region_calm 17 uQ_ uQ_
        case h' =>
         intro Q0 hQ0; simp only [List.take_succ_cons, List.take_zero]
         repeat ((first | ((first | apply calm_p rfl | apply zu rfl rfl rfl); case h1 => (intro w1 hw1 hF K hK; go_simp; first | exact hK _ (za.refl _))) | apply zw rfl rfl rfl rfl); intro K hK; go_simp; apply hK; clear hK K)
         refine calm_nil ?_; intro w1 hw1 hF; apply hQ0; clear hQ0; simp only [List.drop_succ_cons, List.drop_zero]; clear hF; go_wp2; go_roundw
         case rel => exact ⟨1, by omega, rfl, E.out.symm, fun y hy => by rw [Hnx.out] at hy; cases hy; exact Hrv.out, hg.trans (G2.trans hw1)⟩
         case measure => exact u1_
        case hp' => trivial
       | succ j =>
        obtain ⟨y, hyk⟩ : ∃ y, xs[j]? = some y := ⟨_, qQ_ uX_⟩
        obtain ⟨gy, oy, ey, cy1, cy2, hyv⟩ := (Hz.out.grow hg) j y hyk; cases ey; have hly := Hl.out y (qZ_ hyk); obtain ⟨cr, hcr⟩ : ∃ r, zv zO y.row x.row = r := ⟨_, rfl⟩
        have cc := fun W (h : za wr W) => Q7 y.row x.row y.A x.A y.cap x.cap W hly hlx (hyv.grow h) (Hxv.out.grow h)
        rw [hcr] at cc; have inv4 := Inv3.out; have hpy : qz xs (j + 1) = some y.row := by unfold qz; rw [if_neg uX_, Nat.add_sub_cancel, hyk]; rfl
        rw [show K3 (qz xs (j + 1)) x.row = (cr != -1) by rw [hpy, <- hcr]; exact Cr (Hpr.out _ hpy) Hrv.out] at inv4; have Inv4 := hh_ inv4; have Hy := hh_ (show wr.cell? ⟨gx, ox + j * 2, none⟩ = some (.slice y.A y.row.length y.cap) from cy1); have dj : decide ((0 : Int) < (j : Int) + 1) = true := decide_eq_true uX_; have p0 : (0 : Int) <= (j : Int) + 1 := by omega
        have e0 : ((j : Int) + 1).toNat = j + 1 := by omega
        have jz : (j : Int) + 1 < (xs.length : Int) := by omega
        have hwp : IntKind.i64.wrap (j : Int) = (j : Int) := by rw [IntKind.wrap_i64]; omega
        have jz1 : (j : Int) < (xs.length : Int) := by omega
        have jz3 : j < xs.length := by omega
        clear inv4 Inv3 hyk cy1 cy2 hyv hcr c1 c2 hpy; apply wp_region_calm 17 uQ_ uQ_
        case h' =>
         intro Q0 hQ0; simp only [List.take_succ_cons, List.take_zero]
         repeat ((first | ((first | apply calm_p rfl | apply zu rfl rfl rfl); case h1 => (intro w1 hw1 hF K hK; have cx1 := hw1.cell C1.out; have cy1 := (G2.trans hw1).cell Hy.out; go_simp; first | exact hK _ (za.refl _) | (go_at_call 20; ((with_reducible refine (cc _ (G2.trans hw1)).mono ?_); rintro e w' ⟨rfl, hg⟩; exact ⟨_, rfl, hK _ hg⟩)))) | apply zw rfl rfl rfl rfl); intro K hK; go_simp; apply hK; clear hK K)
         refine calm_nil ?_; intro w1 hw1 hF; apply hQ0; clear hQ0; simp only [List.drop_succ_cons, List.drop_zero]; clear hF
         by_cases hc : cr = -1
         ·have dc : (cr != -1) = false := by simpa using hc
          simp only [dc]; go_wp2; go_roundw
          case rel => exact ⟨j + 2, by omega, by go_num, by have := Inv4.out; rw [if_neg (by simp [dc])] at this; exact this, fun y hy => by rw [Hnx.out] at hy; cases hy; exact Hrv.out, hg.trans (G2.trans hw1)⟩
          case measure => exact u1_
         ·have dc : (cr != -1) = true := by simpa using hc
          simp only [dc]; go_wp2; go_ret; exact zk oy_ (hg.trans (G2.trans hw1))
        case hp' => trivial
    ·have dw : (rx != 0) = true := by simpa using hw
     go_wp2_with (go_at_call 60; ((with_reducible refine (cb _ (za.refl _) rx hrx).mono ?_); rintro e w2 ⟨rfl, hg2⟩))
     go_ret; exact zk ox_ (hg.trans hg2)
   ·exact wd_
theorem XE : ∀ xs ys : List V, zN (xs ++ ys) = zN xs ++ zN ys
 | [], ys => rfl
 | x :: xs, ys => by simp [zN, XE xs ys]
theorem QS : ∀ xs : List V, ∀ u ∈ zN xs, u.oneCell' = true
 | [], u, hu => by simp [zN] at hu
 | x :: xs, u, hu => by
  simp only [zN, List.mem_cons] at hu; rcases hu with rfl | rfl | rfl | hu
  ·rfl
  ·rfl
  ·rfl
  ·exact QS xs u hu
theorem YS : ∀ xs : List I, ∀ u ∈ zr xs, u.oneCell' = true
 | [], u, hu => by simp [zr] at hu
 | x :: xs, u, hu => by
  simp only [zr, List.mem_cons] at hu; rcases hu with rfl | rfl | hu
  ·rfl
  ·rfl
  ·exact YS xs u hu
theorem Qq {w : World} {base : Nat} {v : Value} {ys : List V} (h : w.ownsRow base 33 3 v ys.length (zN ys)) : ∃ (B : Option Addr) (cap : Nat), v = .slice B ys.length cap /\ xi w B ys := by
 obtain ⟨_, h⟩ := h; rcases h with ⟨rfl, h0⟩ | ⟨gb, cap, cur, rfl, hB, hgb, hle, hmx, hcs, htk⟩
 ·exact xH_
 ·have hb : zb w gb 33 cur := hgb
  have key : ∀ i v, (zN ys)[i]? = some v -> w.cell? ⟨gb, i, none⟩ = some v := fun i v hv => x0_
  refine ⟨some ⟨gb, 0, none⟩, cap, rfl, fun i x hx => ⟨gb, 0, rfl, ?_⟩⟩; obtain ⟨a, b, c⟩ := Xh ys i x hx; exact ⟨by rw [Nat.zero_add]; exact key _ _ a, by rw [Nat.zero_add]; exact key _ _ b, by rw [Nat.zero_add]; exact key _ _ c⟩
theorem zab {w : World} {base : Nat} {v : Value} {ys : List I} (h : w.ownsRow base 53 2 v ys.length (zr ys)) (hv : ∀ y ∈ ys, xi w y.A y.row) : ∃ (B : Option Addr) (cap : Nat), v = .slice B ys.length cap /\ xe w B ys := by
 obtain ⟨_, h⟩ := h; rcases h with ⟨rfl, h0⟩ | ⟨gb, cap, cur, rfl, hB, hgb, hle, hmx, hcs, htk⟩
 ·exact xH_
 ·have hb : zb w gb 53 cur := hgb
  have key : ∀ i v, (zr ys)[i]? = some v -> w.cell? ⟨gb, i, none⟩ = some v := fun i v hv => x0_
  refine ⟨some ⟨gb, 0, none⟩, cap, rfl, fun i x hx => ⟨gb, 0, rfl, ?_, ?_, hv x (qZ_ hx)⟩⟩
  ·rw [Nat.zero_add]; exact key _ _ (qp ys i x hx).1
  ·rw [Nat.zero_add]; exact key _ _ (qp ys i x hx).2
theorem xY {w : World} {b1 b2 n1 n2 s1 s2 : Nat} {e1 e2 : TypeId} {v1 v2 : Value} {x1 x2 : List Value} (h1 : w.ownsRow b1 e1 s1 v1 n1 x1) (h2 : w.ownsRow b2 e2 s2 v2 n2 x2) (hne : e1 ≠ e2) : v1.ownBlock = none \/ v1.ownBlock ≠ v2.ownBlock := by
 rcases h1.2 with ⟨rfl, _⟩ | ⟨g, cap, cur, rfl, hB, hgb, _⟩
 ·exact .inl rfl
 ·right; rcases h2.2 with ⟨rfl, _⟩ | ⟨g', cap', cur', rfl, hB', hgb', _⟩
  ·simp [Value.ownBlock]
  ·intro e; simp [Value.ownBlock] at e; subst e; rw [hgb] at hgb'; simp at hgb'; exact hne hgb'.2
theorem XH : ∃ ti, Tryz.prog.info? 33 = some ti /\ ti.zero = some (.agg #[.int .i64 0, .int .i64 0, .string ⟨#[]⟩]) /\ ti.size = 3 /\ ti.bytes = 32 := by
 have h := Mb; cases hi : Tryz.prog.info? 33 with
 | none => rw [hi] at h; simp at h
 | some i => rw [hi] at h; simp at h; exact ⟨i, rfl, h⟩
theorem RJ {w : World} {g o : Nat} {xs : List I} (h : xe w (some ⟨g, o, none⟩) xs) (k : Nat) : ∀ j u, (zr (xs.drop k))[j]? = some u -> w.cell? ((⟨g, o + k * 2, none⟩ : Addr).add j) = some u := fun j u hj => by
 have hlt : j < (zr (xs.drop k)).length := (qQ9.1 hj).1; rw [xv] at hlt; have hi : j / 2 < (xs.drop k).length := by omega
 obtain ⟨x, hx⟩ : ∃ x, (xs.drop k)[j / 2]? = some x := ⟨_, qQ_ hi⟩
 obtain ⟨a, b⟩ := qp _ _ _ hx; rw [List.getElem?_drop] at hx; obtain ⟨g', o', e, c1, c2, _⟩ := h _ _ hx; cases e
 have hA : (⟨g, o + k * 2, none⟩ : Addr).add j = ⟨g, o + k * 2 + j, none⟩ := yI_
 rw [hA]; rcases Nat.mod_two_eq_zero_or_one j with h2 | h2
 ·rw [show j / 2 * 2 = j by omega] at a; rw [a] at hj; cases hj; rw [show o + k * 2 + j = o + (k + j / 2) * 2 by omega]; exact c1
 ·rw [show j / 2 * 2 + 1 = j by omega] at b; rw [b] at hj; cases hj; rw [show o + k * 2 + j = o + (k + j / 2) * 2 + 1 by omega]; exact c2
theorem FR {w : World} {g o : Nat} {xs : List I} (h : xe w (some ⟨g, o, none⟩) xs) (k : Nat) : ∀ j u, (zr (xs.take k))[j]? = some u -> w.cell? ((⟨g, o, none⟩ : Addr).add j) = some u := fun j u hj => by
 have := RJ h 0 j u; rw [Nat.zero_mul, Nat.add_zero, List.drop_zero] at this; refine this ?_; have e := xM (xs.take k) (xs.drop k); rw [List.take_append_drop] at e; rw [e, List.getElem?_append_left (qQ9.1 hj).1]; exact hj
theorem Q4 (row : List V) (A : Option Addr) (c : Nat) (w : World) (hlen : row.length <= 1000) (hrv : ∀ v ∈ row, RV v) (hx : xi w A row) :
  Calls Tryz.prog 34 #[.slice A row.length c] w fun en w' => ∃ (B : Option Addr) (cap : Nat), en = .returned (.slice B row.length cap) /\ w'.ownsRow w.heap.size 33 3 (.slice B row.length cap) row.length (zN (zd row)) /\ za w w' := by
 have Hx := hh_ hx; have Hrv := hh_ hrv; have Ti := hh_ XH; clear hx hrv; go_enter Tryz.func34, Tryz.ntmps34; go_wp2
 go_loopw [3, 8] (fun t i wr => ∃ k : Nat, k <= row.length /\ i = .int .i64 k /\ wr.ownsRow w.heap.size 33 3 t k (zN ((row.take k).map bare)) /\ za w wr) (fun _ i _ => row.length - (intOf i).toNat)
 case atStart => exact ys_
 case round =>
  obtain ⟨k, hk, rfl, hown, hg⟩ := hrel; have Own := hh_ hown; clear hown
  by_cases hlt : k < row.length
  ·obtain ⟨x, hxk⟩ : ∃ x, row[k]? = some x := ⟨_, qQ_ hlt⟩
   obtain ⟨gx, ox, rfl, c1, c2, c3⟩ := (Hx.out.grow hg) k x hxk; have hxr := Hrv.out x (qZ_ hxk)
   have e : (row.take (k + 1)).map bare = (row.take k).map bare ++ [bare x] := by
    have hx' := (qQ9.1 hxk).2; rw [List.take_succ_eq_append_getElem hlt, hx']; simp
   have E := hh_ e; obtain ⟨ti, hti, hz0, hz1, hz2⟩ := Ti.out; have hl2 := Own.out.lt; have HL2 := hh_ hl2; clear hxk e hl2
   go_wp2_with (first
    | (go_at_call 79; ((with_reducible refine (VT x hxr _).mono ?_); rintro e w2 ⟨rfl, hg2⟩; have Own2 := hh_ (zi Own.out (((za.refl wr).al _).trans hg2)); have G2 := (hg.al _).trans hg2; clear hg2))
    | (at_builtin; refine wpList_append_own _ rfl _ _ 51 rfl w.heap.size 33 ti (.agg #[.int .i64 0, .int .i64 0, .string ⟨#[]⟩]) 3 32 Tryz.underlying51 hti hz0 hz1 hz2 rfl uW_ _ _ _ rfl (Own2.out.alloc _) ⟨w2.heap.size, 0, none⟩ 1 1 (zN [bare x]) rfl rfl ?c1 (QS _) ?c3 ?c4 ?c5 ?_))
   case c1 => exact wZ_
   case c3 => exact yc_
   case c4 => omega
   case c5 => exact yz_
   ·exact yZ_
  ·obtain rfl : k = row.length := by omega
   have hfin : ∃ (B : Option Addr) (cap : Nat), u3 = .slice B row.length cap := by
    have h := Own.out; rw [List.take_length] at h; obtain ⟨B, cap, e, _⟩ := Qq (ys := row.map bare) uI_; exact ⟨B, cap, by simpa using e⟩
   obtain ⟨B, cap, rfl⟩ := hfin; go_wp2; go_ret; exact ⟨B, cap, rfl, by have h := Own.out; rw [List.take_length] at h; exact h, hg⟩
theorem zQ (g o j : Nat) : (⟨g, o, none⟩ : Addr).add j = ⟨g, o + j, none⟩ := yI_
def BU (w : World) (src : Value) (L : List I) : Prop := (src = .slice none 0 0 /\ L = []) \/ ∃ ad c, src = .slice (some ad) L.length c /\ ∀ j u, (zr L)[j]? = some u -> w.cell? (ad.add j) = some u
theorem BU.grow {w w' : World} {src : Value} {L : List I} (h : BU w src L) (hg : za w w') : BU w' src L := by
 rcases h with h | ⟨ad, c, e, h⟩
 ·exact .inl h
 ·exact .inr ⟨ad, c, e, fun j u hj => hg.cell (h j u hj)⟩
theorem zj {w : World} {ops : Array Oper} {rest : List Oper} {o : Oper} {a : Act} {Q : Exit -> Act -> World -> Prop} (hgd : o.guard = none) (s x : Operand)
  (ho : o.op = .call { callee := .builtin .append, args := #[s, x], argTypes := #[25, 25] })
  (base : Nat) (v : Value) (n : Nat) (xs : List I) (hs : a.eval s = v) (hown : w.ownsRow base 53 2 v n (zr xs)) (src : Value) (L : List I) (hx : a.eval x = src) (hsrc : BU w src L) (hB : n + L.length <= 1000000) (hbase : base <= w.heap.size)
  (h : ∀ v' w', w'.ownsRow base 53 2 v' (n + L.length) (zr (xs ++ L)) -> w.grownBy w' v.ownBlock -> wpList Tryz.prog ops Q rest (a.put o.dst v') w') : wpList Tryz.prog ops Q (o :: rest) a w := by
 obtain ⟨ti, hti, hz0, hz1, hz2⟩ := qO; rcases hsrc with ⟨rfl, rfl⟩ | ⟨ad, c, rfl, hc⟩
 ·refine wpList_append_own_none hgd s x _ ho base 53 ti 2 Tryz.underlying25 hti v n (zr xs) hs hown hx ?_; exact h v w uq_ ⟨rfl, rfl, rfl, Nat.le_refl _, fun _ _ _ => rfl⟩
 ·refine wpList_append_own _ hgd s x _ ho base 53 ti (.agg #[.slice none 0 0, .int .i64 0]) 2 32 Tryz.underlying25 hti hz0 hz1 hz2 rfl uW_ v n (zr xs) hs hown ad L.length c (zr L) hx (by rw [xv]) hc (YS _) uh_ uX_ hbase ?_; intro v' w' h1 h2 _; exact h v' w' (by rw [xM]; exact h1) h2
theorem Rq {w : World} {A : Option Addr} {xs : List I} {c k : Nat} (h : yf A xs.length c) (hz : xe w A xs) (hk : k <= xs.length) : BU w (.slice A k c) (xs.take k) := by
 obtain ⟨h1, h2⟩ := h; cases A with
 | none =>
  have := h2 rfl; obtain rfl : k = 0 := by omega
  exact .inl ⟨by rw [this], by simp⟩
 | some ad =>
  refine .inr ⟨ad, c, by rw [List.length_take, Nat.min_eq_left hk], ?_⟩; cases xs with
  | nil => intro j u hj; simp [zr] at hj
  | cons x l =>
   obtain ⟨g, o, e, _⟩ := hz 0 x rfl; cases e; exact FR hz k
theorem xV {w : World} {A : Option Addr} {xs : List I} {c k : Nat} (h : yf A xs.length c) (hz : xe w A xs) (hk : k <= xs.length) : BU w (sliced A k xs.length c 2) (xs.drop k) := by
 obtain ⟨h1, h2⟩ := h; cases A with
 | none =>
  have := h2 rfl; obtain rfl : k = 0 := by omega
  obtain h0 : xs.length = 0 := by omega
  exact .inl ⟨by simp [sliced, h0, this], by simpa using h0⟩
 | some ad =>
  by_cases hn : k < xs.length
  ·obtain ⟨g, o, e, _⟩ := hz k _ (qQ_ hn); cases e; refine .inr ⟨⟨g, o + k * 2, none⟩, c - k, ?_, RJ hz k⟩; unfold sliced; rw [if_neg uX_, Option.map_some, zQ, List.length_drop]
  ·have e : xs.length = k := by omega
   refine .inr ⟨if c = k then ad else ad.add (k * 2), c - k, ?_, fun j u hj => ?_⟩
   ·unfold sliced; split <;> simp
   ·rw [<- e, List.drop_length] at hj; simp [zr] at hj
theorem Xm {w : World} {base : Nat} {v : Value} {ys : List I} (h : w.ownsRow base 53 2 v ys.length (zr ys)) (hv : ∀ y ∈ ys, xi w y.A y.row) : ∃ (B : Option Addr) (cap : Nat), v = .slice B ys.length cap /\ xe w B ys /\ yf B ys.length cap := by
 obtain ⟨B, cap, rfl, hz⟩ := zab h hv; refine ⟨B, cap, rfl, hz, ?_⟩; obtain ⟨_, h⟩ := h; rcases h with ⟨e, h0⟩ | ⟨gb, cap', cur, e, hB, hgb, hle, hmx, hcs, htk⟩
 ·simp at e; exact ⟨by omega, fun _ => e.2.2⟩
 ·simp at e; obtain ⟨rfl, rfl⟩ := e; exact ⟨hle, fun h => by cases h⟩
theorem jZ {xs : List I} {k : Nat} {x : I} (r : List V) (n : Int) (h : xs[k]? = some x) : qB ((xs.drop k).map zh) r n = if zK x.row r < 0 then zh x :: qB ((xs.drop (k + 1)).map zh) r n else if zK x.row r = 0 then (if n + x.w ≠ 0 then (zd r, n + x.w) :: (xs.drop (k + 1)).map zh else (xs.drop (k + 1)).map zh) else (if n ≠ 0 then (zd r, n) :: (xs.drop k).map zh else (xs.drop k).map zh) := wb_
theorem VM {xs : List I} {k : Nat} {x : I} {r : List V} {n : Int} (h : xs[k]? = some x) (hr : zK x.row r < 0) (hi : qB (xs.map zh) r n = (xs.take k).map zh ++ qB ((xs.drop k).map zh) r n) : qB (xs.map zh) r n = (xs.take (k + 1)).map zh ++ qB ((xs.drop (k + 1)).map zh) r n := by
 obtain ⟨h1, e1⟩ := qQ9.1 h; rw [hi, jZ r n h, if_pos hr, List.take_succ_eq_append_getElem h1, e1]; simp
theorem zy {w wr w' : World} {v : Value} (hg : za w wr) (h : wr.grownBy w' v.ownBlock) {e : TypeId} {s n : Nat} {xs : List Value} (hown : wr.ownsRow w.heap.size e s v n xs) : za w w' := by
 refine za.own hg h (fun i hi => ?_); rcases hown.2 with ⟨rfl, _⟩ | ⟨g, cap, cur, rfl, hB, _⟩
 ·cases hi
 ·simp [Value.ownBlock] at hi; omega
theorem xe.vsl {w : World} {A : Option Addr} {xs : List I} (h : xe w A xs) : ∀ x ∈ xs, xi w x.A x.row := fun x hx => by
 obtain ⟨i, hi, e⟩ := List.mem_iff_getElem.1 hx; obtain ⟨_, _, _, _, _, hv⟩ := h i x vg_; exact hv
theorem jD {w : World} {g : Nat} {t : TypeId} {y : I} {m : Nat} (hm : y.row.length = m) (hb : zb w g t #[.slice y.A m y.cap, .int .i64 y.w]) : BU w (.slice (some ⟨g, 0, none⟩) 1 1) [y] := by
 refine .inr ⟨⟨g, 0, none⟩, 1, rfl, fun j u hj => ?_⟩; rw [zQ, hb.cell]
 match j, hj with
 | 0, hj => simp [zr] at hj; subst hj; rw [hm]; rfl
 | 1, hj => simp [zr] at hj; subst hj; rfl
theorem yQ {w : World} {base : Nat} {v : Value} {n : Nat} {ys : List I} (h : w.ownsRow base 53 2 v n (zr ys)) (hv : ∀ y ∈ ys, xi w y.A y.row) : ∃ (B : Option Addr) (cap : Nat), v = .slice B ys.length cap /\ xe w B ys /\ yf B ys.length cap := by
 have h1 := h.1; rw [xv] at h1; obtain rfl : n = ys.length := by omega
 exact Xm h hv
theorem js (r : List V) : (zd r).length = r.length := by simp [zd]
theorem Y6 {w : World} {base : Nat} {B : Option Addr} {n c : Nat} {row : List V} (h : w.ownsRow base 33 3 (.slice B n c) n (zN (zd row))) (hn : n = row.length) : xi w B (zd row) := by
 rw [hn, <- js row] at h; obtain ⟨B', c', e, hv⟩ := Qq h; simp at e; rw [e.1]; exact hv
theorem Zd {w : World} {A : Option Addr} {xs : List I} {k K : Nat} {y : I} (h : xe w A xs) (hy : xi w y.A y.row) : ∀ u ∈ xs.take k ++ [y] ++ xs.drop K, xi w u.A u.row := fun u hu => by
 simp only [List.mem_append, List.mem_singleton] at hu; rcases hu with (hu | rfl) | hu
 ·exact h.vsl u (List.mem_of_mem_take hu)
 ·exact hy
 ·exact h.vsl u (List.mem_of_mem_drop hu)
theorem Xu {w : World} {A : Option Addr} {xs : List I} {k K : Nat} (h : xe w A xs) : ∀ u ∈ xs.take k ++ xs.drop K, xi w u.A u.row := fun u hu => by
 simp only [List.mem_append] at hu; rcases hu with hu | hu
 ·exact h.vsl u (List.mem_of_mem_take hu)
 ·exact h.vsl u (List.mem_of_mem_drop hu)
def zaR (w w' : World) (e : Ending) (r : List Z) : Prop := ∃ (B : Option Addr) (ys : List I) (cap : Nat), e = .returned (.slice B ys.length cap) /\ xe w' B ys /\ ys.map zh = r /\ yf B ys.length cap /\ za w w'
def Lk (b : Nat) (A : Option Addr) : Prop := ∀ a, A = some a -> b <= a.block
def N3 (g : Nat) (A : Option Addr) : Prop := ∀ a, A = some a -> a.block ≠ g
theorem x5 {w : World} {base b s n c m : Nat} {e : TypeId} {B : Option Addr} {xs : List Value} (h : w.ownsRow base e s (.slice B n c) m xs) (hb : b <= base) : Lk b B := fun a ha => by
 rcases h.2 with ⟨e, _⟩ | ⟨g, cap, cur, e, hB, _⟩
 ·simp at e; rw [e.1] at ha; cases ha
 ·simp at e; rw [e.1] at ha; cases ha; exact Nat.le_trans hb hB
theorem QT {b k K : Nat} {u : I} {xs : List I} (hu : Lk b u.A) : ∀ y ∈ xs.take k ++ [u] ++ xs.drop K, (∃ x ∈ xs, y.A = x.A) \/ Lk b y.A := fun y hy => by
 simp only [List.mem_append, List.mem_singleton] at hy; rcases hy with (hy | rfl) | hy
 ·exact .inl ⟨y, List.mem_of_mem_take hy, rfl⟩
 ·exact .inr hu
 ·exact .inl ⟨y, List.mem_of_mem_drop hy, rfl⟩
theorem YW {k K : Nat} {xs : List I} (b : Nat) : ∀ y ∈ xs.take k ++ xs.drop K, (∃ x ∈ xs, y.A = x.A) \/ Lk b y.A := fun y hy => by
 simp only [List.mem_append] at hy; rcases hy with hy | hy
 ·exact .inl ⟨y, List.mem_of_mem_take hy, rfl⟩
 ·exact .inl ⟨y, List.mem_of_mem_drop hy, rfl⟩
def F0 (xs : List I) (w w' : World) (e : Ending) (r : List Z) : Prop := ∃ (B : Option Addr) (ys : List I) (cap : Nat), e = .returned (.slice B ys.length cap) /\ xe w' B ys /\ ys.map zh = r /\ yf B ys.length cap /\ Lk w.heap.size B /\ (∀ y ∈ ys, (∃ x ∈ xs, y.A = x.A) \/ Lk w.heap.size y.A) /\ za w w'
theorem zah (xs : List I) (A : Option Addr) (c : Nat) (row : List V) (Ar : Option Addr) (cr : Nat) (n : Int) (w : World) (hlen : xs.length <= 200000) (hok : yf A xs.length c) (hz : xe w A xs) (hrow : ∀ x ∈ xs, x.row.length <= 1000) (hw : ∀ x ∈ xs, -2000000000000000000 <= x.w /\ x.w <= 2000000000000000000) (hl : row.length <= 1000) (hr : ∀ v ∈ row, RV v) (hx : xi w Ar row) (hn : -1000000000000000000 <= n /\ n <= 1000000000000000000) :
  Calls Tryz.prog 38 #[.slice A xs.length c, .slice Ar row.length cr, .int .i64 n] w fun en w' => F0 xs w w' en (qB (xs.map zh) row n) := by
 have Hz := hh_ hz; have Hok := hh_ hok; have Hrow := hh_ hrow; have Hw := hh_ hw; have Hx := hh_ hx; have Hr := hh_ hr; obtain ⟨hn1, hn2⟩ := hn; have hac := hok.1; clear hz hrow hw hx hr hok; go_enter Tryz.func38, Tryz.ntmps38; go_wp2
 go_loopw [7] (fun i wr => ∃ k : Nat, k <= xs.length /\ i = .int .i64 k /\ qB (xs.map zh) row n = (xs.take k).map zh ++ qB ((xs.drop k).map zh) row n /\ za w wr) (fun i _ => xs.length - (intOf i).toNat)
 case atStart => exact ⟨0, Nat.zero_le _, rfl, by simp, za.refl _⟩
 case round =>
  obtain ⟨k, hk, rfl, hinv, hg⟩ := hrel; have xt := hh_ hinv; have Tk := hh_ (Rq Hok.out (Hz.out.grow hg) hk); clear hinv
  by_cases hlt : k < xs.length
  ·obtain ⟨x, hxk⟩ : ∃ x, xs[k]? = some x := ⟨_, qQ_ hlt⟩
   obtain ⟨gx, ox, rfl, c1, c2, hxv⟩ := (Hz.out.grow hg) k x hxk; have hlx := Hrow.out x (qZ_ hxk); obtain ⟨hw1, hw2⟩ := Hw.out x (qZ_ hxk); have cc := fun W (h : za wr W) => Q7 x.row row x.A Ar x.cap cr W uX_ uX_ (hxv.grow h) (Hx.out.grow (hg.trans h))
   obtain ⟨d, hd⟩ : ∃ d, zv zO x.row row = d := ⟨_, rfl⟩
   rw [hd] at cc; have Hd := hh_ (show zK x.row row = d from hd); have Hxk := hh_ hxk; have b0 : (0 : Int) <= (k : Int) := by omega
   have b1 : (k : Int) < (xs.length : Int) := by omega
   clear hd hxk hxv
   by_cases h1 : d < 0
   ·have d1 : decide (d < 0) = true := decide_eq_true h1
    go_wp2_with (go_at_call 20; ((with_reducible refine (cc _ (za.refl _)).mono ?_); rintro e w2 ⟨rfl, G2⟩))
    go_roundw
    case rel => exact ⟨k + 1, by omega, by go_num, VM Hxk.out (by rw [Hd.out]; exact h1) xt.out, hg.trans G2⟩
    case measure => exact u1_
   ·have d1 : decide (d < 0) = false := decide_eq_false h1; go_upto_region 5 with (first | (go_at_call 20; ((with_reducible refine (cc _ (za.refl _)).mono ?_); rintro e w2 ⟨rfl, G2⟩)) | (at_builtin; refine zj rfl _ _ rfl w.heap.size _ 0 [] rfl (World.ownsRow_made _ _ 0 (hg.trans G2).size uh_ uY_) _ (xs.take k) rfl (Tk.out.grow (G2.al _)) (by rw [List.length_take]; omega) (by have := (hg.trans G2).size; simp; omega) ?_; intro v8 w8 own8 gr8; have GW : za wr w8 := zy (G2.al _) gr8 (World.ownsRow_made (e := 53) (size := 2) _ #[] 0 G2.size uh_ uY_); have e8 : 0 + (xs.take k).length = k := vr_; rw [e8] at own8; have Own8 := hh_ (show w8.ownsRow w.heap.size 53 2 v8 k (zr (xs.take k)) from own8); clear own8 gr8 e8)); have c18 := GW.cell c1; have c28 := GW.cell c2
    by_cases h0 : d = 0
    ·have d2 : (d == 0) = true := by simpa using h0
     have hwp : IntKind.i64.wrap (n + x.w) = n + x.w := by rw [IntKind.wrap_i64]; omega
     go_upto_region 8 with (go_at_call 20; ((with_reducible refine (cc _ GW).mono ?_); rintro e w9 ⟨rfl, G9⟩; have c29 := G9.cell c28))
     by_cases hN : n + x.w = 0
     ·have GV := hg.trans (GW.trans G9); have Own9 := hh_ (zi Own8.out G9); have dn : (n + x.w != 0) = false := by simpa using hN
      go_upto_region 10 with fail
      by_cases hc : c = k + 1
      ·have hd := xV Hok.out (Hz.out.grow GV) (show k + 1 <= xs.length by omega); simp only [sliced, if_pos hc, Option.map_some, zQ] at hd; have Dr := hh_ hd; clear hd
       go_wp2_with (at_builtin; refine zj rfl _ _ rfl w.heap.size _ _ (xs.take k) rfl Own9.out _ (xs.drop (k + 1)) rfl ?src uN_ GV.size ?_; rotate_left; intro v11 w11 own11 gr11; have G11 : za w w11 := zy GV gr11 Own9.out; have Own11 := hh_ own11; clear own11 gr11)
       case src => exact u9_
       obtain ⟨B, cap, rfl, hz, hk2⟩ := yQ (ys := xs.take k ++ xs.drop (k + 1)) Own11.out (Xu (Hz.out.grow G11)); have Fin := hh_ (And.intro hz hk2); clear hz hk2; go_ret; exact ⟨B, _, cap, rfl, Fin.out.1, by rw [xt.out, jZ _ _ Hxk.out, Hd.out, if_neg uX_, if_pos h0, if_neg uA_]; simp [zh], Fin.out.2, x5 Own11.out (Nat.le_refl _), (YW _), G11⟩
      ·have hd := xV Hok.out (Hz.out.grow GV) (show k + 1 <= xs.length by omega); simp only [sliced, if_neg hc, Option.map_some, zQ] at hd; have Dr := hh_ hd; clear hd
       go_wp2_with (at_builtin; refine zj rfl _ _ rfl w.heap.size _ _ (xs.take k) rfl Own9.out _ (xs.drop (k + 1)) rfl ?src uN_ GV.size ?_; rotate_left; intro v11 w11 own11 gr11; have G11 : za w w11 := zy GV gr11 Own9.out; have Own11 := hh_ own11; clear own11 gr11)
       case src => exact u9_
       obtain ⟨B, cap, rfl, hz, hk2⟩ := yQ (ys := xs.take k ++ xs.drop (k + 1)) Own11.out (Xu (Hz.out.grow G11)); have Fin := hh_ (And.intro hz hk2); clear hz hk2; go_ret; exact ⟨B, _, cap, rfl, Fin.out.1, by rw [xt.out, jZ _ _ Hxk.out, Hd.out, if_neg uX_, if_pos h0, if_neg uA_]; simp [zh], Fin.out.2, x5 Own11.out (Nat.le_refl _), (YW _), G11⟩
     ·have GV := hg.trans (GW.trans G9); have Own9 := hh_ (zi Own8.out G9); have dn : (n + x.w != 0) = true := by simpa using hN
      go_upto_region 10 with (first | (go_at_call 34; ((with_reducible refine (Q4 row Ar cr _ hl Hr.out (Hx.out.grow GV)).mono ?_); rintro e wB ⟨Bb, cb, rfl, ownB, gB⟩; have OwnB := hh_ ownB; have OwnA := hh_ (zi Own9.out gB); clear ownB)) | (at_builtin; refine zj rfl _ _ rfl w.heap.size _ k (xs.take k) rfl (OwnA.out.alloc _) _ [I.mk Bb (zd row) cb (n + x.w)] rfl (jD (js row) (zb.new _ _ _)) uN_ vF_ ?_; intro v10 w10 own10 gr10)); have G10 : za w w10 := zy ((GV.trans gB).al _) gr10 (OwnA.out.alloc _); have OwnB10 := hh_ (World.ownsRow.kept (OwnB.out.alloc _) gr10 (xY OwnB.out OwnA.out uW_)); have Own10 := hh_ own10; clear own10 gr10
      by_cases hc : c = k + 1
      ·have hd := xV Hok.out (Hz.out.grow G10) (show k + 1 <= xs.length by omega); simp only [sliced, if_pos hc, Option.map_some, zQ] at hd; have Dr := hh_ hd; clear hd
       go_wp2_with (at_builtin; refine zj rfl _ _ rfl w.heap.size _ _ (xs.take k ++ [I.mk Bb (zd row) cb (n + x.w)]) rfl Own10.out _ (xs.drop (k + 1)) rfl ?src uN_ G10.size ?_; rotate_left; intro v11 w11 own11 gr11; have G11 : za w w11 := zy G10 gr11 Own10.out; have OwnB11 := hh_ (World.ownsRow.kept OwnB10.out gr11 (xY OwnB10.out Own10.out uW_)); have Own11 := hh_ own11; clear own11 gr11)
       case src => exact u9_
       obtain ⟨B, cap, rfl, hz, hk2⟩ := yQ (ys := xs.take k ++ [I.mk Bb (zd row) cb (n + x.w)] ++ xs.drop (k + 1)) Own11.out (Zd (Hz.out.grow G11) (Y6 OwnB11.out rfl)); have Fin := hh_ (And.intro hz hk2); clear hz hk2; go_ret; exact ⟨B, _, cap, rfl, Fin.out.1, by rw [xt.out, jZ _ _ Hxk.out, Hd.out, if_neg uX_, if_pos h0, if_pos hN]; simp [zh], Fin.out.2, x5 Own11.out (Nat.le_refl _), (QT (x5 OwnB11.out GV.size)), G11⟩
      ·have hd := xV Hok.out (Hz.out.grow G10) (show k + 1 <= xs.length by omega); simp only [sliced, if_neg hc, Option.map_some, zQ] at hd; have Dr := hh_ hd; clear hd
       go_wp2_with (at_builtin; refine zj rfl _ _ rfl w.heap.size _ _ (xs.take k ++ [I.mk Bb (zd row) cb (n + x.w)]) rfl Own10.out _ (xs.drop (k + 1)) rfl ?src uN_ G10.size ?_; rotate_left; intro v11 w11 own11 gr11; have G11 : za w w11 := zy G10 gr11 Own10.out; have OwnB11 := hh_ (World.ownsRow.kept OwnB10.out gr11 (xY OwnB10.out Own10.out uW_)); have Own11 := hh_ own11; clear own11 gr11)
       case src => exact u9_
       obtain ⟨B, cap, rfl, hz, hk2⟩ := yQ (ys := xs.take k ++ [I.mk Bb (zd row) cb (n + x.w)] ++ xs.drop (k + 1)) Own11.out (Zd (Hz.out.grow G11) (Y6 OwnB11.out rfl)); have Fin := hh_ (And.intro hz hk2); clear hz hk2; go_ret; exact ⟨B, _, cap, rfl, Fin.out.1, by rw [xt.out, jZ _ _ Hxk.out, Hd.out, if_neg uX_, if_pos h0, if_pos hN]; simp [zh], Fin.out.2, x5 Own11.out (Nat.le_refl _), (QT (x5 OwnB11.out GV.size)), G11⟩
    ·have d2 : (d == 0) = false := by simpa using h0
     go_upto_region 8 with (go_at_call 20; ((with_reducible refine (cc _ GW).mono ?_); rintro e w9 ⟨rfl, G9⟩))
     by_cases hN : n = 0
     ·have GV := hg.trans (GW.trans G9); have Own9 := hh_ (zi Own8.out G9); have dn : (n != 0) = false := by simpa using hN
      go_upto_region 10 with fail
      by_cases hc : c = k
      ·have hd := xV Hok.out (Hz.out.grow GV) (show k <= xs.length by omega); simp only [sliced, if_pos hc, Option.map_some, zQ] at hd; have Dr := hh_ hd; clear hd
       go_wp2_with (at_builtin; refine zj rfl _ _ rfl w.heap.size _ _ (xs.take k) rfl Own9.out _ (xs.drop (k)) rfl ?src uN_ GV.size ?_; rotate_left; intro v11 w11 own11 gr11; have G11 : za w w11 := zy GV gr11 Own9.out; have Own11 := hh_ own11; clear own11 gr11)
       case src => exact u9_
       obtain ⟨B, cap, rfl, hz, hk2⟩ := yQ (ys := xs.take k ++ xs.drop (k)) Own11.out (Xu (Hz.out.grow G11)); have Fin := hh_ (And.intro hz hk2); clear hz hk2; go_ret; exact ⟨B, _, cap, rfl, Fin.out.1, by rw [xt.out, jZ _ _ Hxk.out, Hd.out, if_neg uX_, if_neg h0, if_neg uA_]; simp [zh], Fin.out.2, x5 Own11.out (Nat.le_refl _), (YW _), G11⟩
      ·have hd := xV Hok.out (Hz.out.grow GV) (show k <= xs.length by omega); simp only [sliced, if_neg hc, Option.map_some, zQ] at hd; have Dr := hh_ hd; clear hd
       go_wp2_with (at_builtin; refine zj rfl _ _ rfl w.heap.size _ _ (xs.take k) rfl Own9.out _ (xs.drop (k)) rfl ?src uN_ GV.size ?_; rotate_left; intro v11 w11 own11 gr11; have G11 : za w w11 := zy GV gr11 Own9.out; have Own11 := hh_ own11; clear own11 gr11)
       case src => exact u9_
       obtain ⟨B, cap, rfl, hz, hk2⟩ := yQ (ys := xs.take k ++ xs.drop (k)) Own11.out (Xu (Hz.out.grow G11)); have Fin := hh_ (And.intro hz hk2); clear hz hk2; go_ret; exact ⟨B, _, cap, rfl, Fin.out.1, by rw [xt.out, jZ _ _ Hxk.out, Hd.out, if_neg uX_, if_neg h0, if_neg uA_]; simp [zh], Fin.out.2, x5 Own11.out (Nat.le_refl _), (YW _), G11⟩
     ·have GV := hg.trans (GW.trans G9); have Own9 := hh_ (zi Own8.out G9); have dn : (n != 0) = true := by simpa using hN
      go_upto_region 10 with (first | (go_at_call 34; ((with_reducible refine (Q4 row Ar cr _ hl Hr.out (Hx.out.grow GV)).mono ?_); rintro e wB ⟨Bb, cb, rfl, ownB, gB⟩; have OwnB := hh_ ownB; have OwnA := hh_ (zi Own9.out gB); clear ownB)) | (at_builtin; refine zj rfl _ _ rfl w.heap.size _ k (xs.take k) rfl (OwnA.out.alloc _) _ [I.mk Bb (zd row) cb (n)] rfl (jD (js row) (zb.new _ _ _)) uN_ vF_ ?_; intro v10 w10 own10 gr10)); have G10 : za w w10 := zy ((GV.trans gB).al _) gr10 (OwnA.out.alloc _); have OwnB10 := hh_ (World.ownsRow.kept (OwnB.out.alloc _) gr10 (xY OwnB.out OwnA.out uW_)); have Own10 := hh_ own10; clear own10 gr10
      by_cases hc : c = k
      ·have hd := xV Hok.out (Hz.out.grow G10) (show k <= xs.length by omega); simp only [sliced, if_pos hc, Option.map_some, zQ] at hd; have Dr := hh_ hd; clear hd
       go_wp2_with (at_builtin; refine zj rfl _ _ rfl w.heap.size _ _ (xs.take k ++ [I.mk Bb (zd row) cb (n)]) rfl Own10.out _ (xs.drop (k)) rfl ?src uN_ G10.size ?_; rotate_left; intro v11 w11 own11 gr11; have G11 : za w w11 := zy G10 gr11 Own10.out; have OwnB11 := hh_ (World.ownsRow.kept OwnB10.out gr11 (xY OwnB10.out Own10.out uW_)); have Own11 := hh_ own11; clear own11 gr11)
       case src => exact u9_
       obtain ⟨B, cap, rfl, hz, hk2⟩ := yQ (ys := xs.take k ++ [I.mk Bb (zd row) cb (n)] ++ xs.drop (k)) Own11.out (Zd (Hz.out.grow G11) (Y6 OwnB11.out rfl)); have Fin := hh_ (And.intro hz hk2); clear hz hk2; go_ret; exact ⟨B, _, cap, rfl, Fin.out.1, by rw [xt.out, jZ _ _ Hxk.out, Hd.out, if_neg uX_, if_neg h0, if_pos hN]; simp [zh], Fin.out.2, x5 Own11.out (Nat.le_refl _), (QT (x5 OwnB11.out GV.size)), G11⟩
      ·have hd := xV Hok.out (Hz.out.grow G10) (show k <= xs.length by omega); simp only [sliced, if_neg hc, Option.map_some, zQ] at hd; have Dr := hh_ hd; clear hd
       go_wp2_with (at_builtin; refine zj rfl _ _ rfl w.heap.size _ _ (xs.take k ++ [I.mk Bb (zd row) cb (n)]) rfl Own10.out _ (xs.drop (k)) rfl ?src uN_ G10.size ?_; rotate_left; intro v11 w11 own11 gr11; have G11 : za w w11 := zy G10 gr11 Own10.out; have OwnB11 := hh_ (World.ownsRow.kept OwnB10.out gr11 (xY OwnB10.out Own10.out uW_)); have Own11 := hh_ own11; clear own11 gr11)
       case src => exact u9_
       obtain ⟨B, cap, rfl, hz, hk2⟩ := yQ (ys := xs.take k ++ [I.mk Bb (zd row) cb (n)] ++ xs.drop (k)) Own11.out (Zd (Hz.out.grow G11) (Y6 OwnB11.out rfl)); have Fin := hh_ (And.intro hz hk2); clear hz hk2; go_ret; exact ⟨B, _, cap, rfl, Fin.out.1, by rw [xt.out, jZ _ _ Hxk.out, Hd.out, if_neg uX_, if_neg h0, if_pos hN]; simp [zh], Fin.out.2, x5 Own11.out (Nat.le_refl _), (QT (x5 OwnB11.out GV.size)), G11⟩
  ·obtain rfl : k = xs.length := by omega
   have hlt2 : decide ((xs.length : Int) < (xs.length : Int)) = false := by simp
   go_upto_region 5 with (at_builtin; refine zj rfl _ _ rfl w.heap.size _ 0 [] rfl (World.ownsRow_made _ _ 0 hg.size uh_ uY_) _ (xs.take xs.length) rfl (Tk.out.grow ((za.refl wr).al _)) (by rw [List.length_take]; omega) v5_ ?_; intro v8 w8 own8 gr8; have GW : za wr w8 := zy ((za.refl wr).al _) gr8 (World.ownsRow_made (e := 53) (size := 2) _ #[] 0 (za.refl wr).size uh_ uY_); have e8 : 0 + (xs.take xs.length).length = xs.length := vr_; rw [e8] at own8; have Own8 := hh_ (show w8.ownsRow w.heap.size 53 2 v8 xs.length (zr (xs.take xs.length)) from own8); clear own8 gr8 e8); go_upto_region 8 with fail
   by_cases hN : n = 0
   ·have GV := hg.trans GW; have Own9 := hh_ (zi Own8.out (za.refl _)); have dn : (n != 0) = false := by simpa using hN
    go_upto_region 10 with fail
    by_cases hc : c = xs.length
    ·have hd := xV Hok.out (Hz.out.grow GV) (show xs.length <= xs.length by omega); simp only [sliced, if_pos hc, Option.map_some, zQ] at hd; have Dr := hh_ hd; clear hd
     go_wp2_with (at_builtin; refine zj rfl _ _ rfl w.heap.size _ _ (xs.take xs.length) rfl Own9.out _ (xs.drop (xs.length)) rfl ?src uN_ GV.size ?_; rotate_left; intro v11 w11 own11 gr11; have G11 : za w w11 := zy GV gr11 Own9.out; have Own11 := hh_ own11; clear own11 gr11)
     case src => exact u9_
     obtain ⟨B, cap, rfl, hz, hk2⟩ := yQ (ys := xs.take xs.length ++ xs.drop (xs.length)) Own11.out (Xu (Hz.out.grow G11)); have Fin := hh_ (And.intro hz hk2); clear hz hk2; go_ret; exact ⟨B, _, cap, rfl, Fin.out.1, by rw [xt.out, List.drop_length]; simp [qB, hN, zh], Fin.out.2, x5 Own11.out (Nat.le_refl _), (YW _), G11⟩
    ·have hd := xV Hok.out (Hz.out.grow GV) (show xs.length <= xs.length by omega); simp only [sliced, if_neg hc, Option.map_some, zQ] at hd; have Dr := hh_ hd; clear hd
     go_wp2_with (at_builtin; refine zj rfl _ _ rfl w.heap.size _ _ (xs.take xs.length) rfl Own9.out _ (xs.drop (xs.length)) rfl ?src uN_ GV.size ?_; rotate_left; intro v11 w11 own11 gr11; have G11 : za w w11 := zy GV gr11 Own9.out; have Own11 := hh_ own11; clear own11 gr11)
     case src => exact u9_
     obtain ⟨B, cap, rfl, hz, hk2⟩ := yQ (ys := xs.take xs.length ++ xs.drop (xs.length)) Own11.out (Xu (Hz.out.grow G11)); have Fin := hh_ (And.intro hz hk2); clear hz hk2; go_ret; exact ⟨B, _, cap, rfl, Fin.out.1, by rw [xt.out, List.drop_length]; simp [qB, hN, zh], Fin.out.2, x5 Own11.out (Nat.le_refl _), (YW _), G11⟩
   ·have GV := hg.trans GW; have Own9 := hh_ (zi Own8.out (za.refl _)); have dn : (n != 0) = true := by simpa using hN
    go_upto_region 10 with (first | (go_at_call 34; ((with_reducible refine (Q4 row Ar cr _ hl Hr.out (Hx.out.grow GV)).mono ?_); rintro e wB ⟨Bb, cb, rfl, ownB, gB⟩; have OwnB := hh_ ownB; have OwnA := hh_ (zi Own9.out gB); clear ownB)) | (at_builtin; refine zj rfl _ _ rfl w.heap.size _ xs.length (xs.take xs.length) rfl (OwnA.out.alloc _) _ [I.mk Bb (zd row) cb (n)] rfl (jD (js row) (zb.new _ _ _)) uN_ vF_ ?_; intro v10 w10 own10 gr10)); have G10 : za w w10 := zy ((GV.trans gB).al _) gr10 (OwnA.out.alloc _); have OwnB10 := hh_ (World.ownsRow.kept (OwnB.out.alloc _) gr10 (xY OwnB.out OwnA.out uW_)); have Own10 := hh_ own10; clear own10 gr10
    by_cases hc : c = xs.length
    ·have hd := xV Hok.out (Hz.out.grow G10) (show xs.length <= xs.length by omega); simp only [sliced, if_pos hc, Option.map_some, zQ] at hd; have Dr := hh_ hd; clear hd
     go_wp2_with (at_builtin; refine zj rfl _ _ rfl w.heap.size _ _ (xs.take xs.length ++ [I.mk Bb (zd row) cb (n)]) rfl Own10.out _ (xs.drop (xs.length)) rfl ?src uN_ G10.size ?_; rotate_left; intro v11 w11 own11 gr11; have G11 : za w w11 := zy G10 gr11 Own10.out; have OwnB11 := hh_ (World.ownsRow.kept OwnB10.out gr11 (xY OwnB10.out Own10.out uW_)); have Own11 := hh_ own11; clear own11 gr11)
     case src => exact u9_
     obtain ⟨B, cap, rfl, hz, hk2⟩ := yQ (ys := xs.take xs.length ++ [I.mk Bb (zd row) cb (n)] ++ xs.drop (xs.length)) Own11.out (Zd (Hz.out.grow G11) (Y6 OwnB11.out rfl)); have Fin := hh_ (And.intro hz hk2); clear hz hk2; go_ret; exact ⟨B, _, cap, rfl, Fin.out.1, by rw [xt.out, List.drop_length]; simp [qB, hN, zh], Fin.out.2, x5 Own11.out (Nat.le_refl _), (QT (x5 OwnB11.out GV.size)), G11⟩
    ·have hd := xV Hok.out (Hz.out.grow G10) (show xs.length <= xs.length by omega); simp only [sliced, if_neg hc, Option.map_some, zQ] at hd; have Dr := hh_ hd; clear hd
     go_wp2_with (at_builtin; refine zj rfl _ _ rfl w.heap.size _ _ (xs.take xs.length ++ [I.mk Bb (zd row) cb (n)]) rfl Own10.out _ (xs.drop (xs.length)) rfl ?src uN_ G10.size ?_; rotate_left; intro v11 w11 own11 gr11; have G11 : za w w11 := zy G10 gr11 Own10.out; have OwnB11 := hh_ (World.ownsRow.kept OwnB10.out gr11 (xY OwnB10.out Own10.out uW_)); have Own11 := hh_ own11; clear own11 gr11)
     case src => exact u9_
     obtain ⟨B, cap, rfl, hz, hk2⟩ := yQ (ys := xs.take xs.length ++ [I.mk Bb (zd row) cb (n)] ++ xs.drop (xs.length)) Own11.out (Zd (Hz.out.grow G11) (Y6 OwnB11.out rfl)); have Fin := hh_ (And.intro hz hk2); clear hz hk2; go_ret; exact ⟨B, _, cap, rfl, Fin.out.1, by rw [xt.out, List.drop_length]; simp [qB, hN, zh], Fin.out.2, x5 Own11.out (Nat.le_refl _), (QT (x5 OwnB11.out GV.size)), G11⟩
theorem zaf (xs : List I) (A : Option Addr) (c : Nat) (row : List V) (Ar : Option Addr) (cr : Nat) (n : Int) (w : World) (hlen : xs.length <= 200000) (hok : yf A xs.length c) (hz : xe w A xs) (hrow : ∀ x ∈ xs, x.row.length <= 1000) (hw : ∀ x ∈ xs, -2000000000000000000 <= x.w /\ x.w <= 2000000000000000000) (hl : row.length <= 1000) (hr : ∀ v ∈ row, RV v) (hx : xi w Ar row) (hn : -1000000000000000000 <= n /\ n <= 1000000000000000000) :
  Calls Tryz.prog 38 #[.slice A xs.length c, .slice Ar row.length cr, .int .i64 n] w fun en w' => zaR w w' en (qB (xs.map zh) row n) := (zah xs A c row Ar cr n w hlen hok hz hrow hw hl hr hx hn).mono fun _ _ ⟨B, ys, cap, h1, h2, h3, h4, _, _, h5⟩ => ⟨B, ys, cap, h1, h2, h3, h4, h5⟩
structure S where
 A : Option Addr
 xs : List I
 cap : Nat
instance : Inhabited S := ⟨⟨none, [], 0⟩⟩
def S.z (s : S) : List Z := s.xs.map zh
def BS (w : World) (A : Option Addr) (ss : List S) : Prop := ∀ i s, ss[i]? = some s -> ∃ g o, A = some ⟨g, o, none⟩ /\ w.cell? ⟨g, o + i, none⟩ = some (.slice s.A s.xs.length s.cap) /\ xe w s.A s.xs
theorem BS.grow {w w' : World} {A : Option Addr} {ss : List S} (h : BS w A ss) (hg : za w w') : BS w' A ss := fun i s hs => by
 obtain ⟨g, o, hA, a, b⟩ := h i s hs; exact ⟨g, o, hA, hg.cell a, b.grow hg⟩
def qh : List (List Z) -> Int
 | [] => 0
 | z :: l => if zC z ≠ 0 then zC z else qh l
theorem V4 {ss : List S} {k : Nat} {s : S} (h : ss[k]? = some s) : qh ((ss.drop k).map S.z) = if zC s.z ≠ 0 then zC s.z else qh ((ss.drop (k + 1)).map S.z) := wb_
def S.ok (s : S) : Prop := s.xs.length <= 9223372036854775807 /\ ∀ x ∈ s.xs, x.row.length <= 9223372036854775807
theorem KO (ss : List S) (A : Option Addr) (c : Nat) (w : World) (hlen : ss.length <= 9223372036854775807) (hs : BS w A ss) (hl : ∀ s ∈ ss, s.ok) (R : Int) (hR : qh (ss.map S.z) = R) :
  Calls Tryz.prog 141 #[.slice A ss.length c] w fun en w' => en = .returned (.int .i64 R) /\ za w w' := by
 have HR := hh_ hR; have Hs := hh_ hs; have Hl := hh_ hl; clear hs hR hl; go_enter Tryz.func141, Tryz.ntmps141; go_wp2
 go_loopw [8] (fun i wr => ∃ k : Nat, k <= ss.length /\ i = .int .i64 k /\ qh ((ss.drop k).map S.z) = R /\ za w wr) (fun i _ => ss.length - (intOf i).toNat)
 case atStart => exact yy_
 case round =>
  obtain ⟨k, hk, rfl, hinv, hg⟩ := hrel; have xt := hh_ hinv; clear hinv
  by_cases hlt : k < ss.length
  ·obtain ⟨s, hsk⟩ : ∃ s, ss[k]? = some s := ⟨_, qQ_ hlt⟩
   obtain ⟨g, o, rfl, c1, hz⟩ := (Hs.out.grow hg) k s hsk; have hok := Hl.out s (qZ_ hsk); have inv2 := (V4 hsk).symm.trans xt.out; obtain ⟨E, hE⟩ : ∃ E, zC s.z = E := ⟨_, rfl⟩
   rw [hE] at inv2; have cs := fun W (h : za wr W) => KM s.xs s.A s.cap W hok.1 (hz.grow h) hok.2 E hE
   have Inv2 := hh_ inv2; clear inv2 hsk hz hok hE
   by_cases hw : E = 0
   ·have dw : (E != 0) = false := by simpa using hw
    go_wp2_with (go_at_call 65; ((with_reducible refine (cs _ ze).mono ?_); rintro e w2 ⟨rfl, hg2⟩))
    go_roundw
    case rel => exact xJ_
    case measure => exact u1_
   ·have dw : (E != 0) = true := by simpa using hw
    go_wp2_with (go_at_call 65; ((with_reducible refine (cs _ ze).mono ?_); rintro e w2 ⟨rfl, hg2⟩))
    go_ret; exact zk ox_ (hg.trans hg2)
  ·obtain rfl : k = ss.length := by omega
   have fin : R = 0 := by have := xt.out; rw [List.drop_length] at this; exact this.symm
   go_wp2; go_ret; exact zk fin.symm hg
theorem Dt (n : Nat) (w : World) (hn : n <= 100000) :
  Calls Tryz.prog 175 #[.slice none 0 0, .int .i64 n] w fun e w' => ∃ v, e = .returned v /\ w'.ownsRow w.heap.size 53 2 v 0 (zr []) /\ za w w' := by
 obtain ⟨ti, hti, hz0, hz1, hz2⟩ := qO; go_enter Tryz.func175, Tryz.ntmps175
 by_cases h0 : n = 0
 ·exact xh_
 ·have hpos : decide ((0 : Int) < (n : Int)) = true := decide_eq_true uX_; have hwp : IntKind.i64.wrap (n : Int) = (n : Int) := by rw [IntKind.wrap_i64]; omega
  have hrz := fun ty => Lib.run_append_nil_zeros w 25 3 ty 53 ti _ .i64 .i64 Tryz.underlying25 Tryz.underlying3 hti hz0 n uX_ uX_ uX_ ut_
  have hge : n <= grownCap w n 0 53 := grownCap_ge w n 0 _; have hmx := grownCap_le_maxLen w n 0 53 uh_; obtain ⟨G, hG⟩ : ∃ G, grownCap w n 0 53 = G := ⟨_, rfl⟩
  rw [hG] at hrz hge hmx; have HM := hh_ hmx; have hG63 : G <= 9223372036854775807 := by unfold maxLen at hmx; omega
  clear hG hmx
  go_wp2_with (at_builtin; refine Lib.wpList_append_run _ rfl _ _ _ _ rfl _ _ rfl rfl _ _ (hrz _) ?_)
  go_ret; refine ⟨_, rfl, World.ownsRow_made w.drew _ G (Nat.le_refl _) HM.out ?_, (za.refl w).drew.al _⟩; simp [size_zeroCells, Value.cells]; omega
def fl (ss : List S) : List I := ss.flatMap S.xs
theorem Ng {ss : List S} {k : Nat} {s : S} (h : ss[k]? = some s) : fl (ss.take (k + 1)) = fl (ss.take k) ++ s.xs := by
 obtain ⟨h1, e1⟩ := qQ9.1 h; rw [List.take_succ_eq_append_getElem h1, e1]; simp [fl]
theorem Dn (ss : List S) (k : Nat) : (fl (ss.take k)).length <= (fl ss).length := by
 have : fl ss = fl (ss.take k) ++ fl (ss.drop k) := by unfold fl; rw [<- List.flatMap_append, List.take_append_drop]
 rw [this, List.length_append]; omega
theorem BS.vsl {w : World} {A : Option Addr} {ss : List S} (h : BS w A ss) : ∀ x ∈ fl ss, xi w x.A x.row := fun x hx => by
 obtain ⟨s, hs, hx⟩ := List.mem_flatMap.1 hx; obtain ⟨i, hi, e⟩ := List.mem_iff_getElem.1 hs; obtain ⟨_, _, _, _, hz⟩ := h i s vg_; exact hz.vsl x hx
theorem zap {w : World} {A : Option Addr} {xs : List I} {c : Nat} (h : yf A xs.length c) (hz : xe w A xs) : BU w (.slice A xs.length c) xs := by
 have := Rq h hz (Nat.le_refl _)
 rwa [List.take_length] at this
theorem Sb (ss : List S) (A : Option Addr) (c : Nat) (w : World) (hlen : ss.length <= 1000) (hs : BS w A ss) (hsum : (fl ss).length <= 10000) (hok : ∀ s ∈ ss, yf s.A s.xs.length s.cap) :
  Calls Tryz.prog 142 #[.slice A ss.length c] w fun en w' => ∃ (B : Option Addr) (cap : Nat), en = .returned (.slice B (fl ss).length cap) /\ xe w' B (fl ss) /\ yf B (fl ss).length cap /\ za w w' := by
 have Hs := hh_ hs; have Hok := hh_ hok; clear hs hok; go_enter Tryz.func142, Tryz.ntmps142; go_wp2
 go_loopw [3, 11] (fun n i wr => ∃ (k m : Nat), k <= ss.length /\ i = .int .i64 k /\ n = .int .i64 m /\ m = (fl (ss.take k)).length /\ za w wr) (fun _ i _ => ss.length - (intOf i).toNat)
 case atStart => exact xN_
 case round =>
  rename World => wa
  obtain ⟨k, m, hk, rfl, rfl, hm, hg⟩ := hrel; have Hm := hh_ hm; clear hm
  by_cases hlt : k < ss.length
  ·obtain ⟨s, hsk⟩ : ∃ s, ss[k]? = some s := ⟨_, qQ_ hlt⟩
   obtain ⟨g, o, rfl, c1, hz⟩ := (Hs.out.grow hg) k s hsk; have hm2 : m + s.xs.length = (fl (ss.take (k + 1))).length := by rw [Ng hsk, List.length_append, <- Hm.out]
   have hb := Dn ss (k + 1); rw [<- hm2] at hb; have Hm2 := hh_ hm2; have hwp : IntKind.i64.wrap ((m : Int) + (s.xs.length : Int)) = ((m + s.xs.length : Nat) : Int) := by rw [IntKind.wrap_i64]; omega
   have d0 : decide (((m + s.xs.length : Nat) : Int) < 0) = false := decide_eq_false uX_; clear hm2 hsk hz; go_wp2; go_roundw
   case rel => exact xk_
   case measure => exact u1_
  ·obtain rfl : k = ss.length := by omega
   have hm2 : m <= 10000 := by rw [Hm.out, List.take_length]; exact hsum
   have cg := fun W => Dt m W uX_
   go_upto_region 10 with (go_at_call 175; ((with_reducible refine (cg _).mono ?_); rintro en w2 ⟨v, rfl, hown, hg2⟩; have Own := hh_ hown; clear hown)); have G2 := hg.trans hg2; go_wp2
   go_loopw [6, 27] (fun t i wq => ∃ (k n : Nat), k <= ss.length /\ i = .int .i64 k /\ n = (fl (ss.take k)).length /\ wq.ownsRow wa.heap.size 53 2 t n (zr (fl (ss.take k))) /\ za wa wq) (fun _ i _ => ss.length - (intOf i).toNat)
   case atStart => exact xS_
   case round =>
    obtain ⟨k, n, hk, rfl, hn, hown, hg3⟩ := hrel; have Own3 := hh_ hown; have Hn := hh_ hn; clear hown hn
    by_cases hlt : k < ss.length
    ·obtain ⟨s, hsk⟩ : ∃ s, ss[k]? = some s := ⟨_, qQ_ hlt⟩
     obtain ⟨g, o, rfl, c1, hz⟩ := (Hs.out.grow (hg.trans hg3)) k s hsk; have src := hh_ (zap (Hok.out s (qZ_ hsk)) hz); have hn2 : n + s.xs.length = (fl (ss.take (k + 1))).length := by rw [Ng hsk, List.length_append, <- Hn.out]
     have hfl := hh_ (Ng hsk); have hb := Dn ss (k + 1); rw [<- hn2] at hb; have Hn2 := hh_ hn2; clear hn2 hsk hz
     go_wp2_with (at_builtin; refine zj rfl _ _ rfl wa.heap.size _ n (fl (ss.take k)) rfl Own3.out _ s.xs rfl src.out uX_ hg3.size ?_; intro v' w7 hown' hgrow)
     have hg7 : za wa w7 := zy hg3 hgrow Own3.out; have Own7 := hh_ hown'; clear hgrow hown'; go_wp2; go_roundw
     case rel => exact wY_
     case measure => exact u1_
    ·obtain rfl : k = ss.length := by omega
     have own := Own3.out; have hn := Hn.out; rw [List.take_length] at own hn; rw [hn] at own; obtain ⟨B, cap, rfl, hz, hk⟩ := Xm own (Hs.out.grow (hg.trans hg3)).vsl; have Fin := hh_ (And.intro hz hk); clear own hn hz hk; go_wp2; go_ret; exact ⟨B, cap, rfl, Fin.out.1, Fin.out.2, hg.trans hg3⟩
theorem To {K : Int} : ∀ (l z : List Z) {M : Int}, 0 <= M -> 0 <= K -> Pf M z -> Pf K l -> Pf (M + K * l.length) (WQ z l)
 | [], z, M, _, _, hz, _ => by simpa [WQ] using hz
 | x :: l, z, M, hM, hK, hz, hl => by
  have h1 := zae (r := x.1) (n := x.2) hz hM (hl x uY_).1 (hl x uY_).2; have h2 := To l (qB z x.1 x.2) (M := M + K) uX_ hK h1 (fun y hy => hl y uS_); rw [YF]; intro y hy; have := h2 y hy; rw [List.length_cons, Int.natCast_succ, Int.mul_add, Int.mul_one]; omega
theorem T6 {K : Int} {l : List Z} (hK : 0 <= K) (hl : Pf K l) : Pf (K * l.length) (yE l) := fun y hy => by
 have := To l [] (M := 0) uX_ hK (fun x hx => by simp at hx) hl y hy; omega
theorem Bm (l : List Z) (x : Z) : yE (l ++ [x]) = qB (yE l) x.1 x.2 := by unfold yE WQ; rw [List.foldl_append]; rfl
def Pl (l : List Z) : Prop := (∀ x ∈ l, x.1.length <= 1000 /\ ∀ v ∈ x.1, RV v) /\ Pf 1000000 l
theorem Pl.snoc {l : List Z} {x : Z} (h : Pl l) (h1 : x.1.length <= 1000) (h2 : ∀ v ∈ x.1, RV v) (h3 : -1000000 <= x.2 /\ x.2 <= 1000000) : Pl (l ++ [x]) := wI_
theorem Pl.nil : Pl [] := ⟨fun x hx => by simp at hx, fun x hx => by simp at hx⟩
structure ZV (w wr : World) (t : Value) (l : List Z) : Prop where
 sl : ∃ (B : Option Addr) (ys : List I) (cap : Nat), t = .slice B ys.length cap /\ xe wr B ys /\ ys.map zh = yE l /\ yf B ys.length cap
 grow : za w wr
 pl : Pl l
theorem ZV.nil (w wr : World) (hg : za w wr) : ZV w wr (.slice none 0 0) [] := ⟨⟨none, [], 0, rfl, zX _ _, rfl, yf.nil⟩, hg, Pl.nil⟩
theorem ZV.more {w wr wq : World} {t : Value} {l : List Z} (h : ZV w wr t l) (hg : za wr wq) : ZV w wq t l := xs_
theorem Ey {w wr : World} {t : Value} {l : List Z} (h : ZV w wr t l) (row : List V) (Ar : Option Addr) (cr : Nat) (n : Int) (hx : xi wr Ar row) (hl : row.length <= 1000) (hr : ∀ v ∈ row, RV v) (hn : -1000000 <= n /\ n <= 1000000) (hlen : l.length <= 5000) :
  Calls Tryz.prog 38 #[t, .slice Ar row.length cr, .int .i64 n] wr fun en w' => ∃ v, en = .returned v /\ ZV w w' v (l ++ [(row, n)]) /\ za wr w' := by
 obtain ⟨⟨B, ys, cap, rfl, hz, hm, hk⟩, hg, hp⟩ := h
 have hlen2 : ys.length <= 5000 := by
  have h1 := congrArg List.length hm; have h2 := Yw l; simp at h1; omega
 have hrow : ∀ x ∈ ys, x.row.length <= 1000 := fun x hx => by
  have h1 : zh x ∈ yE l := by rw [<- hm]; exact qZ9 hx
  obtain ⟨u, hu, e⟩ := kF h1; have := (hp.1 u hu).1; have e2 : x.row = zd u.1 := e; rw [e2]; simpa [zd] using this
 have hw : ∀ x ∈ ys, -1000000000000000 <= x.w /\ x.w <= 1000000000000000 := fun x hx => by
  have h1 : zh x ∈ yE l := by rw [<- hm]; exact qZ9 hx
  have h2 := T6 uX_ hp.2 _ h1; simp only [zh] at h2; omega
 refine (zaf ys B cap row Ar cr n wr uX_ hk hz hrow (fun x hx => by have := hw x hx; omega) hl hr hx uX_).mono ?_; rintro en w' ⟨C, zs, cap2, rfl, hz2, hm2, hk2, hg2⟩; exact ⟨_, rfl, ⟨⟨C, zs, cap2, rfl, hz2, by rw [hm2, hm, Bm], hk2⟩, hg.trans hg2, hp.snoc hl hr hn⟩, hg2⟩
theorem ED (xs : List I) (A : Option Addr) (c : Nat) (w : World) (hlen : xs.length <= 9223372036854775807) (hz : xe w A xs) (hok : yf A xs.length c) :
  Calls Tryz.prog 39 #[.slice A xs.length c] w fun en w' => yr w w' en (Xb (xs.map zh)) := by
 have Hz := hh_ hz; have Hok := hh_ hok; obtain ⟨B, hB⟩ : ∃ b, (xs.map zh).any (fun x => xx x.2) = b := ⟨_, rfl⟩
 have HB := hh_ hB; clear hz hok hB; go_enter Tryz.func39, Tryz.ntmps39; go_wp2
 go_loopw [8] (fun i wr => ∃ k : Nat, k <= xs.length /\ i = .int .i64 k /\ ((xs.drop k).map zh).any (fun x => xx x.2) = B /\ za w wr) (fun i _ => xs.length - (intOf i).toNat)
 case atStart => exact ⟨0, Nat.zero_le _, rfl, HB.out, za.refl _⟩
 case round =>
  obtain ⟨k, hk, rfl, hinv, hg⟩ := hrel; have xt := hh_ hinv; clear hinv
  by_cases hlt : k < xs.length
  ·obtain ⟨x, hxk⟩ : ∃ x, xs[k]? = some x := ⟨_, qQ_ hlt⟩
   obtain ⟨gx, ox, rfl, c1, c2, hxv⟩ := (Hz.out.grow hg) k x hxk; have inv2 := (Cp hxk).symm.trans xt.out; have Inv2 := hh_ inv2; clear inv2 hxk hxv
   by_cases h1 : xx x.w = true
   ·go_wp2_with (go_at_call 61; ((with_reducible refine (YK _ _).mono ?_); rintro e w3 ⟨rfl, rfl⟩; rw [h1]))
    refine qX_ oW_ rfl ?_; have fin : B = true := by have := Inv2.out; rw [h1, Bool.true_or] at this; exact this.symm
    have e : Xb (xs.map zh) = ([], 3) := by unfold Xb; rw [if_pos (HB.out.trans fin)]
    exact ⟨none, [], 0, by rw [e]; rfl, zX _ _, by rw [e]; rfl, yf.nil, hg.al _⟩
   ·have h1' : xx x.w = false := by simpa using h1
    go_wp2_with (go_at_call 61; ((with_reducible refine (YK _ _).mono ?_); rintro e w3 ⟨rfl, rfl⟩; rw [h1']))
    go_roundw
    case rel => exact ⟨k + 1, by omega, by go_num, by have := Inv2.out; rw [h1', Bool.false_or] at this; exact this, hg.al _⟩
    case measure => exact u1_
  ·obtain rfl : k = xs.length := by omega
   have fin : B = false := by have := xt.out; rw [List.drop_length] at this; exact this.symm
   have fin2 : ¬ (xs.map zh).any (fun x => xx x.2) = true := by rw [HB.out, fin]; simp
   have Fin2 := hh_ fin2; clear fin2
   by_cases h4 : 400 < xs.length
   ·have d4 : decide ((400 : Int) < (xs.length : Int)) = true := decide_eq_true uX_; go_wp2; refine qX_ oW_ rfl ?_; have e : Xb (xs.map zh) = ([], 5) := by unfold Xb; rw [if_neg Fin2.out, if_pos uz_]
    exact ⟨none, [], 0, by rw [e]; rfl, zX _ _, by rw [e]; rfl, yf.nil, hg⟩
   ·have d4 : decide ((400 : Int) < (xs.length : Int)) = false := decide_eq_false uX_; go_wp2; refine qX_ oW_ rfl ?_; have e : Xb (xs.map zh) = (xs.map zh, 0) := by unfold Xb; rw [if_neg Fin2.out, if_neg uz_]
    exact ⟨A, xs, c, by rw [e], Hz.out.grow hg, by rw [e], Hok.out, hg⟩
theorem BE {xs : List I} {k : Nat} {x : I} (h : xs[k]? = some x) : (xs.take (k + 1)).map zh = (xs.take k).map zh ++ [(x.row, x.w)] := by
 obtain ⟨h1, e1⟩ := qQ9.1 h; rw [List.take_succ_eq_append_getElem h1, e1]; simp [zh]
theorem BD (xs : List I) (k : Nat) : ((xs.take k).map zh).length <= k := by simp; omega
theorem EG (xs : List I) (A : Option Addr) (c : Nat) (w : World) (hlen : xs.length <= 5000) (hz : xe w A xs) (hrow : ∀ x ∈ xs, x.row.length <= 1000) (hrv : ∀ x ∈ xs, ∀ v ∈ x.row, RV v) (hw : ∀ x ∈ xs, -1000000 <= x.w /\ x.w <= 1000000) :
  Calls Tryz.prog 62 #[.slice A xs.length c] w fun en w' => yr w w' en (yy (xs.map zh)) := by
 have Hz := hh_ hz; have Hrow := hh_ hrow; have Hrv := hh_ hrv; have Hw := hh_ hw; clear hz hrow hrv hw; go_enter Tryz.func62, Tryz.ntmps62; go_wp2
 go_loopw [4, 9] (fun t i wr => ∃ k : Nat, k <= xs.length /\ i = .int .i64 k /\ ZV w wr t ((xs.take k).map zh)) (fun _ i _ => xs.length - (intOf i).toNat)
 case atStart => exact ⟨0, Nat.zero_le _, rfl, ZV.nil _ _ (za.refl _)⟩
 case round =>
  obtain ⟨k, hk, rfl, hst⟩ := hrel; have hg := hst.grow; have St := hh_ hst; clear hst
  by_cases hlt : k < xs.length
  ·obtain ⟨x, hxk⟩ : ∃ x, xs[k]? = some x := ⟨_, qQ_ hlt⟩
   obtain ⟨gx, ox, rfl, c1, c2, hxv⟩ := (Hz.out.grow hg) k x hxk; have hmem := qZ_ hxk; have cp := fun W (h : za wr W) => Ey (St.out.more h) x.row x.A x.cap x.w (hxv.grow h) (Hrow.out x hmem) (Hrv.out x hmem) (Hw.out x hmem) (by have := BD xs k; omega)
   rw [<- BE hxk] at cp; clear hxk hxv hmem
   go_wp2_with (go_at_call 38; ((with_reducible refine (cp _ ze).mono ?_); rintro e w3 ⟨v, rfl, hst3, hg3⟩; have St3 := hh_ hst3; clear hst3))
   go_roundw
   case rel => exact ⟨k + 1, by omega, by go_num, St3.out⟩
   case measure => exact u1_
  ·obtain rfl : k = xs.length := by omega
   have hst := St.out; rw [List.take_length] at hst; obtain ⟨⟨B, ys, cap, rfl, hzy, hm, hky⟩, _, hp⟩ := hst
   have hl2 : ys.length <= 9223372036854775807 := by
    have h1 := congrArg List.length hm; have h2 := Yw (xs.map zh); simp at h1 h2; omega
   have cf := ED ys B cap wr hl2 hzy hky; rw [hm] at cf; clear hzy hm hky hp
   go_wp2_with (go_at_call 39; ((with_reducible refine cf.mono ?_); rintro en w3 ⟨C, zs, cap2, rfl, hz3, hm3, hk3, hg3⟩; have Fin := hh_ (And.intro hz3 (And.intro hm3 hk3)); clear hz3 hm3 hk3))
   refine qX_ (by simp [results, Tryz.results62, go_sem] <;> rfl) rfl ?_; exact ⟨C, zs, cap2, rfl, Fin.out.1, Fin.out.2.1, Fin.out.2.2, hg.trans hg3⟩
theorem T7 {w : World} {g : Nat} {t : TypeId} {s1 s2 : S} (hb : zb w g t #[.slice s1.A s1.xs.length s1.cap, .slice s2.A s2.xs.length s2.cap]) (h1 : xe w s1.A s1.xs) (h2 : xe w s2.A s2.xs) : BS w (some ⟨g, 0, none⟩) [s1, s2] := fun i s hs => by
 match i, hs with
 | 0, hs => simp at hs; subst hs; exact ⟨g, 0, rfl, by rw [hb.cell]; rfl, h1⟩
 | 1, hs => simp at hs; subst hs; exact ⟨g, 0, rfl, by rw [hb.cell]; rfl, h2⟩
theorem zao {w : World} {g : Nat} {t : TypeId} {s1 : S} (hb : zb w g t #[.slice s1.A s1.xs.length s1.cap]) (h1 : xe w s1.A s1.xs) : BS w (some ⟨g, 0, none⟩) [s1] := fun i s hs => by
 match i, hs with
 | 0, hs => simp at hs; subst hs; exact ⟨g, 0, rfl, by rw [hb.cell]; rfl, h1⟩
structure In (w : World) (s : S) : Prop where
 z : xe w s.A s.xs
 sl : yf s.A s.xs.length s.cap
 ok : s.ok
theorem In.grow {w w' : World} {s : S} (h : In w s) (hg : za w w') : In w' s := ⟨h.z.grow hg, h.sl, h.ok⟩
def S.v (s : S) : Value := .slice s.A s.xs.length s.cap
theorem MZ (x y : List Z) (t : Int) : xf x y t = if qh [x, y] ≠ 0 then ([], qh [x, y]) else yy (x ++ yI t y) := by
 unfold xf qh
 by_cases h1 : zC x = 0
 ·by_cases h2 : zC y = 0
  ·simp [qh, h1, h2]
  ·simp [qh, h1, h2]
 ·simp [h1]
theorem Mw {x y : List Z} (h : qh [x, y] = 0) : zC x = 0 /\ zC y = 0 := by
 unfold qh at h; split at h
 ·exact wX_
 ·rename_i h1; unfold qh at h; split at h
  ·rename_i h2; exact absurd h h2
  ·rename_i h2; exact ⟨by simpa using h1, by simpa using h2⟩
theorem S.facts {s : S} (h : zC s.z = 0) : s.xs.length <= 400 /\ (∀ x ∈ s.xs, x.row.length <= 8) /\ (∀ x ∈ s.xs, ∀ v ∈ x.row, RV v) /\ ∀ x ∈ s.xs, -1000000 <= x.w /\ x.w <= 1000000 := by
 have h := (jK _).1 h; exact ⟨by simpa [S.z] using h.len, fun x hx => (h.row (zh x) (qZ9 hx)).1, fun x hx => (h.row (zh x) (qZ9 hx)).2, fun x hx => (h.w (zh x) (qZ9 hx)).2⟩
theorem Nh (a b : S) : fl [a, b] = a.xs ++ b.xs := by simp [fl]
theorem Uc (a b : S) (B : Option Addr) (cap : Nat) (w : World) (hz : xe w B (fl [a, b])) (ha : zC a.z = 0) (hb : zC b.z = 0) :
  Calls Tryz.prog 29 #[.slice B (fl [a, b]).length cap] w fun en w' => yr w w' en (yy (a.z ++ b.z)) := by
 obtain ⟨a1, a2, a3, a4⟩ := S.facts ha; obtain ⟨b1, b2, b3, b4⟩ := S.facts hb; have e : (fl [a, b]).map zh = a.z ++ b.z := by rw [Nh, List.map_append]; rfl
 rw [<- e]; have mem : ∀ x ∈ fl [a, b], x ∈ a.xs \/ x ∈ b.xs := fun x hx => by rw [Nh] at hx; exact List.mem_append.1 hx
 refine kW _ _ _ _ vU_ hz (fun x hx => ?_) (fun x hx => ?_) (fun x hx => ?_)
 ·rcases mem x hx with h | h
  ·have := a2 x h; omega
  ·have := b2 x h; omega
 ·rcases mem x hx with h | h
  ·exact a3 x h
  ·exact b3 x h
 ·rcases mem x hx with h | h
  ·exact a4 x h
  ·exact b4 x h
theorem KQ (a b : S) (g : Nat) (w : World) (t : TypeId) (h : zb w g t #[.slice a.A a.xs.length a.cap, .slice b.A b.xs.length b.cap]) (ha : In w a) (hb : In w b) :
  Calls Tryz.prog 141 #[.slice (some ⟨g, 0, none⟩) 2 2] w fun en w' => en = .returned (.int .i64 (qh [a.z, b.z])) /\ za w w' :=
 KO [a, b] (some ⟨g, 0, none⟩) 2 w uY_ (T7 h ha.z hb.z) (fun s hs => by simp at hs; rcases hs with rfl | rfl; exact ha.ok; exact hb.ok) _ rfl
theorem Th (a : S) (g : Nat) (w : World) (t : TypeId) (h : zb w g t #[.slice a.A a.xs.length a.cap]) (ha : In w a) :
  Calls Tryz.prog 141 #[.slice (some ⟨g, 0, none⟩) 1 1] w fun en w' => en = .returned (.int .i64 (zC a.z)) /\ za w w' :=
 KO [a] (some ⟨g, 0, none⟩) 1 w uY_ (zao h ha.z) (fun s hs => by simp at hs; rcases hs with rfl; exact ha.ok) _ (by simp only [List.map_cons, List.map_nil, qh]; split; rfl; simp_all)
theorem Ju (a b : S) (g : Nat) (w : World) (t : TypeId) (h : zb w g t #[.slice a.A a.xs.length a.cap, .slice b.A b.xs.length b.cap]) (ha : In w a) (hb : In w b) (hl : a.xs.length + b.xs.length <= 10000) :
  Calls Tryz.prog 142 #[.slice (some ⟨g, 0, none⟩) 2 2] w fun en w' => ∃ (B : Option Addr) (cap : Nat), en = .returned (.slice B (fl [a, b]).length cap) /\ xe w' B (fl [a, b]) /\ yf B (fl [a, b]).length cap /\ za w w' :=
 Sb [a, b] (some ⟨g, 0, none⟩) 2 w uY_ (T7 h ha.z hb.z) vU_ (fun s hs => by simp at hs; rcases hs with rfl | rfl; exact ha.sl; exact hb.sl)
theorem Tp (a b : S) (w : World) (ha : In w a) (hb : In w b) :
  Calls Tryz.prog 98 #[.slice a.A a.xs.length a.cap, .slice b.A b.xs.length b.cap] w fun en w' => yr w w' en (xf a.z b.z 1) := by
 have Ha := hh_ ha; have Hb := hh_ hb; clear ha hb; go_enter Tryz.func98, Tryz.ntmps98; obtain ⟨E, hE⟩ : ∃ E, qh [a.z, b.z] = E := ⟨_, rfl⟩
 have cr := fun W (h1 : zb W w.heap.size 25 #[.slice a.A a.xs.length a.cap, .slice b.A b.xs.length b.cap]) (hg : za w W) => KQ a b w.heap.size W _ h1 (Ha.out.grow hg) (Hb.out.grow hg)
 rw [hE] at cr; have HE := hh_ hE; clear hE; go_upto_region 2 with (go_at_call 141; ((with_reducible refine (cr _ (zb.new _ _ _) ze).mono ?_); rintro e w2 ⟨rfl, hg2⟩)); have G2 := ((za.refl w).al _).trans hg2; clear cr
 by_cases h0 : E = 0
 ·have d0 : (E != 0) = false := by simpa using h0
  obtain ⟨ra, rb⟩ := Mw (HE.out.trans h0); obtain ⟨a1, a2, a3, a4⟩ := S.facts ra; obtain ⟨b1, b2, b3, b4⟩ := S.facts rb; have cc := fun W (h1 : zb W w2.heap.size 25 #[.slice a.A a.xs.length a.cap, .slice b.A b.xs.length b.cap]) (hg : za w W) => Ju a b w2.heap.size W _ h1 (Ha.out.grow hg) (Hb.out.grow hg) uX_
  have fin : xf a.z b.z 1 = yy (a.z ++ b.z) := by rw [MZ, HE.out, if_neg ux_, Bl]
  have Fin := hh_ fin; have cs := fun B cap W hz => Uc a b B cap W hz ra rb
  clear fin ra rb a1 a2 a3 a4 b1 b2 b3 b4
  go_wp2_with (first
   | (go_at_call 142; ((with_reducible refine (cc _ (zb.new _ _ _) (G2.al _)).mono ?_); rintro e w3 ⟨B, cap, rfl, hz3, hk3, hg3⟩; have Hz3 := hh_ hz3; clear hz3 hk3))
   | (go_at_call 29; ((with_reducible refine (cs _ _ _ Hz3.out).mono ?_); rintro e w4 ⟨C, zs, cap2, rfl, hz4, hm4, hk4, hg4⟩; have Out := hh_ (And.intro hz4 (And.intro hm4 hk4)); clear hz4 hm4 hk4)))
  refine qX_ oX_ rfl ?_; exact ⟨C, zs, cap2, by rw [Fin.out], Out.out.1, by rw [Fin.out]; exact Out.out.2.1, Out.out.2.2, ((G2.al _).trans hg3).trans hg4⟩
 ·have d0 : (E != 0) = true := by simpa using h0
  go_wp2; refine qX_ oX_ rfl ?_; have e : xf a.z b.z 1 = ([], E) := by rw [MZ, HE.out, if_pos h0]
  exact ⟨none, [], 0, by rw [e]; rfl, zX _ _, by rw [e]; rfl, yf.nil, G2⟩
theorem DV.kept {w w' : World} {base n g : Nat} {v : Value} {xs : List Value} {r : List V} (h : DV w g r) (hown : w.ownsRow base 53 2 v n xs) (hg : w.grownBy w' v.ownBlock) : DV w' g r := by
 have h1 := hg.block g h.lt (fun e => by
  rcases hown.2 with ⟨rfl, _⟩ | ⟨g', cap, cur, rfl, _, hgb, _⟩
  ·simp [Value.ownBlock] at e
  ·simp [Value.ownBlock] at e; subst e; have h2 : w.heap[g]? = some (.cells (zN r).toArray 33 (0, 0)) := h; rw [hgb] at h2
   simp at h2)
 exact h1.trans h
theorem Sf (f : Int -> Int) {xs : List I} {k : Nat} {x : I} (h : xs[k]? = some x) : yP f ((xs.take (k + 1)).map zh) = yP f ((xs.take k).map zh) ++ (if f x.w ≠ 0 then [(zd x.row, f x.w)] else []) := by
 obtain ⟨h1, e1⟩ := qQ9.1 h; rw [List.take_succ_eq_append_getElem h1, e1]; unfold yP; simp only [List.map_append, List.filter_append, List.map_cons, List.map_nil, zh]
 by_cases hf : f x.w = 0
 ·simp [hf]
 ·simp [hf]
theorem FT (xs : List I) (A : Option Addr) (c : Nat) (w : World) (hlen : xs.length <= 9223372036854775807) (hz : xe w A xs) (hl : ∀ x ∈ xs, x.row.length <= 9223372036854775807) :
  Calls Tryz.prog 19 #[.slice A xs.length c] w fun en w' => yr w w' en (D4 (xs.map zh)) := by
 have Hz := hh_ hz; have Hl := hh_ hl; clear hz hl; go_enter Tryz.func19, Tryz.ntmps19
 by_cases h8 : 1600 < xs.length
 ·have d8 : decide ((1600 : Int) < (xs.length : Int)) = true := decide_eq_true uX_; go_wp2; refine qX_ oY_ rfl ?_; have e : D4 (xs.map zh) = ([], 5) := by unfold D4; rw [if_pos uG_]
  exact ⟨none, [], 0, by rw [e]; rfl, zX _ _, by rw [e]; rfl, yf.nil, za.refl _⟩
 ·have d8 : decide ((1600 : Int) < (xs.length : Int)) = false := decide_eq_false uX_; obtain ⟨R, hR⟩ : ∃ R, Ld (xs.map zh) = R := ⟨_, rfl⟩
  have e : D4 (xs.map zh) = if R ≠ 0 then ([], R) else yy (xs.map zh) := by unfold D4; rw [if_neg uG_, hR]
  have E := hh_ e; have HR := hh_ hR; clear e hR; go_wp2
  go_loopw [12] (fun i wr => ∃ k : Nat, k <= xs.length /\ i = .int .i64 k /\ Ld ((xs.drop k).map zh) = R /\ za w wr) (fun i _ => xs.length - (intOf i).toNat)
  case atStart => exact ⟨0, Nat.zero_le _, rfl, HR.out, za.refl _⟩
  case round =>
   obtain ⟨k, hk, rfl, hinv, hg⟩ := hrel; have xt := hh_ hinv; clear hinv
   by_cases hlt : k < xs.length
   ·obtain ⟨x, hxk⟩ : ∃ x, xs[k]? = some x := ⟨_, qQ_ hlt⟩
    obtain ⟨gx, ox, rfl, c1, c2, hxv⟩ := (Hz.out.grow hg) k x hxk; have hlx := Hl.out x (qZ_ hxk); have inv2 := (Hh hxk).symm.trans xt.out; have Hxv := hh_ hxv; have cb := fun W (h : za wr W) (R : Int) (hR : jH x.row = R) => Rg x.row x.A x.cap W hlx (Hxv.out.grow h) R hR
    obtain ⟨rx, hrx⟩ : ∃ r, jH x.row = r := ⟨_, rfl⟩
    rw [hrx] at inv2; have Inv2 := hh_ inv2; clear inv2 hxk hxv; go_upto_region 6 with fail
    refine zc (fun X => zb X wr.heap.size 53 #[.slice x.A x.row.length x.cap, .int .i64 x.w] /\ za wr X) ⟨zb.new _ _ _, (za.refl wr).al _⟩ ?_; rintro X ⟨Bx, G⟩; obtain ⟨bx, fx⟩ := Bx.rules
    by_cases hw : rx = 0
    ·have dw : (rx != 0) = false := by simpa using hw
     rw [if_neg uC_] at Inv2; go_upto_region 9 with (go_at_call 60; ((with_reducible refine (cb _ G rx hrx).mono ?_); rintro e w2 ⟨rfl, hg2⟩; have Bx2 := hh_ (Bx.grow hg2))); obtain ⟨bx2, fx2⟩ := Bx2.out.rules; have G2 := G.trans hg2
     by_cases h1 : xx x.w = true
     ·go_wp2_with (go_at_call 61; ((with_reducible refine (YK _ _).mono ?_); rintro e w3 ⟨rfl, rfl⟩; rw [h1]))
      refine qX_ oY_ rfl ?_; have r3 : R = 3 := by have := Inv2.out; rw [if_pos h1] at this; exact this.symm
      have e : D4 (xs.map zh) = ([], 3) := by rw [E.out, r3]; rfl
      exact ⟨none, [], 0, by rw [e]; rfl, zX _ _, by rw [e]; rfl, yf.nil, hg.trans G2⟩
     ·have h1' : xx x.w = false := by simpa using h1
      go_wp2_with (go_at_call 61; ((with_reducible refine (YK _ _).mono ?_); rintro e w3 ⟨rfl, rfl⟩; rw [h1']))
      go_roundw
      case rel => exact ⟨k + 1, by omega, by go_num, by have := Inv2.out; rw [if_neg h1] at this; exact this, hg.trans G2⟩
      case measure => exact u1_
    ·have dw : (rx != 0) = true := by simpa using hw
     go_wp2_with (go_at_call 60; ((with_reducible refine (cb _ G rx hrx).mono ?_); rintro e w2 ⟨rfl, hg2⟩))
     refine qX_ oY_ rfl ?_; have r3 : R = rx := by have := Inv2.out; rw [if_pos hw] at this; exact this.symm
     have e : D4 (xs.map zh) = ([], rx) := by rw [E.out, r3, if_pos hw]
     exact ⟨none, [], 0, by rw [e]; rfl, zX _ _, by rw [e]; rfl, yf.nil, hg.trans (G.trans hg2)⟩
   ·obtain rfl : k = xs.length := by omega
    have fin : R = 0 := by have := xt.out; rw [List.drop_length] at this; exact this.symm
    have hok := (Mi _).1 (HR.out.trans fin); have cs := EG xs A c wr uX_ (Hz.out.grow hg) (fun x hx => by have := (hok (zh x) (qZ9 hx)).1.1; simp [zh] at this; omega) (fun x hx => (hok (zh x) (qZ9 hx)).1.2) (fun x hx => (hok (zh x) (qZ9 hx)).2); have e : D4 (xs.map zh) = yy (xs.map zh) := by rw [E.out, fin]; rfl
    have E2 := hh_ e; clear hok e
    go_wp2_with (go_at_call 62; ((with_reducible refine cs.mono ?_); rintro en w3 ⟨C, zs, cap2, rfl, hz3, hm, hk3, hg3⟩; have Fin := hh_ (And.intro hz3 (And.intro hm hk3)); clear hz3 hm hk3))
    refine qX_ oY_ rfl ?_; exact ⟨C, zs, cap2, by rw [E2.out], Fin.out.1, by rw [E2.out]; exact Fin.out.2.1, Fin.out.2.2, hg.trans hg3⟩
theorem Ur {r : List V} (hr : ∀ v ∈ r, RV v) : ∀ {z : List Z}, (∀ y ∈ z, ∀ v ∈ y.1, RV v) -> (∀ y ∈ z, zK y.1 r ≠ 0) -> zW z r = 0
 | [], _, _ => rfl
 | y :: z, hz, h => by
  rw [zq, Ur hr (fun u hu => hz u uU_) (fun u hu => h u uU_), if_neg]
  ·rfl
  ·intro e; exact h y uY_ ((yR y.1 r (hz y uY_) hr).2 e)
theorem FO {r : List V} (hr : ∀ v ∈ r, RV v) : ∀ {z : List Z} {x : Z}, (∀ y ∈ z, ∀ v ∈ y.1, RV v) -> z.Pairwise (fun x y => zK x.1 y.1 < 0) -> x ∈ z -> zK x.1 r = 0 -> zW z r = x.2
 | y :: z, x, hz, hu, hx, h => by
  have e := (yR x.1 r (hz x hx) hr).1 h; rcases List.mem_cons.1 hx with rfl | hx
  ·rw [zq, if_pos e, Jh (hz x uY_) (fun u hu => hz u uU_) (List.pairwise_cons.1 hu).1 e]; simp
  ·rw [zq, FO hr (fun u hu => hz u uU_) (List.pairwise_cons.1 hu).2 hx h, if_neg]
   ·simp
   ·intro e2; have h1 := (List.pairwise_cons.1 hu).1 x hx; have h2 := (yR y.1 x.1 (hz y uY_) (hz x uR_)).2 (e2.trans e.symm); omega
abbrev zcs : Value := .func (.func 108) #[] #[]
theorem Un (x : I) (r : List V) (Ar : Option Addr) (cr : Nat) (w : World) (hx : xi w x.A x.row) (lx : x.row.length <= 9223372036854775807) (rx : ∀ v ∈ x.row, RV v) (hr : xi w Ar r) (lr : r.length <= 9223372036854775807) (rr : ∀ v ∈ r, RV v) :
  Calls Tryz.prog 108 #[.agg #[.slice x.A x.row.length x.cap, .int .i64 x.w], .slice Ar r.length cr] w fun e w' => e = .returned (.int .i64 (zK x.row r)) /\ za w w' := by
 have c := fun W (h : za w W) => qY x.row r x.A Ar x.cap cr W lx lr (hx.grow h) (hr.grow h)
 have e : zv x4 x.row r = zK x.row r := yg _ _ rx rr; rw [e] at c; clear hx hr rx rr e; go_enter Tryz.func108, Tryz.ntmps108
 go_wp2_with (go_at_call 27; ((with_reducible refine (c _ ze).mono ?_); rintro e w' ⟨rfl, hg'⟩))
 go_ret; exact zk rfl ze
theorem Pg (xs : List I) (A : Option Addr) (c : Nat) (r : List V) (Ar : Option Addr) (cr : Nat) (w : World) (hlen : xs.length <= 400) (hz : xe w A xs) (hl : ∀ x ∈ xs, x.row.length <= 8) (hrv : ∀ x ∈ xs, ∀ v ∈ x.row, RV v) (hup : ∀ (i j : Nat) (x y : I), xs[i]? = some x -> xs[j]? = some y -> i < j -> zK x.row y.row < 0) (hr : xi w Ar r) (lr : r.length <= 1000) (rr : ∀ v ∈ r, RV v) :
  Calls Tryz.prog 107 #[.slice A xs.length c, .slice Ar r.length cr, zcs] w fun en w' => (∃ (k : Nat) (b : Bool), en = .returned (.tuple #[.int .i64 k, .bool b]) /\ (b = true -> ∃ x, xs[k]? = some x /\ zK x.row r = 0) /\ (b = false -> ∀ x ∈ xs, zK x.row r ≠ 0)) /\ za w w' := by
 have Hz := hh_ hz; have Hl := hh_ hl; have Hrv := hh_ hrv; have Hup := hh_ hup; have Hr := hh_ hr; have Rr := hh_ rr; clear hz hl hrv hup hr rr; go_enter Tryz.func107, Tryz.ntmps107; go_wp2
 go_loopw [9, 10] (fun si sj wr => ∃ (i j : Nat), si = .int .i64 (i : Int) /\ sj = .int .i64 (j : Int) /\ i <= j /\ j <= xs.length /\ (∀ t x, xs[t]? = some x -> t < i -> zK x.row r < 0) /\ (∀ t x, xs[t]? = some x -> j <= t -> 0 <= zK x.row r) /\ za w wr) (fun si sj _ => (intOf sj).toNat - (intOf si).toNat)
 case atStart => exact ⟨0, xs.length, rfl, rfl, Nat.zero_le _, Nat.le_refl _, fun t x h1 h2 => by omega, fun t x h1 h2 => by have := (qQ9.1 h1).1; omega, za.refl _⟩
 case round =>
  obtain ⟨i, j, rfl, rfl, hij, hjb, hlo, hhi, hg⟩ := hrel; have Lo := hh_ hlo; have Hi := hh_ hhi; clear hlo hhi
  by_cases hlt : i < j
  ·have dl : decide ((i : Int) < (j : Int)) = true := by simp; omega
   obtain ⟨h, eh⟩ : ∃ h : Nat, h = (i + j) / 2 := ⟨_, rfl⟩
   have eh2 : ((i : Int) + (j : Int)) / 2 = (h : Int) := by omega
   have h1 : i <= h := by omega
   have h2 : h < j := by omega
   have hbig : (i : Int) + j <= 200000 := by omega
   have hhN : h < xs.length := by omega
   obtain ⟨x, hxk⟩ : ∃ x, xs[h]? = some x := ⟨_, qQ_ hhN⟩
   obtain ⟨gx, ox, rfl, c1, c2, hxv⟩ := (Hz.out.grow hg) h x hxk; have hmem := qZ_ hxk; have cc := fun W (h : za wr W) => Un x r Ar cr W (hxv.grow h) (by have := Hl.out x hmem; omega) (Hrv.out x hmem) (Hr.out.grow (hg.trans h)) uX_ Rr.out
   obtain ⟨d, hd⟩ : ∃ d, zK x.row r = d := ⟨_, rfl⟩
   rw [hd] at cc; have Hd := hh_ hd; have Hxk := hh_ hxk; have Eh := hh_ eh; have b0 : (0 : Int) <= (h : Int) := by omega
   have b1 : (h : Int) < (xs.length : Int) := by omega
   clear hd hxk hmem hxv eh
   by_cases hc : d < 0
   ·have dc : decide (d < 0) = true := by simpa using hc
    have hnew : ∀ t y, xs[t]? = some y -> t < h + 1 -> zK y.row r < 0 := fun t y ht hlt' => by
     by_cases e : t = h
     ·subst e; have := ht.symm.trans Hxk.out; cases this; rw [Hd.out]; exact hc
     ·exact jY (Hup.out t h y x ht Hxk.out uX_) (by rw [Hd.out]; exact hc)
    have Hnew := hh_ hnew; clear hnew
    go_wp2_with (go_at_call 108; ((with_reducible refine (cc _ (za.refl _)).mono ?_); rintro e w3 ⟨rfl, hg3⟩))
    go_roundw
    case rel => exact ⟨h + 1, j, by go_num, rfl, by omega, hjb, Hnew.out, Hi.out, hg.trans hg3⟩
    case measure => exact u1_
   ·have dc : decide (d < 0) = false := by simpa using hc
    have hnew : ∀ t y, xs[t]? = some y -> h <= t -> 0 <= zK y.row r := fun t y ht hlt' => by
     by_cases e : t = h
     ·subst e; have := ht.symm.trans Hxk.out; cases this; rw [Hd.out]; omega
     ·have h3 := Hup.out h t x y Hxk.out ht uX_; have h4 := yK x.row r; have h5 := xN (a := r) (b := x.row) (c := y.row) (by rw [h4, Hd.out]; omega) uX_; have h6 := yK y.row r; omega
    have Hnew := hh_ hnew; clear hnew
    go_wp2_with (go_at_call 108; ((with_reducible refine (cc _ (za.refl _)).mono ?_); rintro e w3 ⟨rfl, hg3⟩))
    go_roundw
    case rel => exact ⟨i, h, rfl, by go_num, by omega, by omega, Lo.out, Hnew.out, hg.trans hg3⟩
    case measure => exact u1_
  ·obtain rfl : i = j := by omega
   have dl : decide ((i : Int) < (i : Int)) = false := by simp
   by_cases hn : i < xs.length
   ·have dn : decide ((i : Int) < (xs.length : Int)) = true := by simp; omega
    obtain ⟨x, hxk⟩ : ∃ x, xs[i]? = some x := ⟨_, qQ_ hn⟩
    obtain ⟨gx, ox, rfl, c1, c2, hxv⟩ := (Hz.out.grow hg) i x hxk; have hmem := qZ_ hxk; have cc := fun W (h : za wr W) => Un x r Ar cr W (hxv.grow h) (by have := Hl.out x hmem; omega) (Hrv.out x hmem) (Hr.out.grow (hg.trans h)) uX_ Rr.out
    obtain ⟨d, hd⟩ : ∃ d, zK x.row r = d := ⟨_, rfl⟩
    rw [hd] at cc; have Hd := hh_ hd; have Hxk := hh_ hxk; have b0 : (0 : Int) <= (i : Int) := by omega
    have b1 : (i : Int) < (xs.length : Int) := by omega
    clear hd hxk hmem hxv
    have hres : ((d == 0) = true -> ∃ x, xs[i]? = some x /\ zK x.row r = 0) /\ ((d == 0) = false -> ∀ x ∈ xs, zK x.row r ≠ 0) := by
     refine ⟨fun e => ⟨x, Hxk.out, by rw [Hd.out]; simpa using e⟩, fun e y hy => ?_⟩; have hd0 : d ≠ 0 := by simpa using e
     obtain ⟨t, ht, ey⟩ := List.mem_iff_getElem.1 hy; have hty : xs[t]? = some y := by rw [<- ey]; exact qQ_ ht
     have hi0 := Hi.out i x Hxk.out (Nat.le_refl _); rw [Hd.out] at hi0; rcases Nat.lt_trichotomy t i with h | h | h
     ·have := Lo.out t y hty h; omega
     ·subst h; have := hty.symm.trans Hxk.out; cases this; rw [Hd.out]; exact hd0
     ·have h3 := Hup.out i t x y Hxk.out hty h; have h4 := yK x.row r; have h5 := jY (a := r) (b := x.row) (c := y.row) (by rw [h4, Hd.out]; omega) h3; have h6 := yK y.row r; omega
    have Res := hh_ hres; clear hres; obtain ⟨b, hb⟩ : ∃ b, (d == 0) = b := ⟨_, rfl⟩
    rw [hb] at Res
    go_wp2_with (go_at_call 108; ((with_reducible refine (cc _ (za.refl _)).mono ?_); rintro e w3 ⟨rfl, hg3⟩))
    refine qX_ oC_ rfl ?_; exact ⟨⟨i, b, rfl, Res.out.1, Res.out.2⟩, hg.trans hg3⟩
   ·obtain rfl : i = xs.length := by omega
    have hres : ∀ x ∈ xs, zK x.row r ≠ 0 := fun y hy => by
     obtain ⟨t, ht, ey⟩ := List.mem_iff_getElem.1 hy; have := Lo.out t y (by rw [<- ey]; exact qQ_ ht) ht; omega
    have Res := hh_ hres; clear hres; go_wp2; refine qX_ oC_ rfl ?_; exact ⟨⟨xs.length, false, rfl, (fun e => by cases e), (fun _ => Res.out)⟩, hg⟩
theorem RN (xs : List I) (A : Option Addr) (c : Nat) (r : List V) (Ar : Option Addr) (cr : Nat) (w : World) (hz : xe w A xs) (hw : zC (xs.map zh) = 0) (hr : xi w Ar r) (hre : jH r = 0) :
  Calls Tryz.prog 53 #[.slice A xs.length c, .slice Ar r.length cr] w fun en w' => en = .returned (.int .i64 (zW (xs.map zh) r)) /\ za w w' := by
 obtain ⟨a1, a2, a3, a4⟩ := S.facts (s := ⟨A, xs, c⟩) hw; have a1 : xs.length <= 400 := a1; have hup0 := ((jK _).1 hw).up; have hrv0 : ∀ y ∈ xs.map zh, ∀ v ∈ y.1, RV v := fun y hy => (((jK _).1 hw).row y hy).2
 have hup : ∀ (i j : Nat) (x y : I), xs[i]? = some x -> xs[j]? = some y -> i < j -> zK x.row y.row < 0 := fun i j x y hx hy hij => by
  have h1 := List.pairwise_iff_getElem.1 hup0 i j (by simpa using (qQ9.1 hx).1) (by simpa using (qQ9.1 hy).1) hij; simp only [List.getElem_map, (qQ9.1 hx).2, (qQ9.1 hy).2] at h1; exact h1
 obtain ⟨l8, rr⟩ := (kg r).1 hre; have cs := Pg xs A c r Ar cr w a1 hz a2 a3 hup hr uX_ rr; obtain ⟨R, hR⟩ : ∃ R, zW (xs.map zh) r = R := ⟨_, rfl⟩
 have hit : ∀ (k : Nat) (x : I), xs[k]? = some x -> zK x.row r = 0 -> x.w = R := fun k x hx h => by
  rw [<- hR]; exact (FO (x := zh x) rr hrv0 hup0 (qZ9 (qZ_ hx)) h).symm
 have miss : (∀ x ∈ xs, zK x.row r ≠ 0) -> R = 0 := fun h => by
  rw [<- hR]; exact Ur rr hrv0 (fun y hy => by obtain ⟨x, hx, rfl⟩ := List.mem_map.1 hy; exact h x hx)
 rw [hR]; have WZ := hh_ hit; have Miss := hh_ miss; have Hz := hh_ hz; clear hz hw hr hre a2 a3 a4 hup0 hrv0 hup rr hR hit miss; go_enter Tryz.func53, Tryz.ntmps53; go_upto_region 2 with (go_at_call 107; ((with_reducible refine cs.mono ?_); rintro en w2 ⟨⟨k, b, rfl, h1, h2⟩, hg2⟩; have H1 := hh_ h1; have H2 := hh_ h2; clear h1 h2)); cases b with
 | true =>
  obtain ⟨x, hxk, h0⟩ := H1.out rfl; have e := WZ.out k x hxk h0; obtain ⟨gx, ox, rfl, c1, c2, _⟩ := (Hz.out.grow hg2) k x hxk; have hlt := (qQ9.1 hxk).1; have b0 : (0 : Int) <= (k : Int) := by omega
  have b1 : (k : Int) < (xs.length : Int) := by omega
  have E := hh_ e; clear hxk h0 e; go_wp2; go_ret; exact zk E.out hg2
 | false =>
  have e := hh_ (Miss.out (H2.out rfl)); go_wp2; go_ret; exact zk e.out.symm hg2
def F5 (l : List Z) : Prop := (∀ x ∈ l, x.1.length <= 1000 /\ ∀ v ∈ x.1, RV v) /\ Pf 1000000000000 l
theorem F5.snoc {l : List Z} {x : Z} (h : F5 l) (h1 : x.1.length <= 1000) (h2 : ∀ v ∈ x.1, RV v) (h3 : -1000000000000 <= x.2 /\ x.2 <= 1000000000000) : F5 (l ++ [x]) := wI_
theorem F5.nil : F5 [] := ⟨fun x hx => by simp at hx, fun x hx => by simp at hx⟩
structure Ji (w wr : World) (t : Value) (l : List Z) : Prop where
 sl : ∃ (B : Option Addr) (ys : List I) (cap : Nat), t = .slice B ys.length cap /\ xe wr B ys /\ ys.map zh = yE l /\ yf B ys.length cap
 grow : za w wr
 pl : F5 l
theorem Ji.nil (w wr : World) (hg : za w wr) : Ji w wr (.slice none 0 0) [] := ⟨⟨none, [], 0, rfl, zX _ _, rfl, yf.nil⟩, hg, F5.nil⟩
theorem Ji.more {w wr wq : World} {t : Value} {l : List Z} (h : Ji w wr t l) (hg : za wr wq) : Ji w wq t l := xs_
theorem Ji.slice {w wr : World} {t : Value} {l : List Z} (h : Ji w wr t l) : ∃ (B : Option Addr) (n cap : Nat), t = .slice B n cap := yu_
