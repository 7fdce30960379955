/- Parts of a proof. No condition. -/
import Derived.Laws.AppendOwnNone
import Derived.Test.YtphaeahdmfapgaaGreatGI
import Derived.Lib.AppendZeros
set_option maxRecDepth 100000
set_option maxHeartbeats 8000000
set_option maxRecDepth 100000
set_option linter.unusedSimpArgs false
set_option linter.unusedVariables false
namespace Go
variable {p : Prop}
theorem oI_ (h : p := by simp [results, Tryz.results57, go_sem] <;> rfl) : p := h
theorem oJ_ (h : p := by simp [results, Tryz.results48, go_sem] <;> rfl) : p := h
theorem oK_ (h : p := by simp [results, Tryz.results61, go_sem] <;> rfl) : p := h
theorem vl_ (h : p := by rw [<- e]; exact qQ_ hi) : p := h
theorem vF_ (h : p := by rw [Nat.zero_add, List.length_take]; omega) : p := h
theorem vS_ (h : p := by have := (GV.trans gB).size; simp; omega) : p := h
theorem v3_ (h : p := by rw [Lf, List.length_append]; omega) : p := h
theorem ug_ (h : p := by have := hg.size; simp; omega) : p := h
theorem uh_ (h : p := by have := A2.out x hmem; omega) : p := h
theorem us_ (h : p := by unfold maxLen; omega) : p := h
theorem uB_ (h : p := by simpa using hown) : p := h
theorem uF_ (h : p := by rw [hz2]; omega) : p := h
theorem wh_ (h : p := by
 (go_simp; first | exact Dr.out | simpa using Dr.out | simpa [hc] using Dr.out)) : p := h
theorem wE_ (h : p := by
 intro j u hj
 match j, hj with
 | 0, hj => simp [zF] at hj; subst hj; simp [Addr.add]
 | 1, hj => simp [zF] at hj; subst hj; simp [Addr.add]
 | 2, hj => simp [zF] at hj; subst hj; simp [Addr.add]) : p := h
theorem wG_ (h : p := by
 have h1 : zg x ∈ yC l := by rw [<- hm]; exact qZ9 hx
 obtain ⟨u, hu, e⟩ := Zr h1; have := (hp.1 u hu).1; have e2 : x.row = zj u.1 := e; rw [e2]; simpa [zj] using this) : p := h
theorem w0_ (h : p := by
 refine ⟨fun y hy => ?_, fun y hy => ?_⟩
 ·rcases List.mem_append.1 hy with hy | hy
  ·exact h.1 y hy
  ·simp at hy; subst hy; exact ⟨h1, h2⟩
 ·rcases List.mem_append.1 hy with hy | hy
  ·exact h.2 y hy
  ·simp at hy; subst hy; exact h3) : p := h
theorem w1_ (h : p := by
 have h1 : zg x ∈ yC l := by rw [<- hm]; exact qZ9 hx
 have h2 := QZ u4_ hp.2 _ h1; simp only [zg] at h2; omega) : p := h
theorem xd_ (h : p := by
 exact ⟨k + 1, n + s.xs.length, by omega, by go_num, Hn2.out, by rw [hfl.out]; exact Own7.out, hg7⟩) : p := h
theorem xr_ (h : p := by
 subst h0; go_wp2; go_ret; exact ⟨_, rfl, World.ownsRow_nil _ _ _ _, za.refl _⟩) : p := h
theorem xt_ (h : p := by
 exact ⟨k + 1, by omega, by go_num, by rw [E.out, jB]; simpa using hown', hg7⟩) : p := h
theorem xv_ (h : p := by
 exact ⟨k + 1, m + s.xs.length, by omega, by go_num, by go_num, Hm2.out, hg⟩) : p := h
theorem xz_ (h : p := by
 exact ⟨0, Nat.zero_le _, rfl, World.ownsRow_nil _ _ _ _, za.refl w⟩) : p := h
theorem xA_ (h : p := by
 have h1 := congrArg List.length hm; have h2 := xv l; simp at h1; omega) : p := h
theorem xE_ (h : p := by
 obtain ⟨⟨B, ys, cap, h1, h2, h3, h4⟩, h5, h6⟩ := h; exact ⟨⟨B, ys, cap, h1, h2.grow hg, h3, h4⟩, h5.trans hg, h6⟩) : p := h
theorem xU_ (h : p := by
 have : ys = [] := List.length_eq_zero_iff.1 h0; subst this; exact ⟨none, 0, rfl, fun i x hx => by simp at hx⟩) : p := h
theorem xW_ (h : p := by
 exact ⟨k + 1, by omega, by go_num, by have := Inv2.out; rw [if_neg uN_] at this; exact this, hg.trans hg2⟩) : p := h
theorem xY_ (h : p := by
 exact ⟨0, 0, Nat.zero_le _, rfl, rfl, rfl, za.refl _⟩) : p := h
theorem x0_ (h : p := by
 exact ⟨0, 0, Nat.zero_le _, rfl, rfl, Own.out, hg2⟩) : p := h
theorem x8_ (h : p := by
 rw [<- htk, List.getElem?_take] at hv; split at hv
 ·rw [hb.cell]; simpa using hv
 ·cases hv) : p := h
theorem yl_ (h : p := by
 exact ⟨k + 1, by omega, by go_num, St3.out⟩) : p := h
theorem ym_ (h : p := by
 have := G2.size; simp; omega) : p := h
theorem yA_ (h : p := by
 obtain ⟨⟨B, ys, cap, h1, _⟩, _⟩ := h; exact ⟨B, _, cap, h1⟩) : p := h
theorem yM_ (h : p := by
 unfold Addr.add; split
 ·rename_i h0; subst h0; rfl
 ·rfl) : p := h
theorem yX_ (h : p := by
 intro v' w7 hown' hgrow _; have hg7 : za w w7 := za.own (G2.al _) hgrow (fun i hi => (HL2.out i hi).1); clear hgrow; go_wp2; go_roundw
 case rel => exact xt_
 case measure => exact wa_) : p := h
end Go
namespace Go.Proofs.YtphaeahdmfapgaaGreat
open Go.RowKit Go.Calm
theorem QU (n : Int) (w : World) : Calls Tryz.prog 97 #[.int .i64 n] w fun e w' => e = .returned (.bool (xD n)) /\ w = w' := by
 go_enter Tryz.func97, Tryz.ntmps97
 by_cases h1 : n < -1000000
 ·have d1 : decide (n < -1000000) = true := decide_eq_true h1; go_wp2; go_ret; refine yG ?_ rfl; simp [xD, d1]
 ·have d1 : decide (n < -1000000) = false := decide_eq_false h1
  by_cases h2 : 1000000 < n
  ·have d2 : decide (1000000 < n) = true := decide_eq_true h2; go_wp2; go_ret; refine yG ?_ rfl; simp [xD, d2]
  ·have d2 : decide (1000000 < n) = false := decide_eq_false h2; go_wp2; go_ret; refine yG ?_ rfl; simp [xD, d1, d2]
theorem VA (row : List V) (A : Option Addr) (c : Nat) (w : World) (hlen : row.length <= 9223372036854775807) (hx : yS w A row) (R : Int) (hR : XU row = R) :
  Calls Tryz.prog 96 #[.slice A row.length c] w fun en w' => en = .returned (.int .i64 R) /\ za w w' := by
 have HR := hh_ hR; have Hx := hh_ hx; clear hx hR; go_enter Tryz.func96, Tryz.ntmps96
 by_cases h8 : 8 < row.length
 ·exact xR_
 ·have d8 : decide ((8 : Int) < (row.length : Int)) = false := by simp; omega
  have inv0 : jR (row.drop 0) = R := by rw [<- HR.out]; unfold XU; rw [if_neg h8, List.drop_zero]
  have Inv0 := hh_ inv0; clear inv0; go_wp2
  go_loopw [11] (fun i wr => ∃ k : Nat, k <= row.length /\ i = .int .i64 k /\ jR (row.drop k) = R /\ za w wr) (fun i _ => row.length - (intOf i).toNat)
  case atStart => exact xf_
  case round =>
   obtain ⟨k, hk, rfl, hinv, hg⟩ := hrel; have xP := hh_ hinv; clear hinv
   by_cases hlt : k < row.length
   ·obtain ⟨x, hxk⟩ : ∃ x, row[k]? = some x := ⟨_, qQ_ hlt⟩
    obtain ⟨gx, ox, rfl, c1, c2, c3⟩ := (Hx.out.grow hg) k x hxk; have inv2 := (JP hxk).symm.trans xP.out; have Inv2 := hh_ inv2; clear inv2 hxk
    by_cases hw : ye x = 0
    ·have dw : (ye x != 0) = false := by simpa using hw
     go_wp2_with (go_at_call 99; ((with_reducible refine (x4 x _).mono ?_); rintro e w2 ⟨rfl, hg2⟩; have G2 := (hg.al _).trans hg2))
     go_roundw
     case rel => exact x2_
     case measure => exact wa_
    ·have dw : (ye x != 0) = true := by simpa using hw
     go_wp2_with (go_at_call 99; ((with_reducible refine (x4 x _).mono ?_); rintro e w2 ⟨rfl, hg2⟩; have G2 := (hg.al _).trans hg2))
     go_ret; exact zk oA_ G2
   ·exact xl_
theorem T2 {y r : List V} (hy : ∀ v ∈ y, RV v) (hr : ∀ v ∈ r, RV v) : decide (0 <= zC xT y r) = (zC zH y r != -1) := by
 rw [yv _ _ hy hr]; rcases XV zH qV y r with h | h | h <;> rw [h] <;> decide
theorem jl (xs : List I) (A : Option Addr) (c : Nat) (w : World) (hlen : xs.length <= 9223372036854775807) (hz : xc w A xs) (hl : ∀ x ∈ xs, x.row.length <= 9223372036854775807) (R : Int) (hR : zD (xs.map zg) = R) :
  Calls Tryz.prog 54 #[.slice A xs.length c] w fun en w' => en = .returned (.int .i64 R) /\ za w w' := by
 have HR := hh_ hR; have Hz := hh_ hz; have Hl := hh_ hl; clear hz hR hl; go_enter Tryz.func54, Tryz.ntmps54
 by_cases h8 : 400 < xs.length
 ·exact xP_
 ·have d8 : decide ((400 : Int) < (xs.length : Int)) = false := by simp; omega
  have inv0 : TJ (qh xs 0) ((xs.drop 0).map zg) = R := by rw [<- HR.out]; unfold zD; rw [if_neg uP_, List.drop_zero]; rfl
  have Inv0 := hh_ inv0; clear inv0; go_wp2
  go_loopw [10] (fun i wr => ∃ k : Nat, k <= xs.length /\ i = .int .i64 k /\ TJ (qh xs k) ((xs.drop k).map zg) = R /\ (∀ y, qh xs k = some y -> ∀ v ∈ y, RV v) /\ za w wr) (fun i _ => xs.length - (intOf i).toNat)
  case atStart => exact ⟨0, Nat.zero_le _, rfl, Inv0.out, fun y hy => by simp [qh] at hy, za.refl _⟩
  case round =>
   obtain ⟨k, hk, rfl, hinv, hpr, hg⟩ := hrel; have xP := hh_ hinv; have Hpr := hh_ hpr; clear hinv hpr
   by_cases hlt : k < xs.length
   ·obtain ⟨x, hxk⟩ : ∃ x, xs[k]? = some x := ⟨_, qQ_ hlt⟩
    obtain ⟨gx, ox, rfl, c1, c2, hxv⟩ := (Hz.out.grow hg) k x hxk; have hlx := Hl.out x (qZ_ hxk); have inv2 := (Bl hxk).symm.trans xP.out; have Hxk := hh_ hxk; have Hxv := hh_ hxv; have cb := fun W (h : za wr W) (R : Int) (hR : XU x.row = R) => VA x.row x.A x.cap W hlx (Hxv.out.grow h) R hR
    obtain ⟨rx, hrx⟩ : ∃ r, XU x.row = r := ⟨_, rfl⟩
    have hnx : qh xs (k + 1) = some x.row := by unfold qh; rw [if_neg u4_, Nat.add_sub_cancel, hxk]; rfl
    have Hnx := hh_ hnx; rw [hrx] at inv2; have Inv2 := hh_ inv2; clear inv2 hxk hxv hnx
    by_cases hw : rx = 0
    ·have dw : (rx != 0) = false := by simpa using hw
     rw [if_neg uN_] at Inv2; have hrv := ((Qe x.row).1 (hrx.trans hw)).2; have Hrv := hh_ hrv; clear hrv; go_upto_region 9 with (go_at_call 96; ((with_reducible refine (cb _ (za.refl _) rx hrx).mono ?_); rintro e w2 ⟨rfl, G2⟩)); have C1 := hh_ (G2.cell c1); have c2' := G2.cell c2
     by_cases h0 : x.w = 0
     ·exact yd_
     ·have d0 : (x.w == 0) = false := by simpa using h0
      by_cases h1 : xD x.w = true
      ·go_wp2_with (go_at_call 97; ((with_reducible refine (QU _ _).mono ?_); rintro e w3 ⟨rfl, rfl⟩; rw [h1]))
       go_ret; exact zk on_ (hg.trans G2)
      ·have h1' : xD x.w = false := by simpa using h1
       have inv3 := Inv2.out; rw [if_neg (by simp [h0, h1'])] at inv3; have Inv3 := hh_ inv3; clear inv3 Inv2; go_upto_region 11 with (go_at_call 97; ((with_reducible refine (QU _ _).mono ?_); rintro e w3 ⟨rfl, rfl⟩; rw [h1'])); cases k with
       | zero =>
        have e : R = TJ (qh xs 1) ((xs.drop 1).map zg) := by have := Inv3.out; simpa [qh, Jn] using this.symm
        have E := hh_ e; clear e; apply ze 17 uY_ uY_
        case h' =>
         intro Q0 hQ0; simp only [List.take_succ_cons, List.take_zero]
         repeat ((first | ((first | apply zu rfl | apply zw rfl rfl rfl); case h1 => (intro w1 hw1 hF K hK; go_simp; first | exact hK _ (za.refl _))) | apply zz rfl rfl rfl rfl); intro K hK; go_simp; apply hK; clear hK K)
         refine zo ?_; intro w1 hw1 hF; apply hQ0; clear hQ0; simp only [List.drop_succ_cons, List.drop_zero]; clear hF; go_wp2; go_roundw
         case rel => exact ⟨1, by omega, rfl, E.out.symm, fun y hy => by rw [Hnx.out] at hy; cases hy; exact Hrv.out, hg.trans (G2.trans hw1)⟩
         case measure => exact wa_
        case hp' => trivial
       | succ j =>
        obtain ⟨y, hyk⟩ : ∃ y, xs[j]? = some y := ⟨_, qQ_ u4_⟩
        obtain ⟨gy, oy, ey, cy1, cy2, hyv⟩ := (Hz.out.grow hg) j y hyk; cases ey; have hly := Hl.out y (qZ_ hyk); obtain ⟨cr, hcr⟩ : ∃ r, zC zH y.row x.row = r := ⟨_, rfl⟩
        have cc := fun W (h : za wr W) => kT y.row x.row y.A x.A y.cap x.cap W hly hlx (hyv.grow h) (Hxv.out.grow h)
        rw [hcr] at cc; have inv4 := Inv3.out; have hpy : qh xs (j + 1) = some y.row := by unfold qh; rw [if_neg u4_, Nat.add_sub_cancel, hyk]; rfl
        rw [show Jn (qh xs (j + 1)) x.row = (cr != -1) by rw [hpy, <- hcr]; exact T2 (Hpr.out _ hpy) Hrv.out] at inv4; have Inv4 := hh_ inv4; have Hy := hh_ (show wr.cell? ⟨gx, ox + j * 2, none⟩ = some (.slice y.A y.row.length y.cap) from cy1); have dj : decide ((0 : Int) < (j : Int) + 1) = true := decide_eq_true u4_; have p0 : (0 : Int) <= (j : Int) + 1 := by omega
        have e0 : ((j : Int) + 1).toNat = j + 1 := by omega
        have jz : (j : Int) + 1 < (xs.length : Int) := by omega
        have hwp : IntKind.i64.wrap (j : Int) = (j : Int) := by rw [IntKind.wrap_i64]; omega
        have jz1 : (j : Int) < (xs.length : Int) := by omega
        have jz3 : j < xs.length := by omega
        clear inv4 Inv3 hyk cy1 cy2 hyv hcr c1 c2 hpy; apply ze 17 uY_ uY_
        case h' =>
         intro Q0 hQ0; simp only [List.take_succ_cons, List.take_zero]
         repeat ((first | ((first | apply zu rfl | apply zw rfl rfl rfl); case h1 => (intro w1 hw1 hF K hK; have cx1 := hw1.cell C1.out; have cy1 := (G2.trans hw1).cell Hy.out; go_simp; first | exact hK _ (za.refl _) | (go_at_call 98; ((with_reducible refine (cc _ (G2.trans hw1)).mono ?_); rintro e w' ⟨rfl, hg⟩; exact ⟨_, rfl, hK _ hg⟩)))) | apply zz rfl rfl rfl rfl); intro K hK; go_simp; apply hK; clear hK K)
         refine zo ?_; intro w1 hw1 hF; apply hQ0; clear hQ0; simp only [List.drop_succ_cons, List.drop_zero]; clear hF
         by_cases hc : cr = -1
         ·have dc : (cr != -1) = false := by simpa using hc
          simp only [dc]; go_wp2; go_roundw
          case rel => exact ⟨j + 2, by omega, by go_num, by have := Inv4.out; rw [if_neg (by simp [dc])] at this; exact this, fun y hy => by rw [Hnx.out] at hy; cases hy; exact Hrv.out, hg.trans (G2.trans hw1)⟩
          case measure => exact wa_
         ·have dc : (cr != -1) = true := by simpa using hc
          simp only [dc]; go_wp2; go_ret; exact zk oB_ (hg.trans (G2.trans hw1))
        case hp' => trivial
    ·have dw : (rx != 0) = true := by simpa using hw
     go_wp2_with (go_at_call 96; ((with_reducible refine (cb _ (za.refl _) rx hrx).mono ?_); rintro e w2 ⟨rfl, hg2⟩))
     go_ret; exact zk oA_ (hg.trans hg2)
   ·exact wk_
theorem jB : ∀ xs ys : List V, zF (xs ++ ys) = zF xs ++ zF ys
 | [], ys => rfl
 | x :: xs, ys => by simp [zF, jB xs ys]
theorem Yo : ∀ xs : List V, ∀ u ∈ zF xs, u.oneCell' = true
 | [], u, hu => by simp [zF] at hu
 | x :: xs, u, hu => by
  simp only [zF, List.mem_cons] at hu; rcases hu with rfl | rfl | rfl | hu
  ·rfl
  ·rfl
  ·rfl
  ·exact Yo xs u hu
theorem Yk : ∀ xs : List I, ∀ u ∈ zx xs, u.oneCell' = true
 | [], u, hu => by simp [zx] at hu
 | x :: xs, u, hu => by
  simp only [zx, List.mem_cons] at hu; rcases hu with rfl | rfl | hu
  ·rfl
  ·rfl
  ·exact Yk xs u hu
theorem Yt {w : World} {base : Nat} {v : Value} {ys : List V} (h : w.ownsRow base 24 3 v ys.length (zF ys)) : ∃ (B : Option Addr) (cap : Nat), v = .slice B ys.length cap /\ yS w B ys := by
 obtain ⟨_, h⟩ := h; rcases h with ⟨rfl, h0⟩ | ⟨gb, cap, cur, rfl, hB, hgb, hle, hmx, hcs, htk⟩
 ·exact xU_
 ·have hb : zc w gb 24 cur := hgb
  have key : ∀ i v, (zF ys)[i]? = some v -> w.cell? ⟨gb, i, none⟩ = some v := fun i v hv => x8_
  refine ⟨some ⟨gb, 0, none⟩, cap, rfl, fun i x hx => ⟨gb, 0, rfl, ?_⟩⟩; obtain ⟨a, b, c⟩ := kH ys i x hx; exact ⟨by rw [Nat.zero_add]; exact key _ _ a, by rw [Nat.zero_add]; exact key _ _ b, by rw [Nat.zero_add]; exact key _ _ c⟩
theorem C5 {w : World} {base : Nat} {v : Value} {ys : List I} (h : w.ownsRow base 59 2 v ys.length (zx ys)) (hv : ∀ y ∈ ys, yS w y.A y.row) : ∃ (B : Option Addr) (cap : Nat), v = .slice B ys.length cap /\ xc w B ys := by
 obtain ⟨_, h⟩ := h; rcases h with ⟨rfl, h0⟩ | ⟨gb, cap, cur, rfl, hB, hgb, hle, hmx, hcs, htk⟩
 ·exact xU_
 ·have hb : zc w gb 59 cur := hgb
  have key : ∀ i v, (zx ys)[i]? = some v -> w.cell? ⟨gb, i, none⟩ = some v := fun i v hv => x8_
  refine ⟨some ⟨gb, 0, none⟩, cap, rfl, fun i x hx => ⟨gb, 0, rfl, ?_, ?_, hv x (qZ_ hx)⟩⟩
  ·rw [Nat.zero_add]; exact key _ _ (xI ys i x hx).1
  ·rw [Nat.zero_add]; exact key _ _ (xI ys i x hx).2
theorem xJ {w : World} {b1 b2 n1 n2 s1 s2 : Nat} {e1 e2 : TypeId} {v1 v2 : Value} {x1 x2 : List Value} (h1 : w.ownsRow b1 e1 s1 v1 n1 x1) (h2 : w.ownsRow b2 e2 s2 v2 n2 x2) (hne : e1 ≠ e2) : v1.ownBlock = none \/ v1.ownBlock ≠ v2.ownBlock := by
 rcases h1.2 with ⟨rfl, _⟩ | ⟨g, cap, cur, rfl, hB, hgb, _⟩
 ·exact .inl rfl
 ·right; rcases h2.2 with ⟨rfl, _⟩ | ⟨g', cap', cur', rfl, hB', hgb', _⟩
  ·simp [Value.ownBlock]
  ·intro e; simp [Value.ownBlock] at e; subst e; rw [hgb] at hgb'; simp at hgb'; exact hne hgb'.2
theorem jS : ∃ ti, Tryz.prog.info? 24 = some ti /\ ti.zero = some (.agg #[.int .i64 0, .int .i64 0, .string ⟨#[]⟩]) /\ ti.size = 3 /\ ti.bytes = 32 := by
 have h := J6; cases hi : Tryz.prog.info? 24 with
 | none => rw [hi] at h; simp at h
 | some i => rw [hi] at h; simp at h; exact ⟨i, rfl, h⟩
theorem ND {w : World} {g o : Nat} {xs : List I} (h : xc w (some ⟨g, o, none⟩) xs) (k : Nat) : ∀ j u, (zx (xs.drop k))[j]? = some u -> w.cell? ((⟨g, o + k * 2, none⟩ : Addr).add j) = some u := fun j u hj => by
 have hlt : j < (zx (xs.drop k)).length := (qQ9.1 hj).1; rw [yW] at hlt; have hi : j / 2 < (xs.drop k).length := by omega
 obtain ⟨x, hx⟩ : ∃ x, (xs.drop k)[j / 2]? = some x := ⟨_, qQ_ hi⟩
 obtain ⟨a, b⟩ := xI _ _ _ hx; rw [List.getElem?_drop] at hx; obtain ⟨g', o', e, c1, c2, _⟩ := h _ _ hx; cases e
 have hA : (⟨g, o + k * 2, none⟩ : Addr).add j = ⟨g, o + k * 2 + j, none⟩ := yM_
 rw [hA]; rcases Nat.mod_two_eq_zero_or_one j with h2 | h2
 ·rw [show j / 2 * 2 = j by omega] at a; rw [a] at hj; cases hj; rw [show o + k * 2 + j = o + (k + j / 2) * 2 by omega]; exact c1
 ·rw [show j / 2 * 2 + 1 = j by omega] at b; rw [b] at hj; cases hj; rw [show o + k * 2 + j = o + (k + j / 2) * 2 + 1 by omega]; exact c2
theorem Bn {w : World} {g o : Nat} {xs : List I} (h : xc w (some ⟨g, o, none⟩) xs) (k : Nat) : ∀ j u, (zx (xs.take k))[j]? = some u -> w.cell? ((⟨g, o, none⟩ : Addr).add j) = some u := fun j u hj => by
 have := ND h 0 j u; rw [Nat.zero_mul, Nat.add_zero, List.drop_zero] at this; refine this ?_; have e := xy (xs.take k) (xs.drop k); rw [List.take_append_drop] at e; rw [e, List.getElem?_append_left (qQ9.1 hj).1]; exact hj
theorem Qb (row : List V) (A : Option Addr) (c : Nat) (w : World) (hlen : row.length <= 1000) (hrv : ∀ v ∈ row, RV v) (hx : yS w A row) :
  Calls Tryz.prog 100 #[.slice A row.length c] w fun en w' => ∃ (B : Option Addr) (cap : Nat), en = .returned (.slice B row.length cap) /\ w'.ownsRow w.heap.size 24 3 (.slice B row.length cap) row.length (zF (zj row)) /\ za w w' := by
 have Hx := hh_ hx; have Hrv := hh_ hrv; have Ti := hh_ jS; clear hx hrv; go_enter Tryz.func100, Tryz.ntmps100; go_wp2
 go_loopw [3, 8] (fun t i wr => ∃ k : Nat, k <= row.length /\ i = .int .i64 k /\ wr.ownsRow w.heap.size 24 3 t k (zF ((row.take k).map bare)) /\ za w wr) (fun _ i _ => row.length - (intOf i).toNat)
 case atStart => exact xz_
 case round =>
  obtain ⟨k, hk, rfl, hown, hg⟩ := hrel; have Own := hh_ hown; clear hown
  by_cases hlt : k < row.length
  ·obtain ⟨x, hxk⟩ : ∃ x, row[k]? = some x := ⟨_, qQ_ hlt⟩
   obtain ⟨gx, ox, rfl, c1, c2, c3⟩ := (Hx.out.grow hg) k x hxk; have hxr := Hrv.out x (qZ_ hxk)
   have e : (row.take (k + 1)).map bare = (row.take k).map bare ++ [bare x] := by
    have hx' := (qQ9.1 hxk).2; rw [List.take_succ_eq_append_getElem hlt, hx']; simp
   have E := hh_ e; obtain ⟨ti, hti, hz0, hz1, hz2⟩ := Ti.out; have hl2 := Own.out.lt; have HL2 := hh_ hl2; clear hxk e hl2
   go_wp2_with (first
    | (go_at_call 140; ((with_reducible refine (Qa x hxr _).mono ?_); rintro e w2 ⟨rfl, hg2⟩; have Own2 := hh_ (zh Own.out (((za.refl wr).al _).trans hg2)); have G2 := (hg.al _).trans hg2; clear hg2))
    | (at_builtin; refine wpList_append_own _ rfl _ _ 57 rfl w.heap.size 24 ti (.agg #[.int .i64 0, .int .i64 0, .string ⟨#[]⟩]) 3 32 Tryz.underlying57 hti hz0 hz1 hz2 rfl u3_ _ _ _ rfl (Own2.out.alloc _) ⟨w2.heap.size, 0, none⟩ 1 1 (zF [bare x]) rfl rfl ?c1 (Yo _) ?c3 ?c4 ?c5 ?_))
   case c1 => exact wE_
   case c3 => exact x6_
   case c4 => omega
   case c5 => exact ym_
   ·exact yX_
  ·obtain rfl : k = row.length := by omega
   have hfin : ∃ (B : Option Addr) (cap : Nat), u3 = .slice B row.length cap := by
    have h := Own.out; rw [List.take_length] at h; obtain ⟨B, cap, e, _⟩ := Yt (ys := row.map bare) uT_; exact ⟨B, cap, by simpa using e⟩
   obtain ⟨B, cap, rfl⟩ := hfin; go_wp2; go_ret; exact ⟨B, cap, rfl, by have h := Own.out; rw [List.take_length] at h; exact h, hg⟩
theorem zW (g o j : Nat) : (⟨g, o, none⟩ : Addr).add j = ⟨g, o + j, none⟩ := yM_
def TP (w : World) (src : Value) (L : List I) : Prop := (src = .slice none 0 0 /\ L = []) \/ ∃ ad c, src = .slice (some ad) L.length c /\ ∀ j u, (zx L)[j]? = some u -> w.cell? (ad.add j) = some u
theorem TP.grow {w w' : World} {src : Value} {L : List I} (h : TP w src L) (hg : za w w') : TP w' src L := by
 rcases h with h | ⟨ad, c, e, h⟩
 ·exact .inl h
 ·exact .inr ⟨ad, c, e, fun j u hj => hg.cell (h j u hj)⟩
theorem zi {w : World} {ops : Array Oper} {rest : List Oper} {o : Oper} {a : Act} {Q : Exit -> Act -> World -> Prop} (hgd : o.guard = none) (s x : Operand)
  (ho : o.op = .call { callee := .builtin .append, args := #[s, x], argTypes := #[38, 38] })
  (base : Nat) (v : Value) (n : Nat) (xs : List I) (hs : a.eval s = v) (hown : w.ownsRow base 59 2 v n (zx xs)) (src : Value) (L : List I) (hx : a.eval x = src) (hsrc : TP w src L) (hB : n + L.length <= 1000000) (hbase : base <= w.heap.size)
  (h : ∀ v' w', w'.ownsRow base 59 2 v' (n + L.length) (zx (xs ++ L)) -> w.grownBy w' v.ownBlock -> wpList Tryz.prog ops Q rest (a.put o.dst v') w') : wpList Tryz.prog ops Q (o :: rest) a w := by
 obtain ⟨ti, hti, hz0, hz1, hz2⟩ := qT; rcases hsrc with ⟨rfl, rfl⟩ | ⟨ad, c, rfl, hc⟩
 ·refine wpList_append_own_none hgd s x _ ho base 59 ti 2 Tryz.underlying38 hti v n (zx xs) hs hown hx ?_; exact h v w uB_ ⟨rfl, rfl, rfl, Nat.le_refl _, fun _ _ _ => rfl⟩
 ·refine wpList_append_own _ hgd s x _ ho base 59 ti (.agg #[.slice none 0 0, .int .i64 0]) 2 32 Tryz.underlying38 hti hz0 hz1 hz2 rfl u3_ v n (zx xs) hs hown ad L.length c (zx L) hx (by rw [yW]) hc (Yk _) us_ u4_ hbase ?_; intro v' w' h1 h2 _; exact h v' w' (by rw [xy]; exact h1) h2
theorem Nl {w : World} {A : Option Addr} {xs : List I} {c k : Nat} (h : zX A xs.length c) (hz : xc w A xs) (hk : k <= xs.length) : TP w (.slice A k c) (xs.take k) := by
 obtain ⟨h1, h2⟩ := h; cases A with
 | none =>
  have := h2 rfl; obtain rfl : k = 0 := by omega
  exact .inl ⟨by rw [this], by simp⟩
 | some ad =>
  refine .inr ⟨ad, c, by rw [List.length_take, Nat.min_eq_left hk], ?_⟩; cases xs with
  | nil => intro j u hj; simp [zx] at hj
  | cons x l =>
   obtain ⟨g, o, e, _⟩ := hz 0 x rfl; cases e; exact Bn hz k
theorem xH {w : World} {A : Option Addr} {xs : List I} {c k : Nat} (h : zX A xs.length c) (hz : xc w A xs) (hk : k <= xs.length) : TP w (sliced A k xs.length c 2) (xs.drop k) := by
 obtain ⟨h1, h2⟩ := h; cases A with
 | none =>
  have := h2 rfl; obtain rfl : k = 0 := by omega
  obtain h0 : xs.length = 0 := by omega
  exact .inl ⟨by simp [sliced, h0, this], by simpa using h0⟩
 | some ad =>
  by_cases hn : k < xs.length
  ·obtain ⟨g, o, e, _⟩ := hz k _ (qQ_ hn); cases e; refine .inr ⟨⟨g, o + k * 2, none⟩, c - k, ?_, ND hz k⟩; unfold sliced; rw [if_neg u4_, Option.map_some, zW, List.length_drop]
  ·have e : xs.length = k := by omega
   refine .inr ⟨if c = k then ad else ad.add (k * 2), c - k, ?_, fun j u hj => ?_⟩
   ·unfold sliced; split <;> simp
   ·rw [<- e, List.drop_length] at hj; simp [zx] at hj
theorem kP {w : World} {base : Nat} {v : Value} {ys : List I} (h : w.ownsRow base 59 2 v ys.length (zx ys)) (hv : ∀ y ∈ ys, yS w y.A y.row) : ∃ (B : Option Addr) (cap : Nat), v = .slice B ys.length cap /\ xc w B ys /\ zX B ys.length cap := by
 obtain ⟨B, cap, rfl, hz⟩ := C5 h hv; refine ⟨B, cap, rfl, hz, ?_⟩; obtain ⟨_, h⟩ := h; rcases h with ⟨e, h0⟩ | ⟨gb, cap', cur, e, hB, hgb, hle, hmx, hcs, htk⟩
 ·simp at e; exact ⟨by omega, fun _ => e.2.2⟩
 ·simp at e; obtain ⟨rfl, rfl⟩ := e; exact ⟨hle, fun h => by cases h⟩
theorem jD {xs : List I} {k : Nat} {x : I} (r : List V) (n : Int) (h : xs[k]? = some x) : qm ((xs.drop k).map zg) r n = if zZ x.row r < 0 then zg x :: qm ((xs.drop (k + 1)).map zg) r n else if zZ x.row r = 0 then (if n + x.w ≠ 0 then (zj r, n + x.w) :: (xs.drop (k + 1)).map zg else (xs.drop (k + 1)).map zg) else (if n ≠ 0 then (zj r, n) :: (xs.drop k).map zg else (xs.drop k).map zg) := wm_
theorem SO {xs : List I} {k : Nat} {x : I} {r : List V} {n : Int} (h : xs[k]? = some x) (hr : zZ x.row r < 0) (hi : qm (xs.map zg) r n = (xs.take k).map zg ++ qm ((xs.drop k).map zg) r n) : qm (xs.map zg) r n = (xs.take (k + 1)).map zg ++ qm ((xs.drop (k + 1)).map zg) r n := by
 obtain ⟨h1, e1⟩ := qQ9.1 h; rw [hi, jD r n h, if_pos hr, List.take_succ_eq_append_getElem h1, e1]; simp
theorem zp {w wr w' : World} {v : Value} (hg : za w wr) (h : wr.grownBy w' v.ownBlock) {e : TypeId} {s n : Nat} {xs : List Value} (hown : wr.ownsRow w.heap.size e s v n xs) : za w w' := by
 refine za.own hg h (fun i hi => ?_); rcases hown.2 with ⟨rfl, _⟩ | ⟨g, cap, cur, rfl, hB, _⟩
 ·cases hi
 ·simp [Value.ownBlock] at hi; omega
theorem xc.vsl {w : World} {A : Option Addr} {xs : List I} (h : xc w A xs) : ∀ x ∈ xs, yS w x.A x.row := fun x hx => by
 obtain ⟨i, hi, e⟩ := List.mem_iff_getElem.1 hx; obtain ⟨_, _, _, _, _, hv⟩ := h i x vl_; exact hv
theorem qf {w : World} {g : Nat} {t : TypeId} {y : I} {m : Nat} (hm : y.row.length = m) (hb : zc w g t #[.slice y.A m y.cap, .int .i64 y.w]) : TP w (.slice (some ⟨g, 0, none⟩) 1 1) [y] := by
 refine .inr ⟨⟨g, 0, none⟩, 1, rfl, fun j u hj => ?_⟩; rw [zW, hb.cell]
 match j, hj with
 | 0, hj => simp [zx] at hj; subst hj; rw [hm]; rfl
 | 1, hj => simp [zx] at hj; subst hj; rfl
theorem yR {w : World} {base : Nat} {v : Value} {n : Nat} {ys : List I} (h : w.ownsRow base 59 2 v n (zx ys)) (hv : ∀ y ∈ ys, yS w y.A y.row) : ∃ (B : Option Addr) (cap : Nat), v = .slice B ys.length cap /\ xc w B ys /\ zX B ys.length cap := by
 have h1 := h.1; rw [yW] at h1; obtain rfl : n = ys.length := by omega
 exact kP h hv
theorem xt (r : List V) : (zj r).length = r.length := by simp [zj]
theorem Yr {w : World} {base : Nat} {B : Option Addr} {n c : Nat} {row : List V} (h : w.ownsRow base 24 3 (.slice B n c) n (zF (zj row))) (hn : n = row.length) : yS w B (zj row) := by
 rw [hn, <- xt row] at h; obtain ⟨B', c', e, hv⟩ := Yt h; simp at e; rw [e.1]; exact hv
theorem Yy {w : World} {A : Option Addr} {xs : List I} {k K : Nat} {y : I} (h : xc w A xs) (hy : yS w y.A y.row) : ∀ u ∈ xs.take k ++ [y] ++ xs.drop K, yS w u.A u.row := fun u hu => by
 simp only [List.mem_append, List.mem_singleton] at hu; rcases hu with (hu | rfl) | hu
 ·exact h.vsl u (List.mem_of_mem_take hu)
 ·exact hy
 ·exact h.vsl u (List.mem_of_mem_drop hu)
theorem kY {w : World} {A : Option Addr} {xs : List I} {k K : Nat} (h : xc w A xs) : ∀ u ∈ xs.take k ++ xs.drop K, yS w u.A u.row := fun u hu => by
 simp only [List.mem_append] at hu; rcases hu with hu | hu
 ·exact h.vsl u (List.mem_of_mem_take hu)
 ·exact h.vsl u (List.mem_of_mem_drop hu)
def DX (w w' : World) (e : Ending) (r : List Z) : Prop := ∃ (B : Option Addr) (ys : List I) (cap : Nat), e = .returned (.slice B ys.length cap) /\ xc w' B ys /\ ys.map zg = r /\ zX B ys.length cap /\ za w w'
def Jx (b : Nat) (A : Option Addr) : Prop := ∀ a, A = some a -> b <= a.block
def L5 (g : Nat) (A : Option Addr) : Prop := ∀ a, A = some a -> a.block ≠ g
theorem xM {w : World} {base b s n c m : Nat} {e : TypeId} {B : Option Addr} {xs : List Value} (h : w.ownsRow base e s (.slice B n c) m xs) (hb : b <= base) : Jx b B := fun a ha => by
 rcases h.2 with ⟨e, _⟩ | ⟨g, cap, cur, e, hB, _⟩
 ·simp at e; rw [e.1] at ha; cases ha
 ·simp at e; rw [e.1] at ha; cases ha; exact Nat.le_trans hb hB
theorem ZW {b k K : Nat} {u : I} {xs : List I} (hu : Jx b u.A) : ∀ y ∈ xs.take k ++ [u] ++ xs.drop K, (∃ x ∈ xs, y.A = x.A) \/ Jx b y.A := fun y hy => by
 simp only [List.mem_append, List.mem_singleton] at hy; rcases hy with (hy | rfl) | hy
 ·exact .inl ⟨y, List.mem_of_mem_take hy, rfl⟩
 ·exact .inr hu
 ·exact .inl ⟨y, List.mem_of_mem_drop hy, rfl⟩
theorem Yp {k K : Nat} {xs : List I} (b : Nat) : ∀ y ∈ xs.take k ++ xs.drop K, (∃ x ∈ xs, y.A = x.A) \/ Jx b y.A := fun y hy => by
 simp only [List.mem_append] at hy; rcases hy with hy | hy
 ·exact .inl ⟨y, List.mem_of_mem_take hy, rfl⟩
 ·exact .inl ⟨y, List.mem_of_mem_drop hy, rfl⟩
def BH (xs : List I) (w w' : World) (e : Ending) (r : List Z) : Prop := ∃ (B : Option Addr) (ys : List I) (cap : Nat), e = .returned (.slice B ys.length cap) /\ xc w' B ys /\ ys.map zg = r /\ zX B ys.length cap /\ Jx w.heap.size B /\ (∀ y ∈ ys, (∃ x ∈ xs, y.A = x.A) \/ Jx w.heap.size y.A) /\ za w w'
theorem Ru (xs : List I) (A : Option Addr) (c : Nat) (row : List V) (Ar : Option Addr) (cr : Nat) (n : Int) (w : World) (hlen : xs.length <= 200000) (hok : zX A xs.length c) (hz : xc w A xs) (hrow : ∀ x ∈ xs, x.row.length <= 1000) (hw : ∀ x ∈ xs, -2000000000000000000 <= x.w /\ x.w <= 2000000000000000000) (hl : row.length <= 1000) (hr : ∀ v ∈ row, RV v) (hx : yS w Ar row) (hn : -1000000000000000000 <= n /\ n <= 1000000000000000000) :
  Calls Tryz.prog 56 #[.slice A xs.length c, .slice Ar row.length cr, .int .i64 n] w fun en w' => BH xs w w' en (qm (xs.map zg) row n) := by
 have Hz := hh_ hz; have Hok := hh_ hok; have Hrow := hh_ hrow; have Hw := hh_ hw; have Hx := hh_ hx; have Hr := hh_ hr; obtain ⟨hn1, hn2⟩ := hn; have hac := hok.1; clear hz hrow hw hx hr hok; go_enter Tryz.func56, Tryz.ntmps56; go_wp2
 go_loopw [7] (fun i wr => ∃ k : Nat, k <= xs.length /\ i = .int .i64 k /\ qm (xs.map zg) row n = (xs.take k).map zg ++ qm ((xs.drop k).map zg) row n /\ za w wr) (fun i _ => xs.length - (intOf i).toNat)
 case atStart => exact ⟨0, Nat.zero_le _, rfl, by simp, za.refl _⟩
 case round =>
  obtain ⟨k, hk, rfl, hinv, hg⟩ := hrel; have xP := hh_ hinv; have Tk := hh_ (Nl Hok.out (Hz.out.grow hg) hk); clear hinv
  by_cases hlt : k < xs.length
  ·obtain ⟨x, hxk⟩ : ∃ x, xs[k]? = some x := ⟨_, qQ_ hlt⟩
   obtain ⟨gx, ox, rfl, c1, c2, hxv⟩ := (Hz.out.grow hg) k x hxk; have hlx := Hrow.out x (qZ_ hxk); obtain ⟨hw1, hw2⟩ := Hw.out x (qZ_ hxk); have cc := fun W (h : za wr W) => kT x.row row x.A Ar x.cap cr W u4_ u4_ (hxv.grow h) (Hx.out.grow (hg.trans h))
   obtain ⟨d, hd⟩ : ∃ d, zC zH x.row row = d := ⟨_, rfl⟩
   rw [hd] at cc; have Hd := hh_ (show zZ x.row row = d from hd); have Hxk := hh_ hxk; have b0 : (0 : Int) <= (k : Int) := by omega
   have b1 : (k : Int) < (xs.length : Int) := by omega
   clear hd hxk hxv
   by_cases h1 : d < 0
   ·have d1 : decide (d < 0) = true := decide_eq_true h1
    go_wp2_with (go_at_call 98; ((with_reducible refine (cc _ (za.refl _)).mono ?_); rintro e w2 ⟨rfl, G2⟩))
    go_roundw
    case rel => exact ⟨k + 1, by omega, by go_num, SO Hxk.out (by rw [Hd.out]; exact h1) xP.out, hg.trans G2⟩
    case measure => exact wa_
   ·have d1 : decide (d < 0) = false := decide_eq_false h1; go_upto_region 5 with (first | (go_at_call 98; ((with_reducible refine (cc _ (za.refl _)).mono ?_); rintro e w2 ⟨rfl, G2⟩)) | (at_builtin; refine zi rfl _ _ rfl w.heap.size _ 0 [] rfl (World.ownsRow_made _ _ 0 (hg.trans G2).size us_ u5_) _ (xs.take k) rfl (Tk.out.grow (G2.al _)) (by rw [List.length_take]; omega) (by have := (hg.trans G2).size; simp; omega) ?_; intro v8 w8 own8 gr8; have GW : za wr w8 := zp (G2.al _) gr8 (World.ownsRow_made (e := 59) (size := 2) _ #[] 0 G2.size us_ u5_); have e8 : 0 + (xs.take k).length = k := vF_; rw [e8] at own8; have Own8 := hh_ (show w8.ownsRow w.heap.size 59 2 v8 k (zx (xs.take k)) from own8); clear own8 gr8 e8)); have c18 := GW.cell c1; have c28 := GW.cell c2
    by_cases h0 : d = 0
    ·have d2 : (d == 0) = true := by simpa using h0
     have hwp : IntKind.i64.wrap (n + x.w) = n + x.w := by rw [IntKind.wrap_i64]; omega
     go_upto_region 8 with (go_at_call 98; ((with_reducible refine (cc _ GW).mono ?_); rintro e w9 ⟨rfl, G9⟩; have c29 := G9.cell c28))
     by_cases hN : n + x.w = 0
     ·have GV := hg.trans (GW.trans G9); have Own9 := hh_ (zh Own8.out G9); have dn : (n + x.w != 0) = false := by simpa using hN
      go_upto_region 10 with fail
      by_cases hc : c = k + 1
      ·have hd := xH Hok.out (Hz.out.grow GV) (show k + 1 <= xs.length by omega); simp only [sliced, if_pos hc, Option.map_some, zW] at hd; have Dr := hh_ hd; clear hd
       go_wp2_with (at_builtin; refine zi rfl _ _ rfl w.heap.size _ _ (xs.take k) rfl Own9.out _ (xs.drop (k + 1)) rfl ?src uV_ GV.size ?_; rotate_left; intro v11 w11 own11 gr11; have G11 : za w w11 := zp GV gr11 Own9.out; have Own11 := hh_ own11; clear own11 gr11)
       case src => exact wh_
       obtain ⟨B, cap, rfl, hz, hk2⟩ := yR (ys := xs.take k ++ xs.drop (k + 1)) Own11.out (kY (Hz.out.grow G11)); have Fin := hh_ (And.intro hz hk2); clear hz hk2; go_ret; exact ⟨B, _, cap, rfl, Fin.out.1, by rw [xP.out, jD _ _ Hxk.out, Hd.out, if_neg u4_, if_pos h0, if_neg uL_]; simp [zg], Fin.out.2, xM Own11.out (Nat.le_refl _), (Yp _), G11⟩
      ·have hd := xH Hok.out (Hz.out.grow GV) (show k + 1 <= xs.length by omega); simp only [sliced, if_neg hc, Option.map_some, zW] at hd; have Dr := hh_ hd; clear hd
       go_wp2_with (at_builtin; refine zi rfl _ _ rfl w.heap.size _ _ (xs.take k) rfl Own9.out _ (xs.drop (k + 1)) rfl ?src uV_ GV.size ?_; rotate_left; intro v11 w11 own11 gr11; have G11 : za w w11 := zp GV gr11 Own9.out; have Own11 := hh_ own11; clear own11 gr11)
       case src => exact wh_
       obtain ⟨B, cap, rfl, hz, hk2⟩ := yR (ys := xs.take k ++ xs.drop (k + 1)) Own11.out (kY (Hz.out.grow G11)); have Fin := hh_ (And.intro hz hk2); clear hz hk2; go_ret; exact ⟨B, _, cap, rfl, Fin.out.1, by rw [xP.out, jD _ _ Hxk.out, Hd.out, if_neg u4_, if_pos h0, if_neg uL_]; simp [zg], Fin.out.2, xM Own11.out (Nat.le_refl _), (Yp _), G11⟩
     ·have GV := hg.trans (GW.trans G9); have Own9 := hh_ (zh Own8.out G9); have dn : (n + x.w != 0) = true := by simpa using hN
      go_upto_region 10 with (first | (go_at_call 100; ((with_reducible refine (Qb row Ar cr _ hl Hr.out (Hx.out.grow GV)).mono ?_); rintro e wB ⟨Bb, cb, rfl, ownB, gB⟩; have OwnB := hh_ ownB; have OwnA := hh_ (zh Own9.out gB); clear ownB)) | (at_builtin; refine zi rfl _ _ rfl w.heap.size _ k (xs.take k) rfl (OwnA.out.alloc _) _ [I.mk Bb (zj row) cb (n + x.w)] rfl (qf (xt row) (zc.new _ _ _)) uV_ vS_ ?_; intro v10 w10 own10 gr10)); have G10 : za w w10 := zp ((GV.trans gB).al _) gr10 (OwnA.out.alloc _); have OwnB10 := hh_ (World.ownsRow.kept (OwnB.out.alloc _) gr10 (xJ OwnB.out OwnA.out u3_)); have Own10 := hh_ own10; clear own10 gr10
      by_cases hc : c = k + 1
      ·have hd := xH Hok.out (Hz.out.grow G10) (show k + 1 <= xs.length by omega); simp only [sliced, if_pos hc, Option.map_some, zW] at hd; have Dr := hh_ hd; clear hd
       go_wp2_with (at_builtin; refine zi rfl _ _ rfl w.heap.size _ _ (xs.take k ++ [I.mk Bb (zj row) cb (n + x.w)]) rfl Own10.out _ (xs.drop (k + 1)) rfl ?src uV_ G10.size ?_; rotate_left; intro v11 w11 own11 gr11; have G11 : za w w11 := zp G10 gr11 Own10.out; have OwnB11 := hh_ (World.ownsRow.kept OwnB10.out gr11 (xJ OwnB10.out Own10.out u3_)); have Own11 := hh_ own11; clear own11 gr11)
       case src => exact wh_
       obtain ⟨B, cap, rfl, hz, hk2⟩ := yR (ys := xs.take k ++ [I.mk Bb (zj row) cb (n + x.w)] ++ xs.drop (k + 1)) Own11.out (Yy (Hz.out.grow G11) (Yr OwnB11.out rfl)); have Fin := hh_ (And.intro hz hk2); clear hz hk2; go_ret; exact ⟨B, _, cap, rfl, Fin.out.1, by rw [xP.out, jD _ _ Hxk.out, Hd.out, if_neg u4_, if_pos h0, if_pos hN]; simp [zg], Fin.out.2, xM Own11.out (Nat.le_refl _), (ZW (xM OwnB11.out GV.size)), G11⟩
      ·have hd := xH Hok.out (Hz.out.grow G10) (show k + 1 <= xs.length by omega); simp only [sliced, if_neg hc, Option.map_some, zW] at hd; have Dr := hh_ hd; clear hd
       go_wp2_with (at_builtin; refine zi rfl _ _ rfl w.heap.size _ _ (xs.take k ++ [I.mk Bb (zj row) cb (n + x.w)]) rfl Own10.out _ (xs.drop (k + 1)) rfl ?src uV_ G10.size ?_; rotate_left; intro v11 w11 own11 gr11; have G11 : za w w11 := zp G10 gr11 Own10.out; have OwnB11 := hh_ (World.ownsRow.kept OwnB10.out gr11 (xJ OwnB10.out Own10.out u3_)); have Own11 := hh_ own11; clear own11 gr11)
       case src => exact wh_
       obtain ⟨B, cap, rfl, hz, hk2⟩ := yR (ys := xs.take k ++ [I.mk Bb (zj row) cb (n + x.w)] ++ xs.drop (k + 1)) Own11.out (Yy (Hz.out.grow G11) (Yr OwnB11.out rfl)); have Fin := hh_ (And.intro hz hk2); clear hz hk2; go_ret; exact ⟨B, _, cap, rfl, Fin.out.1, by rw [xP.out, jD _ _ Hxk.out, Hd.out, if_neg u4_, if_pos h0, if_pos hN]; simp [zg], Fin.out.2, xM Own11.out (Nat.le_refl _), (ZW (xM OwnB11.out GV.size)), G11⟩
    ·have d2 : (d == 0) = false := by simpa using h0
     go_upto_region 8 with (go_at_call 98; ((with_reducible refine (cc _ GW).mono ?_); rintro e w9 ⟨rfl, G9⟩))
     by_cases hN : n = 0
     ·have GV := hg.trans (GW.trans G9); have Own9 := hh_ (zh Own8.out G9); have dn : (n != 0) = false := by simpa using hN
      go_upto_region 10 with fail
      by_cases hc : c = k
      ·have hd := xH Hok.out (Hz.out.grow GV) (show k <= xs.length by omega); simp only [sliced, if_pos hc, Option.map_some, zW] at hd; have Dr := hh_ hd; clear hd
       go_wp2_with (at_builtin; refine zi rfl _ _ rfl w.heap.size _ _ (xs.take k) rfl Own9.out _ (xs.drop (k)) rfl ?src uV_ GV.size ?_; rotate_left; intro v11 w11 own11 gr11; have G11 : za w w11 := zp GV gr11 Own9.out; have Own11 := hh_ own11; clear own11 gr11)
       case src => exact wh_
       obtain ⟨B, cap, rfl, hz, hk2⟩ := yR (ys := xs.take k ++ xs.drop (k)) Own11.out (kY (Hz.out.grow G11)); have Fin := hh_ (And.intro hz hk2); clear hz hk2; go_ret; exact ⟨B, _, cap, rfl, Fin.out.1, by rw [xP.out, jD _ _ Hxk.out, Hd.out, if_neg u4_, if_neg h0, if_neg uL_]; simp [zg], Fin.out.2, xM Own11.out (Nat.le_refl _), (Yp _), G11⟩
      ·have hd := xH Hok.out (Hz.out.grow GV) (show k <= xs.length by omega); simp only [sliced, if_neg hc, Option.map_some, zW] at hd; have Dr := hh_ hd; clear hd
       go_wp2_with (at_builtin; refine zi rfl _ _ rfl w.heap.size _ _ (xs.take k) rfl Own9.out _ (xs.drop (k)) rfl ?src uV_ GV.size ?_; rotate_left; intro v11 w11 own11 gr11; have G11 : za w w11 := zp GV gr11 Own9.out; have Own11 := hh_ own11; clear own11 gr11)
       case src => exact wh_
       obtain ⟨B, cap, rfl, hz, hk2⟩ := yR (ys := xs.take k ++ xs.drop (k)) Own11.out (kY (Hz.out.grow G11)); have Fin := hh_ (And.intro hz hk2); clear hz hk2; go_ret; exact ⟨B, _, cap, rfl, Fin.out.1, by rw [xP.out, jD _ _ Hxk.out, Hd.out, if_neg u4_, if_neg h0, if_neg uL_]; simp [zg], Fin.out.2, xM Own11.out (Nat.le_refl _), (Yp _), G11⟩
     ·have GV := hg.trans (GW.trans G9); have Own9 := hh_ (zh Own8.out G9); have dn : (n != 0) = true := by simpa using hN
      go_upto_region 10 with (first | (go_at_call 100; ((with_reducible refine (Qb row Ar cr _ hl Hr.out (Hx.out.grow GV)).mono ?_); rintro e wB ⟨Bb, cb, rfl, ownB, gB⟩; have OwnB := hh_ ownB; have OwnA := hh_ (zh Own9.out gB); clear ownB)) | (at_builtin; refine zi rfl _ _ rfl w.heap.size _ k (xs.take k) rfl (OwnA.out.alloc _) _ [I.mk Bb (zj row) cb (n)] rfl (qf (xt row) (zc.new _ _ _)) uV_ vS_ ?_; intro v10 w10 own10 gr10)); have G10 : za w w10 := zp ((GV.trans gB).al _) gr10 (OwnA.out.alloc _); have OwnB10 := hh_ (World.ownsRow.kept (OwnB.out.alloc _) gr10 (xJ OwnB.out OwnA.out u3_)); have Own10 := hh_ own10; clear own10 gr10
      by_cases hc : c = k
      ·have hd := xH Hok.out (Hz.out.grow G10) (show k <= xs.length by omega); simp only [sliced, if_pos hc, Option.map_some, zW] at hd; have Dr := hh_ hd; clear hd
       go_wp2_with (at_builtin; refine zi rfl _ _ rfl w.heap.size _ _ (xs.take k ++ [I.mk Bb (zj row) cb (n)]) rfl Own10.out _ (xs.drop (k)) rfl ?src uV_ G10.size ?_; rotate_left; intro v11 w11 own11 gr11; have G11 : za w w11 := zp G10 gr11 Own10.out; have OwnB11 := hh_ (World.ownsRow.kept OwnB10.out gr11 (xJ OwnB10.out Own10.out u3_)); have Own11 := hh_ own11; clear own11 gr11)
       case src => exact wh_
       obtain ⟨B, cap, rfl, hz, hk2⟩ := yR (ys := xs.take k ++ [I.mk Bb (zj row) cb (n)] ++ xs.drop (k)) Own11.out (Yy (Hz.out.grow G11) (Yr OwnB11.out rfl)); have Fin := hh_ (And.intro hz hk2); clear hz hk2; go_ret; exact ⟨B, _, cap, rfl, Fin.out.1, by rw [xP.out, jD _ _ Hxk.out, Hd.out, if_neg u4_, if_neg h0, if_pos hN]; simp [zg], Fin.out.2, xM Own11.out (Nat.le_refl _), (ZW (xM OwnB11.out GV.size)), G11⟩
      ·have hd := xH Hok.out (Hz.out.grow G10) (show k <= xs.length by omega); simp only [sliced, if_neg hc, Option.map_some, zW] at hd; have Dr := hh_ hd; clear hd
       go_wp2_with (at_builtin; refine zi rfl _ _ rfl w.heap.size _ _ (xs.take k ++ [I.mk Bb (zj row) cb (n)]) rfl Own10.out _ (xs.drop (k)) rfl ?src uV_ G10.size ?_; rotate_left; intro v11 w11 own11 gr11; have G11 : za w w11 := zp G10 gr11 Own10.out; have OwnB11 := hh_ (World.ownsRow.kept OwnB10.out gr11 (xJ OwnB10.out Own10.out u3_)); have Own11 := hh_ own11; clear own11 gr11)
       case src => exact wh_
       obtain ⟨B, cap, rfl, hz, hk2⟩ := yR (ys := xs.take k ++ [I.mk Bb (zj row) cb (n)] ++ xs.drop (k)) Own11.out (Yy (Hz.out.grow G11) (Yr OwnB11.out rfl)); have Fin := hh_ (And.intro hz hk2); clear hz hk2; go_ret; exact ⟨B, _, cap, rfl, Fin.out.1, by rw [xP.out, jD _ _ Hxk.out, Hd.out, if_neg u4_, if_neg h0, if_pos hN]; simp [zg], Fin.out.2, xM Own11.out (Nat.le_refl _), (ZW (xM OwnB11.out GV.size)), G11⟩
  ·obtain rfl : k = xs.length := by omega
   have hlt2 : decide ((xs.length : Int) < (xs.length : Int)) = false := by simp
   go_upto_region 5 with (at_builtin; refine zi rfl _ _ rfl w.heap.size _ 0 [] rfl (World.ownsRow_made _ _ 0 hg.size us_ u5_) _ (xs.take xs.length) rfl (Tk.out.grow ((za.refl wr).al _)) (by rw [List.length_take]; omega) ug_ ?_; intro v8 w8 own8 gr8; have GW : za wr w8 := zp ((za.refl wr).al _) gr8 (World.ownsRow_made (e := 59) (size := 2) _ #[] 0 (za.refl wr).size us_ u5_); have e8 : 0 + (xs.take xs.length).length = xs.length := vF_; rw [e8] at own8; have Own8 := hh_ (show w8.ownsRow w.heap.size 59 2 v8 xs.length (zx (xs.take xs.length)) from own8); clear own8 gr8 e8); go_upto_region 8 with fail
   by_cases hN : n = 0
   ·have GV := hg.trans GW; have Own9 := hh_ (zh Own8.out (za.refl _)); have dn : (n != 0) = false := by simpa using hN
    go_upto_region 10 with fail
    by_cases hc : c = xs.length
    ·have hd := xH Hok.out (Hz.out.grow GV) (show xs.length <= xs.length by omega); simp only [sliced, if_pos hc, Option.map_some, zW] at hd; have Dr := hh_ hd; clear hd
     go_wp2_with (at_builtin; refine zi rfl _ _ rfl w.heap.size _ _ (xs.take xs.length) rfl Own9.out _ (xs.drop (xs.length)) rfl ?src uV_ GV.size ?_; rotate_left; intro v11 w11 own11 gr11; have G11 : za w w11 := zp GV gr11 Own9.out; have Own11 := hh_ own11; clear own11 gr11)
     case src => exact wh_
     obtain ⟨B, cap, rfl, hz, hk2⟩ := yR (ys := xs.take xs.length ++ xs.drop (xs.length)) Own11.out (kY (Hz.out.grow G11)); have Fin := hh_ (And.intro hz hk2); clear hz hk2; go_ret; exact ⟨B, _, cap, rfl, Fin.out.1, by rw [xP.out, List.drop_length]; simp [qm, hN, zg], Fin.out.2, xM Own11.out (Nat.le_refl _), (Yp _), G11⟩
    ·have hd := xH Hok.out (Hz.out.grow GV) (show xs.length <= xs.length by omega); simp only [sliced, if_neg hc, Option.map_some, zW] at hd; have Dr := hh_ hd; clear hd
     go_wp2_with (at_builtin; refine zi rfl _ _ rfl w.heap.size _ _ (xs.take xs.length) rfl Own9.out _ (xs.drop (xs.length)) rfl ?src uV_ GV.size ?_; rotate_left; intro v11 w11 own11 gr11; have G11 : za w w11 := zp GV gr11 Own9.out; have Own11 := hh_ own11; clear own11 gr11)
     case src => exact wh_
     obtain ⟨B, cap, rfl, hz, hk2⟩ := yR (ys := xs.take xs.length ++ xs.drop (xs.length)) Own11.out (kY (Hz.out.grow G11)); have Fin := hh_ (And.intro hz hk2); clear hz hk2; go_ret; exact ⟨B, _, cap, rfl, Fin.out.1, by rw [xP.out, List.drop_length]; simp [qm, hN, zg], Fin.out.2, xM Own11.out (Nat.le_refl _), (Yp _), G11⟩
   ·have GV := hg.trans GW; have Own9 := hh_ (zh Own8.out (za.refl _)); have dn : (n != 0) = true := by simpa using hN
    go_upto_region 10 with (first | (go_at_call 100; ((with_reducible refine (Qb row Ar cr _ hl Hr.out (Hx.out.grow GV)).mono ?_); rintro e wB ⟨Bb, cb, rfl, ownB, gB⟩; have OwnB := hh_ ownB; have OwnA := hh_ (zh Own9.out gB); clear ownB)) | (at_builtin; refine zi rfl _ _ rfl w.heap.size _ xs.length (xs.take xs.length) rfl (OwnA.out.alloc _) _ [I.mk Bb (zj row) cb (n)] rfl (qf (xt row) (zc.new _ _ _)) uV_ vS_ ?_; intro v10 w10 own10 gr10)); have G10 : za w w10 := zp ((GV.trans gB).al _) gr10 (OwnA.out.alloc _); have OwnB10 := hh_ (World.ownsRow.kept (OwnB.out.alloc _) gr10 (xJ OwnB.out OwnA.out u3_)); have Own10 := hh_ own10; clear own10 gr10
    by_cases hc : c = xs.length
    ·have hd := xH Hok.out (Hz.out.grow G10) (show xs.length <= xs.length by omega); simp only [sliced, if_pos hc, Option.map_some, zW] at hd; have Dr := hh_ hd; clear hd
     go_wp2_with (at_builtin; refine zi rfl _ _ rfl w.heap.size _ _ (xs.take xs.length ++ [I.mk Bb (zj row) cb (n)]) rfl Own10.out _ (xs.drop (xs.length)) rfl ?src uV_ G10.size ?_; rotate_left; intro v11 w11 own11 gr11; have G11 : za w w11 := zp G10 gr11 Own10.out; have OwnB11 := hh_ (World.ownsRow.kept OwnB10.out gr11 (xJ OwnB10.out Own10.out u3_)); have Own11 := hh_ own11; clear own11 gr11)
     case src => exact wh_
     obtain ⟨B, cap, rfl, hz, hk2⟩ := yR (ys := xs.take xs.length ++ [I.mk Bb (zj row) cb (n)] ++ xs.drop (xs.length)) Own11.out (Yy (Hz.out.grow G11) (Yr OwnB11.out rfl)); have Fin := hh_ (And.intro hz hk2); clear hz hk2; go_ret; exact ⟨B, _, cap, rfl, Fin.out.1, by rw [xP.out, List.drop_length]; simp [qm, hN, zg], Fin.out.2, xM Own11.out (Nat.le_refl _), (ZW (xM OwnB11.out GV.size)), G11⟩
    ·have hd := xH Hok.out (Hz.out.grow G10) (show xs.length <= xs.length by omega); simp only [sliced, if_neg hc, Option.map_some, zW] at hd; have Dr := hh_ hd; clear hd
     go_wp2_with (at_builtin; refine zi rfl _ _ rfl w.heap.size _ _ (xs.take xs.length ++ [I.mk Bb (zj row) cb (n)]) rfl Own10.out _ (xs.drop (xs.length)) rfl ?src uV_ G10.size ?_; rotate_left; intro v11 w11 own11 gr11; have G11 : za w w11 := zp G10 gr11 Own10.out; have OwnB11 := hh_ (World.ownsRow.kept OwnB10.out gr11 (xJ OwnB10.out Own10.out u3_)); have Own11 := hh_ own11; clear own11 gr11)
     case src => exact wh_
     obtain ⟨B, cap, rfl, hz, hk2⟩ := yR (ys := xs.take xs.length ++ [I.mk Bb (zj row) cb (n)] ++ xs.drop (xs.length)) Own11.out (Yy (Hz.out.grow G11) (Yr OwnB11.out rfl)); have Fin := hh_ (And.intro hz hk2); clear hz hk2; go_ret; exact ⟨B, _, cap, rfl, Fin.out.1, by rw [xP.out, List.drop_length]; simp [qm, hN, zg], Fin.out.2, xM Own11.out (Nat.le_refl _), (ZW (xM OwnB11.out GV.size)), G11⟩
theorem Rt (xs : List I) (A : Option Addr) (c : Nat) (row : List V) (Ar : Option Addr) (cr : Nat) (n : Int) (w : World) (hlen : xs.length <= 200000) (hok : zX A xs.length c) (hz : xc w A xs) (hrow : ∀ x ∈ xs, x.row.length <= 1000) (hw : ∀ x ∈ xs, -2000000000000000000 <= x.w /\ x.w <= 2000000000000000000) (hl : row.length <= 1000) (hr : ∀ v ∈ row, RV v) (hx : yS w Ar row) (hn : -1000000000000000000 <= n /\ n <= 1000000000000000000) :
  Calls Tryz.prog 56 #[.slice A xs.length c, .slice Ar row.length cr, .int .i64 n] w fun en w' => DX w w' en (qm (xs.map zg) row n) := (Ru xs A c row Ar cr n w hlen hok hz hrow hw hl hr hx hn).mono fun _ _ ⟨B, ys, cap, h1, h2, h3, h4, _, _, h5⟩ => ⟨B, ys, cap, h1, h2, h3, h4, h5⟩
structure S where
 A : Option Addr
 xs : List I
 cap : Nat
instance : Inhabited S := ⟨⟨none, [], 0⟩⟩
def S.z (s : S) : List Z := s.xs.map zg
def Bu (w : World) (A : Option Addr) (ss : List S) : Prop := ∀ i s, ss[i]? = some s -> ∃ g o, A = some ⟨g, o, none⟩ /\ w.cell? ⟨g, o + i, none⟩ = some (.slice s.A s.xs.length s.cap) /\ xc w s.A s.xs
theorem Bu.grow {w w' : World} {A : Option Addr} {ss : List S} (h : Bu w A ss) (hg : za w w') : Bu w' A ss := fun i s hs => by
 obtain ⟨g, o, hA, a, b⟩ := h i s hs; exact ⟨g, o, hA, hg.cell a, b.grow hg⟩
def xZ : List (List Z) -> Int
 | [] => 0
 | z :: l => if zD z ≠ 0 then zD z else xZ l
theorem S0 {ss : List S} {k : Nat} {s : S} (h : ss[k]? = some s) : xZ ((ss.drop k).map S.z) = if zD s.z ≠ 0 then zD s.z else xZ ((ss.drop (k + 1)).map S.z) := wm_
def S.ok (s : S) : Prop := s.xs.length <= 9223372036854775807 /\ ∀ x ∈ s.xs, x.row.length <= 9223372036854775807
theorem Jg (ss : List S) (A : Option Addr) (c : Nat) (w : World) (hlen : ss.length <= 9223372036854775807) (hs : Bu w A ss) (hl : ∀ s ∈ ss, s.ok) (R : Int) (hR : xZ (ss.map S.z) = R) :
  Calls Tryz.prog 88 #[.slice A ss.length c] w fun en w' => en = .returned (.int .i64 R) /\ za w w' := by
 have HR := hh_ hR; have Hs := hh_ hs; have Hl := hh_ hl; clear hs hR hl; go_enter Tryz.func88, Tryz.ntmps88; go_wp2
 go_loopw [8] (fun i wr => ∃ k : Nat, k <= ss.length /\ i = .int .i64 k /\ xZ ((ss.drop k).map S.z) = R /\ za w wr) (fun i _ => ss.length - (intOf i).toNat)
 case atStart => exact yE_
 case round =>
  obtain ⟨k, hk, rfl, hinv, hg⟩ := hrel; have xP := hh_ hinv; clear hinv
  by_cases hlt : k < ss.length
  ·obtain ⟨s, hsk⟩ : ∃ s, ss[k]? = some s := ⟨_, qQ_ hlt⟩
   obtain ⟨g, o, rfl, c1, hz⟩ := (Hs.out.grow hg) k s hsk; have hok := Hl.out s (qZ_ hsk); have inv2 := (S0 hsk).symm.trans xP.out; obtain ⟨E, hE⟩ : ∃ E, zD s.z = E := ⟨_, rfl⟩
   rw [hE] at inv2; have cs := fun W (h : za wr W) => Jd s.xs s.A s.cap W hok.1 (hz.grow h) hok.2 E hE
   have Inv2 := hh_ inv2; clear inv2 hsk hz hok hE
   by_cases hw : E = 0
   ·have dw : (E != 0) = false := by simpa using hw
    go_wp2_with (go_at_call 38; ((with_reducible refine (cs _ zd).mono ?_); rintro e w2 ⟨rfl, hg2⟩))
    go_roundw
    case rel => exact xW_
    case measure => exact wa_
   ·have dw : (E != 0) = true := by simpa using hw
    go_wp2_with (go_at_call 38; ((with_reducible refine (cs _ zd).mono ?_); rintro e w2 ⟨rfl, hg2⟩))
    go_ret; exact zk oA_ (hg.trans hg2)
  ·obtain rfl : k = ss.length := by omega
   have fin : R = 0 := by have := xP.out; rw [List.drop_length] at this; exact this.symm
   go_wp2; go_ret; exact zk fin.symm hg
theorem Us (n : Nat) (w : World) (hn : n <= 100000) :
  Calls Tryz.prog 134 #[.slice none 0 0, .int .i64 n] w fun e w' => ∃ v, e = .returned v /\ w'.ownsRow w.heap.size 59 2 v 0 (zx []) /\ za w w' := by
 obtain ⟨ti, hti, hz0, hz1, hz2⟩ := qT; go_enter Tryz.func134, Tryz.ntmps134
 by_cases h0 : n = 0
 ·exact xr_
 ·have hpos : decide ((0 : Int) < (n : Int)) = true := decide_eq_true u4_; have hwp : IntKind.i64.wrap (n : Int) = (n : Int) := by rw [IntKind.wrap_i64]; omega
  have hrz := fun ty => Lib.run_append_nil_zeros w 38 3 ty 59 ti _ .i64 .i64 Tryz.underlying38 Tryz.underlying3 hti hz0 n u4_ u4_ u4_ uF_
  have hge : n <= grownCap w n 0 59 := grownCap_ge w n 0 _; have hmx := grownCap_le_maxLen w n 0 59 us_; obtain ⟨G, hG⟩ : ∃ G, grownCap w n 0 59 = G := ⟨_, rfl⟩
  rw [hG] at hrz hge hmx; have HM := hh_ hmx; have hG63 : G <= 9223372036854775807 := by unfold maxLen at hmx; omega
  clear hG hmx
  go_wp2_with (at_builtin; refine Lib.wpList_append_run _ rfl _ _ _ _ rfl _ _ rfl rfl _ _ (hrz _) ?_)
  go_ret; refine ⟨_, rfl, World.ownsRow_made w.drew _ G (Nat.le_refl _) HM.out ?_, (za.refl w).drew.al _⟩; simp [size_zeroCells, Value.cells]; omega
def fl (ss : List S) : List I := ss.flatMap S.xs
theorem Ld {ss : List S} {k : Nat} {s : S} (h : ss[k]? = some s) : fl (ss.take (k + 1)) = fl (ss.take k) ++ s.xs := by
 obtain ⟨h1, e1⟩ := qQ9.1 h; rw [List.take_succ_eq_append_getElem h1, e1]; simp [fl]
theorem Uq (ss : List S) (k : Nat) : (fl (ss.take k)).length <= (fl ss).length := by
 have : fl ss = fl (ss.take k) ++ fl (ss.drop k) := by unfold fl; rw [<- List.flatMap_append, List.take_append_drop]
 rw [this, List.length_append]; omega
theorem Bu.vsl {w : World} {A : Option Addr} {ss : List S} (h : Bu w A ss) : ∀ x ∈ fl ss, yS w x.A x.row := fun x hx => by
 obtain ⟨s, hs, hx⟩ := List.mem_flatMap.1 hx; obtain ⟨i, hi, e⟩ := List.mem_iff_getElem.1 hs; obtain ⟨_, _, _, _, hz⟩ := h i s vl_; exact hz.vsl x hx
theorem Ry {w : World} {A : Option Addr} {xs : List I} {c : Nat} (h : zX A xs.length c) (hz : xc w A xs) : TP w (.slice A xs.length c) xs := by
 have := Nl h hz (Nat.le_refl _)
 rwa [List.take_length] at this
theorem NW (ss : List S) (A : Option Addr) (c : Nat) (w : World) (hlen : ss.length <= 1000) (hs : Bu w A ss) (hsum : (fl ss).length <= 10000) (hok : ∀ s ∈ ss, zX s.A s.xs.length s.cap) :
  Calls Tryz.prog 89 #[.slice A ss.length c] w fun en w' => ∃ (B : Option Addr) (cap : Nat), en = .returned (.slice B (fl ss).length cap) /\ xc w' B (fl ss) /\ zX B (fl ss).length cap /\ za w w' := by
 have Hs := hh_ hs; have Hok := hh_ hok; clear hs hok; go_enter Tryz.func89, Tryz.ntmps89; go_wp2
 go_loopw [3, 11] (fun n i wr => ∃ (k m : Nat), k <= ss.length /\ i = .int .i64 k /\ n = .int .i64 m /\ m = (fl (ss.take k)).length /\ za w wr) (fun _ i _ => ss.length - (intOf i).toNat)
 case atStart => exact xY_
 case round =>
  rename World => wa
  obtain ⟨k, m, hk, rfl, rfl, hm, hg⟩ := hrel; have Hm := hh_ hm; clear hm
  by_cases hlt : k < ss.length
  ·obtain ⟨s, hsk⟩ : ∃ s, ss[k]? = some s := ⟨_, qQ_ hlt⟩
   obtain ⟨g, o, rfl, c1, hz⟩ := (Hs.out.grow hg) k s hsk; have hm2 : m + s.xs.length = (fl (ss.take (k + 1))).length := by rw [Ld hsk, List.length_append, <- Hm.out]
   have hb := Uq ss (k + 1); rw [<- hm2] at hb; have Hm2 := hh_ hm2; have hwp : IntKind.i64.wrap ((m : Int) + (s.xs.length : Int)) = ((m + s.xs.length : Nat) : Int) := by rw [IntKind.wrap_i64]; omega
   have d0 : decide (((m + s.xs.length : Nat) : Int) < 0) = false := decide_eq_false u4_; clear hm2 hsk hz; go_wp2; go_roundw
   case rel => exact xv_
   case measure => exact wa_
  ·obtain rfl : k = ss.length := by omega
   have hm2 : m <= 10000 := by rw [Hm.out, List.take_length]; exact hsum
   have cg := fun W => Us m W u4_
   go_upto_region 10 with (go_at_call 134; ((with_reducible refine (cg _).mono ?_); rintro en w2 ⟨v, rfl, hown, hg2⟩; have Own := hh_ hown; clear hown)); have G2 := hg.trans hg2; go_wp2
   go_loopw [6, 27] (fun t i wq => ∃ (k n : Nat), k <= ss.length /\ i = .int .i64 k /\ n = (fl (ss.take k)).length /\ wq.ownsRow wa.heap.size 59 2 t n (zx (fl (ss.take k))) /\ za wa wq) (fun _ i _ => ss.length - (intOf i).toNat)
   case atStart => exact x0_
   case round =>
    obtain ⟨k, n, hk, rfl, hn, hown, hg3⟩ := hrel; have Own3 := hh_ hown; have Hn := hh_ hn; clear hown hn
    by_cases hlt : k < ss.length
    ·obtain ⟨s, hsk⟩ : ∃ s, ss[k]? = some s := ⟨_, qQ_ hlt⟩
     obtain ⟨g, o, rfl, c1, hz⟩ := (Hs.out.grow (hg.trans hg3)) k s hsk; have src := hh_ (Ry (Hok.out s (qZ_ hsk)) hz); have hn2 : n + s.xs.length = (fl (ss.take (k + 1))).length := by rw [Ld hsk, List.length_append, <- Hn.out]
     have hfl := hh_ (Ld hsk); have hb := Uq ss (k + 1); rw [<- hn2] at hb; have Hn2 := hh_ hn2; clear hn2 hsk hz
     go_wp2_with (at_builtin; refine zi rfl _ _ rfl wa.heap.size _ n (fl (ss.take k)) rfl Own3.out _ s.xs rfl src.out u4_ hg3.size ?_; intro v' w7 hown' hgrow)
     have hg7 : za wa w7 := zp hg3 hgrow Own3.out; have Own7 := hh_ hown'; clear hgrow hown'; go_wp2; go_roundw
     case rel => exact xd_
     case measure => exact wa_
    ·obtain rfl : k = ss.length := by omega
     have own := Own3.out; have hn := Hn.out; rw [List.take_length] at own hn; rw [hn] at own; obtain ⟨B, cap, rfl, hz, hk⟩ := kP own (Hs.out.grow (hg.trans hg3)).vsl; have Fin := hh_ (And.intro hz hk); clear own hn hz hk; go_wp2; go_ret; exact ⟨B, cap, rfl, Fin.out.1, Fin.out.2, hg.trans hg3⟩
theorem P9 {K : Int} : ∀ (l z : List Z) {M : Int}, 0 <= M -> 0 <= K -> Mi M z -> Mi K l -> Mi (M + K * l.length) (QK z l)
 | [], z, M, _, _, hz, _ => by simpa [QK] using hz
 | x :: l, z, M, hM, hK, hz, hl => by
  have h1 := Dc (r := x.1) (n := x.2) hz hM (hl x u5_).1 (hl x u5_).2; have h2 := P9 l (qm z x.1 x.2) (M := M + K) u4_ hK h1 (fun y hy => hl y u0_); rw [Yd]; intro y hy; have := h2 y hy; rw [List.length_cons, Int.natCast_succ, Int.mul_add, Int.mul_one]; omega
theorem QZ {K : Int} {l : List Z} (hK : 0 <= K) (hl : Mi K l) : Mi (K * l.length) (yC l) := fun y hy => by
 have := P9 l [] (M := 0) u4_ hK (fun x hx => by simp at hx) hl y hy; omega
theorem Qi (l : List Z) (x : Z) : yC (l ++ [x]) = qm (yC l) x.1 x.2 := by unfold yC QK; rw [List.foldl_append]; rfl
def Pl (l : List Z) : Prop := (∀ x ∈ l, x.1.length <= 1000 /\ ∀ v ∈ x.1, RV v) /\ Mi 1000000 l
theorem Pl.snoc {l : List Z} {x : Z} (h : Pl l) (h1 : x.1.length <= 1000) (h2 : ∀ v ∈ x.1, RV v) (h3 : -1000000 <= x.2 /\ x.2 <= 1000000) : Pl (l ++ [x]) := w0_
theorem Pl.nil : Pl [] := ⟨fun x hx => by simp at hx, fun x hx => by simp at hx⟩
structure xC (w wr : World) (t : Value) (l : List Z) : Prop where
 sl : ∃ (B : Option Addr) (ys : List I) (cap : Nat), t = .slice B ys.length cap /\ xc wr B ys /\ ys.map zg = yC l /\ zX B ys.length cap
 grow : za w wr
 pl : Pl l
theorem xC.nil (w wr : World) (hg : za w wr) : xC w wr (.slice none 0 0) [] := ⟨⟨none, [], 0, rfl, zy _ _, rfl, zX.nil⟩, hg, Pl.nil⟩
theorem xC.more {w wr wq : World} {t : Value} {l : List Z} (h : xC w wr t l) (hg : za wr wq) : xC w wq t l := xE_
theorem kQ {w wr : World} {t : Value} {l : List Z} (h : xC w wr t l) (row : List V) (Ar : Option Addr) (cr : Nat) (n : Int) (hx : yS wr Ar row) (hl : row.length <= 1000) (hr : ∀ v ∈ row, RV v) (hn : -1000000 <= n /\ n <= 1000000) (hlen : l.length <= 5000) :
  Calls Tryz.prog 56 #[t, .slice Ar row.length cr, .int .i64 n] wr fun en w' => ∃ v, en = .returned v /\ xC w w' v (l ++ [(row, n)]) /\ za wr w' := by
 obtain ⟨⟨B, ys, cap, rfl, hz, hm, hk⟩, hg, hp⟩ := h
 have hlen2 : ys.length <= 5000 := xA_
 have hrow : ∀ x ∈ ys, x.row.length <= 1000 := fun x hx => wG_
 have hw : ∀ x ∈ ys, -1000000000000000 <= x.w /\ x.w <= 1000000000000000 := fun x hx => w1_
 refine (Rt ys B cap row Ar cr n wr u4_ hk hz hrow (fun x hx => by have := hw x hx; omega) hl hr hx u4_).mono ?_; rintro en w' ⟨C, zs, cap2, rfl, hz2, hm2, hk2, hg2⟩; exact ⟨_, rfl, ⟨⟨C, zs, cap2, rfl, hz2, by rw [hm2, hm, Qi], hk2⟩, hg.trans hg2, hp.snoc hl hr hn⟩, hg2⟩
theorem jV (xs : List I) (A : Option Addr) (c : Nat) (w : World) (hlen : xs.length <= 9223372036854775807) (hz : xc w A xs) (hok : zX A xs.length c) :
  Calls Tryz.prog 57 #[.slice A xs.length c] w fun en w' => z0 w w' en (qj (xs.map zg)) := by
 have Hz := hh_ hz; have Hok := hh_ hok; obtain ⟨B, hB⟩ : ∃ b, (xs.map zg).any (fun x => xD x.2) = b := ⟨_, rfl⟩
 have HB := hh_ hB; clear hz hok hB; go_enter Tryz.func57, Tryz.ntmps57; go_wp2
 go_loopw [8] (fun i wr => ∃ k : Nat, k <= xs.length /\ i = .int .i64 k /\ ((xs.drop k).map zg).any (fun x => xD x.2) = B /\ za w wr) (fun i _ => xs.length - (intOf i).toNat)
 case atStart => exact ⟨0, Nat.zero_le _, rfl, HB.out, za.refl _⟩
 case round =>
  obtain ⟨k, hk, rfl, hinv, hg⟩ := hrel; have xP := hh_ hinv; clear hinv
  by_cases hlt : k < xs.length
  ·obtain ⟨x, hxk⟩ : ∃ x, xs[k]? = some x := ⟨_, qQ_ hlt⟩
   obtain ⟨gx, ox, rfl, c1, c2, hxv⟩ := (Hz.out.grow hg) k x hxk; have inv2 := (T0 hxk).symm.trans xP.out; have Inv2 := hh_ inv2; clear inv2 hxk hxv
   by_cases h1 : xD x.w = true
   ·go_wp2_with (go_at_call 97; ((with_reducible refine (QU _ _).mono ?_); rintro e w3 ⟨rfl, rfl⟩; rw [h1]))
    refine qX_ oI_ rfl ?_; have fin : B = true := by have := Inv2.out; rw [h1, Bool.true_or] at this; exact this.symm
    have e : qj (xs.map zg) = ([], 3) := by unfold qj; rw [if_pos (HB.out.trans fin)]
    exact ⟨none, [], 0, by rw [e]; rfl, zy _ _, by rw [e]; rfl, zX.nil, hg.al _⟩
   ·have h1' : xD x.w = false := by simpa using h1
    go_wp2_with (go_at_call 97; ((with_reducible refine (QU _ _).mono ?_); rintro e w3 ⟨rfl, rfl⟩; rw [h1']))
    go_roundw
    case rel => exact ⟨k + 1, by omega, by go_num, by have := Inv2.out; rw [h1', Bool.false_or] at this; exact this, hg.al _⟩
    case measure => exact wa_
  ·obtain rfl : k = xs.length := by omega
   have fin : B = false := by have := xP.out; rw [List.drop_length] at this; exact this.symm
   have fin2 : ¬ (xs.map zg).any (fun x => xD x.2) = true := by rw [HB.out, fin]; simp
   have Fin2 := hh_ fin2; clear fin2
   by_cases h4 : 400 < xs.length
   ·have d4 : decide ((400 : Int) < (xs.length : Int)) = true := decide_eq_true u4_; go_wp2; refine qX_ oI_ rfl ?_; have e : qj (xs.map zg) = ([], 5) := by unfold qj; rw [if_neg Fin2.out, if_pos uK_]
    exact ⟨none, [], 0, by rw [e]; rfl, zy _ _, by rw [e]; rfl, zX.nil, hg⟩
   ·have d4 : decide ((400 : Int) < (xs.length : Int)) = false := decide_eq_false u4_; go_wp2; refine qX_ oI_ rfl ?_; have e : qj (xs.map zg) = (xs.map zg, 0) := by unfold qj; rw [if_neg Fin2.out, if_neg uK_]
    exact ⟨A, xs, c, by rw [e], Hz.out.grow hg, by rw [e], Hok.out, hg⟩
theorem kX {xs : List I} {k : Nat} {x : I} (h : xs[k]? = some x) : (xs.take (k + 1)).map zg = (xs.take k).map zg ++ [(x.row, x.w)] := by
 obtain ⟨h1, e1⟩ := qQ9.1 h; rw [List.take_succ_eq_append_getElem h1, e1]; simp [zg]
theorem kW (xs : List I) (k : Nat) : ((xs.take k).map zg).length <= k := by simp; omega
theorem VC (xs : List I) (A : Option Addr) (c : Nat) (w : World) (hlen : xs.length <= 5000) (hz : xc w A xs) (hrow : ∀ x ∈ xs, x.row.length <= 1000) (hrv : ∀ x ∈ xs, ∀ v ∈ x.row, RV v) (hw : ∀ x ∈ xs, -1000000 <= x.w /\ x.w <= 1000000) :
  Calls Tryz.prog 32 #[.slice A xs.length c] w fun en w' => z0 w w' en (yZ (xs.map zg)) := by
 have Hz := hh_ hz; have Hrow := hh_ hrow; have Hrv := hh_ hrv; have Hw := hh_ hw; clear hz hrow hrv hw; go_enter Tryz.func32, Tryz.ntmps32; go_wp2
 go_loopw [4, 9] (fun t i wr => ∃ k : Nat, k <= xs.length /\ i = .int .i64 k /\ xC w wr t ((xs.take k).map zg)) (fun _ i _ => xs.length - (intOf i).toNat)
 case atStart => exact ⟨0, Nat.zero_le _, rfl, xC.nil _ _ (za.refl _)⟩
 case round =>
  obtain ⟨k, hk, rfl, hst⟩ := hrel; have hg := hst.grow; have St := hh_ hst; clear hst
  by_cases hlt : k < xs.length
  ·obtain ⟨x, hxk⟩ : ∃ x, xs[k]? = some x := ⟨_, qQ_ hlt⟩
   obtain ⟨gx, ox, rfl, c1, c2, hxv⟩ := (Hz.out.grow hg) k x hxk; have hmem := qZ_ hxk; have cp := fun W (h : za wr W) => kQ (St.out.more h) x.row x.A x.cap x.w (hxv.grow h) (Hrow.out x hmem) (Hrv.out x hmem) (Hw.out x hmem) (by have := kW xs k; omega)
   rw [<- kX hxk] at cp; clear hxk hxv hmem
   go_wp2_with (go_at_call 56; ((with_reducible refine (cp _ zd).mono ?_); rintro e w3 ⟨v, rfl, hst3, hg3⟩; have St3 := hh_ hst3; clear hst3))
   go_roundw
   case rel => exact yl_
   case measure => exact wa_
  ·obtain rfl : k = xs.length := by omega
   have hst := St.out; rw [List.take_length] at hst; obtain ⟨⟨B, ys, cap, rfl, hzy, hm, hky⟩, _, hp⟩ := hst
   have hl2 : ys.length <= 9223372036854775807 := by
    have h1 := congrArg List.length hm; have h2 := xv (xs.map zg); simp at h1 h2; omega
   have cf := jV ys B cap wr hl2 hzy hky; rw [hm] at cf; clear hzy hm hky hp
   go_wp2_with (go_at_call 57; ((with_reducible refine cf.mono ?_); rintro en w3 ⟨C, zs, cap2, rfl, hz3, hm3, hk3, hg3⟩; have Fin := hh_ (And.intro hz3 (And.intro hm3 hk3)); clear hz3 hm3 hk3))
   refine qX_ (by simp [results, Tryz.results32, go_sem] <;> rfl) rfl ?_; exact ⟨C, zs, cap2, rfl, Fin.out.1, Fin.out.2.1, Fin.out.2.2, hg.trans hg3⟩
theorem Rx {w : World} {g : Nat} {t : TypeId} {s1 s2 : S} (hb : zc w g t #[.slice s1.A s1.xs.length s1.cap, .slice s2.A s2.xs.length s2.cap]) (h1 : xc w s1.A s1.xs) (h2 : xc w s2.A s2.xs) : Bu w (some ⟨g, 0, none⟩) [s1, s2] := fun i s hs => by
 match i, hs with
 | 0, hs => simp at hs; subst hs; exact ⟨g, 0, rfl, by rw [hb.cell]; rfl, h1⟩
 | 1, hs => simp at hs; subst hs; exact ⟨g, 0, rfl, by rw [hb.cell]; rfl, h2⟩
theorem Dw {w : World} {g : Nat} {t : TypeId} {s1 : S} (hb : zc w g t #[.slice s1.A s1.xs.length s1.cap]) (h1 : xc w s1.A s1.xs) : Bu w (some ⟨g, 0, none⟩) [s1] := fun i s hs => by
 match i, hs with
 | 0, hs => simp at hs; subst hs; exact ⟨g, 0, rfl, by rw [hb.cell]; rfl, h1⟩
structure In (w : World) (s : S) : Prop where
 z : xc w s.A s.xs
 sl : zX s.A s.xs.length s.cap
 ok : s.ok
theorem In.grow {w w' : World} {s : S} (h : In w s) (hg : za w w') : In w' s := ⟨h.z.grow hg, h.sl, h.ok⟩
def S.v (s : S) : Value := .slice s.A s.xs.length s.cap
theorem K3 (x y : List Z) (t : Int) : xE x y t = if xZ [x, y] ≠ 0 then ([], xZ [x, y]) else yZ (x ++ y7 t y) := by
 unfold xE xZ
 by_cases h1 : zD x = 0
 ·by_cases h2 : zD y = 0
  ·simp [xZ, h1, h2]
  ·simp [xZ, h1, h2]
 ·simp [h1]
theorem Ku {x y : List Z} (h : xZ [x, y] = 0) : zD x = 0 /\ zD y = 0 := by
 unfold xZ at h; split at h
 ·exact xi_
 ·rename_i h1; unfold xZ at h; split at h
  ·rename_i h2; exact absurd h h2
  ·rename_i h2; exact ⟨by simpa using h1, by simpa using h2⟩
theorem S.facts {s : S} (h : zD s.z = 0) : s.xs.length <= 400 /\ (∀ x ∈ s.xs, x.row.length <= 8) /\ (∀ x ∈ s.xs, ∀ v ∈ x.row, RV v) /\ ∀ x ∈ s.xs, -1000000 <= x.w /\ x.w <= 1000000 := by
 have h := (jo _).1 h; exact ⟨by simpa [S.z] using h.len, fun x hx => (h.row (zg x) (qZ9 hx)).1, fun x hx => (h.row (zg x) (qZ9 hx)).2, fun x hx => (h.w (zg x) (qZ9 hx)).2⟩
theorem Lf (a b : S) : fl [a, b] = a.xs ++ b.xs := by simp [fl]
theorem RC (a b : S) (B : Option Addr) (cap : Nat) (w : World) (hz : xc w B (fl [a, b])) (ha : zD a.z = 0) (hb : zD b.z = 0) :
  Calls Tryz.prog 29 #[.slice B (fl [a, b]).length cap] w fun en w' => z0 w w' en (yZ (a.z ++ b.z)) := by
 obtain ⟨a1, a2, a3, a4⟩ := S.facts ha; obtain ⟨b1, b2, b3, b4⟩ := S.facts hb; have e : (fl [a, b]).map zg = a.z ++ b.z := by rw [Lf, List.map_append]; rfl
 rw [<- e]; have mem : ∀ x ∈ fl [a, b], x ∈ a.xs \/ x ∈ b.xs := fun x hx => by rw [Lf] at hx; exact List.mem_append.1 hx
 refine kd _ _ _ _ v3_ hz (fun x hx => ?_) (fun x hx => ?_) (fun x hx => ?_)
 ·rcases mem x hx with h | h
  ·have := a2 x h; omega
  ·have := b2 x h; omega
 ·rcases mem x hx with h | h
  ·exact a3 x h
  ·exact b3 x h
 ·rcases mem x hx with h | h
  ·exact a4 x h
  ·exact b4 x h
theorem Jh (a b : S) (g : Nat) (w : World) (t : TypeId) (h : zc w g t #[.slice a.A a.xs.length a.cap, .slice b.A b.xs.length b.cap]) (ha : In w a) (hb : In w b) :
  Calls Tryz.prog 88 #[.slice (some ⟨g, 0, none⟩) 2 2] w fun en w' => en = .returned (.int .i64 (xZ [a.z, b.z])) /\ za w w' :=
 Jg [a, b] (some ⟨g, 0, none⟩) 2 w u5_ (Rx h ha.z hb.z) (fun s hs => by simp at hs; rcases hs with rfl | rfl; exact ha.ok; exact hb.ok) _ rfl
theorem Xu (a : S) (g : Nat) (w : World) (t : TypeId) (h : zc w g t #[.slice a.A a.xs.length a.cap]) (ha : In w a) :
  Calls Tryz.prog 88 #[.slice (some ⟨g, 0, none⟩) 1 1] w fun en w' => en = .returned (.int .i64 (zD a.z)) /\ za w w' :=
 Jg [a] (some ⟨g, 0, none⟩) 1 w u5_ (Dw h ha.z) (fun s hs => by simp at hs; rcases hs with rfl; exact ha.ok) _ (by simp only [List.map_cons, List.map_nil, xZ]; split; rfl; simp_all)
theorem Wc (a b : S) (g : Nat) (w : World) (t : TypeId) (h : zc w g t #[.slice a.A a.xs.length a.cap, .slice b.A b.xs.length b.cap]) (ha : In w a) (hb : In w b) (hl : a.xs.length + b.xs.length <= 10000) :
  Calls Tryz.prog 89 #[.slice (some ⟨g, 0, none⟩) 2 2] w fun en w' => ∃ (B : Option Addr) (cap : Nat), en = .returned (.slice B (fl [a, b]).length cap) /\ xc w' B (fl [a, b]) /\ zX B (fl [a, b]).length cap /\ za w w' :=
 NW [a, b] (some ⟨g, 0, none⟩) 2 w u5_ (Rx h ha.z hb.z) v3_ (fun s hs => by simp at hs; rcases hs with rfl | rfl; exact ha.sl; exact hb.sl)
theorem BO (a b : S) (w : World) (ha : In w a) (hb : In w b) :
  Calls Tryz.prog 48 #[.slice a.A a.xs.length a.cap, .slice b.A b.xs.length b.cap] w fun en w' => z0 w w' en (xE a.z b.z 1) := by
 have Ha := hh_ ha; have Hb := hh_ hb; clear ha hb; go_enter Tryz.func48, Tryz.ntmps48; obtain ⟨E, hE⟩ : ∃ E, xZ [a.z, b.z] = E := ⟨_, rfl⟩
 have cr := fun W (h1 : zc W w.heap.size 38 #[.slice a.A a.xs.length a.cap, .slice b.A b.xs.length b.cap]) (hg : za w W) => Jh a b w.heap.size W _ h1 (Ha.out.grow hg) (Hb.out.grow hg)
 rw [hE] at cr; have HE := hh_ hE; clear hE; go_upto_region 2 with (go_at_call 88; ((with_reducible refine (cr _ (zc.new _ _ _) zd).mono ?_); rintro e w2 ⟨rfl, hg2⟩)); have G2 := ((za.refl w).al _).trans hg2; clear cr
 by_cases h0 : E = 0
 ·have d0 : (E != 0) = false := by simpa using h0
  obtain ⟨ra, rb⟩ := Ku (HE.out.trans h0); obtain ⟨a1, a2, a3, a4⟩ := S.facts ra; obtain ⟨b1, b2, b3, b4⟩ := S.facts rb; have cc := fun W (h1 : zc W w2.heap.size 38 #[.slice a.A a.xs.length a.cap, .slice b.A b.xs.length b.cap]) (hg : za w W) => Wc a b w2.heap.size W _ h1 (Ha.out.grow hg) (Hb.out.grow hg) u4_
  have fin : xE a.z b.z 1 = yZ (a.z ++ b.z) := by rw [K3, HE.out, if_neg uI_, Tn]
  have Fin := hh_ fin; have cs := fun B cap W hz => RC a b B cap W hz ra rb
  clear fin ra rb a1 a2 a3 a4 b1 b2 b3 b4
  go_wp2_with (first
   | (go_at_call 89; ((with_reducible refine (cc _ (zc.new _ _ _) (G2.al _)).mono ?_); rintro e w3 ⟨B, cap, rfl, hz3, hk3, hg3⟩; have Hz3 := hh_ hz3; clear hz3 hk3))
   | (go_at_call 29; ((with_reducible refine (cs _ _ _ Hz3.out).mono ?_); rintro e w4 ⟨C, zs, cap2, rfl, hz4, hm4, hk4, hg4⟩; have Out := hh_ (And.intro hz4 (And.intro hm4 hk4)); clear hz4 hm4 hk4)))
  refine qX_ oJ_ rfl ?_; exact ⟨C, zs, cap2, by rw [Fin.out], Out.out.1, by rw [Fin.out]; exact Out.out.2.1, Out.out.2.2, ((G2.al _).trans hg3).trans hg4⟩
 ·have d0 : (E != 0) = true := by simpa using h0
  go_wp2; refine qX_ oJ_ rfl ?_; have e : xE a.z b.z 1 = ([], E) := by rw [K3, HE.out, if_pos h0]
  exact ⟨none, [], 0, by rw [e]; rfl, zy _ _, by rw [e]; rfl, zX.nil, G2⟩
theorem DV.kept {w w' : World} {base n g : Nat} {v : Value} {xs : List Value} {r : List V} (h : DV w g r) (hown : w.ownsRow base 59 2 v n xs) (hg : w.grownBy w' v.ownBlock) : DV w' g r := by
 have h1 := hg.block g h.lt (fun e => by
  rcases hown.2 with ⟨rfl, _⟩ | ⟨g', cap, cur, rfl, _, hgb, _⟩
  ·simp [Value.ownBlock] at e
  ·simp [Value.ownBlock] at e; subst e; have h2 : w.heap[g]? = some (.cells (zF r).toArray 24 (0, 0)) := h; rw [hgb] at h2
   simp at h2)
 exact h1.trans h
theorem Xe (f : Int -> Int) {xs : List I} {k : Nat} {x : I} (h : xs[k]? = some x) : yz f ((xs.take (k + 1)).map zg) = yz f ((xs.take k).map zg) ++ (if f x.w ≠ 0 then [(zj x.row, f x.w)] else []) := by
 obtain ⟨h1, e1⟩ := qQ9.1 h; rw [List.take_succ_eq_append_getElem h1, e1]; unfold yz; simp only [List.map_append, List.filter_append, List.map_cons, List.map_nil, zg]
 by_cases hf : f x.w = 0
 ·simp [hf]
 ·simp [hf]
theorem xC.made (w wr : World) (A : Option Addr) (c : Nat) (hA : A ≠ none) (hg : za w wr) : xC w wr (.slice A 0 c) [] := ⟨⟨A, [], c, rfl, zy _ _, rfl, Nat.zero_le _, fun e => absurd e hA⟩, hg, Pl.nil⟩
theorem Pz {xs : List I} {k : Nat} {x : I} (t : Int) (h : xs[k]? = some x) : y7 t ((xs.take (k + 1)).map zg) = y7 t ((xs.take k).map zg) ++ [(x.row, t * x.w)] := by
 rw [kX h]; simp [y7]
theorem Kr (xs ys : List I) (A B : Option Addr) (c d : Nat) (t : Int) (ht : t = 1 \/ t = -1) (w : World) (ha : In w ⟨A, xs, c⟩) (hb : In w ⟨B, ys, d⟩) :
  Calls Tryz.prog 61 #[.slice A xs.length c, .slice B ys.length d, .int .i64 t] w fun en w' => z0 w w' en (xE (xs.map zg) (ys.map zg) t) := by
 have Ha := hh_ ha; have Hb := hh_ hb; have hza : xc w A xs := ha.z; have hzb : xc w B ys := hb.z; have Hza := hh_ hza; have Hzb := hh_ hzb; have Ht := hh_ ht; clear ha hb hza hzb ht; go_enter Tryz.func61, Tryz.ntmps61; obtain ⟨E, hE⟩ : ∃ E, zD (xs.map zg) = E := ⟨_, rfl⟩
 obtain ⟨F, hF⟩ : ∃ F, zD (ys.map zg) = F := ⟨_, rfl⟩
 have ca := fun W (h : za w W) => jl xs A c W Ha.out.ok.1 (Hza.out.grow h) Ha.out.ok.2 E hE
 have cb := fun W (h : za w W) => jl ys B d W Hb.out.ok.1 (Hzb.out.grow h) Hb.out.ok.2 F hF
 have HE := hh_ hE; have HF := hh_ hF; clear hE hF
 by_cases h0 : E = 0
 ·have d0 : (E != 0) = false := by simpa using h0
  by_cases h1 : F = 0
  ·have d1 : (F != 0) = false := by simpa using h1
   obtain ⟨a1, a2, a3, a4⟩ := S.facts (s := ⟨A, xs, c⟩) (HE.out.trans h0); obtain ⟨b1, b2, b3, b4⟩ := S.facts (s := ⟨B, ys, d⟩) (HF.out.trans h1); have a1 : xs.length <= 400 := a1; have b1 : ys.length <= 400 := b1; have A2 := hh_ a2; have A3 := hh_ a3; have A4 := hh_ a4; have B2 := hh_ b2; have B3 := hh_ b3; have B4 := hh_ b4; have fin : xE (xs.map zg) (ys.map zg) t = yZ (xs.map zg ++ y7 t (ys.map zg)) := by unfold xE; rw [HE.out, HF.out, if_neg uI_, if_neg uM_]
   have Fin := hh_ fin; clear fin a2 a3 a4 b2 b3 b4; go_upto_region 4 with (go_at_call 54; ((with_reducible refine (ca _ (za.refl _)).mono ?_); rintro e w2 ⟨rfl, hg2⟩)); go_upto_region 7 with (go_at_call 54; ((with_reducible refine (cb _ hg2).mono ?_); rintro e w3 ⟨rfl, hg3⟩)); have G3 := hg2.trans hg3; go_wp2
   go_loopw [10, 28] (fun u i wr => ∃ k : Nat, k <= xs.length /\ i = .int .i64 k /\ xC w wr u ((xs.take k).map zg)) (fun _ i _ => xs.length - (intOf i).toNat)
   case atStart => exact ⟨0, Nat.zero_le _, rfl, xC.made _ _ _ _ u5_ (G3.al _)⟩
   case round =>
    obtain ⟨k, hk, rfl, hst⟩ := hrel; have hg := hst.grow; have St := hh_ hst; clear hst
    by_cases hlt : k < xs.length
    ·obtain ⟨x, hxk⟩ : ∃ x, xs[k]? = some x := ⟨_, qQ_ hlt⟩
     obtain ⟨gx, ox, rfl, c1, c2, hxv⟩ := (Hza.out.grow hg) k x hxk; have hmem := qZ_ hxk; have cp := fun W (h : za wr W) => kQ (St.out.more h) x.row x.A x.cap x.w (hxv.grow h) uh_ (A3.out x hmem) (A4.out x hmem) (by have := kW xs k; omega)
     rw [<- kX hxk] at cp; clear hxk hxv hmem
     go_wp2_with (go_at_call 56; ((with_reducible refine (cp _ zd).mono ?_); rintro e w3 ⟨v, rfl, hst3, hg3⟩; have St3 := hh_ hst3; clear hst3))
     go_roundw
     case rel => exact yl_
     case measure => exact wa_
    ·obtain rfl : k = xs.length := by omega
     have St0 : xC w wr u10 (xs.map zg ++ y7 t ((ys.take 0).map zg)) := by have := St.out; rw [List.take_length] at this; simpa [y7] using this
     have St1 := hh_ St0; clear St0 St; go_wp2
     go_loopw [10, 41] (fun u i wr => ∃ k : Nat, k <= ys.length /\ i = .int .i64 k /\ xC w wr u (xs.map zg ++ y7 t ((ys.take k).map zg))) (fun _ i _ => ys.length - (intOf i).toNat)
     case atStart => exact ⟨0, Nat.zero_le _, rfl, St1.out⟩
     case round =>
      obtain ⟨k, hk, rfl, hst⟩ := hrel; have hg := hst.grow; have St := hh_ hst; clear hst
      by_cases hlt : k < ys.length
      ·obtain ⟨x, hxk⟩ : ∃ x, ys[k]? = some x := ⟨_, qQ_ hlt⟩
       obtain ⟨gx, ox, rfl, c1, c2, hxv⟩ := (Hzb.out.grow hg) k x hxk; have hmem := qZ_ hxk; have hw4 := B4.out x hmem; have htw : -1000000 <= t * x.w /\ t * x.w <= 1000000 := by rcases Ht.out with rfl | rfl <;> omega
       have hwp : IntKind.i64.wrap (t * x.w) = t * x.w := by rw [IntKind.wrap_i64]; omega
       have cp := fun W (h : za wr W) => kQ (St.out.more h) x.row x.A x.cap (t * x.w) (hxv.grow h) (by have := B2.out x hmem; omega) (B3.out x hmem) htw (by have := kW ys k; simp [y7] at this ⊢; omega)
       rw [List.append_assoc, <- Pz t hxk] at cp; clear hxk hxv hmem
       go_wp2_with (go_at_call 56; ((with_reducible refine (cp _ zd).mono ?_); rintro e w3 ⟨v, rfl, hst3, hg3⟩; have St3 := hh_ hst3; clear hst3))
       go_roundw
       case rel => exact yl_
       case measure => exact wa_
      ·obtain rfl : k = ys.length := by omega
       have hst := St.out; rw [List.take_length] at hst; obtain ⟨⟨D, zs, cap, rfl, hzy, hm, hky⟩, _, hp⟩ := hst
       have hl2 : zs.length <= 9223372036854775807 := by
        have h1 := congrArg List.length hm; have h2 := xv (xs.map zg ++ y7 t (ys.map zg)); simp [y7] at h1 h2; omega
       have cf := jV zs D cap wr hl2 hzy hky; rw [hm] at cf; clear hzy hm hky hp
       go_wp2_with (go_at_call 57; ((with_reducible refine cf.mono ?_); rintro en w3 ⟨C, us, cap2, rfl, hz3, hm3, hk3, hg3⟩; have Out := hh_ (And.intro hz3 (And.intro hm3 hk3)); clear hz3 hm3 hk3))
       refine qX_ oK_ rfl ?_; exact ⟨C, us, cap2, by rw [Fin.out]; rfl, Out.out.1, by rw [Fin.out]; exact Out.out.2.1, Out.out.2.2, hg.trans hg3⟩
  ·have d1 : (F != 0) = true := by simpa using h1
   go_upto_region 4 with (go_at_call 54; ((with_reducible refine (ca _ (za.refl _)).mono ?_); rintro e w2 ⟨rfl, hg2⟩))
   go_wp2_with (go_at_call 54; ((with_reducible refine (cb _ hg2).mono ?_); rintro e w3 ⟨rfl, hg3⟩))
   refine qX_ oK_ rfl ?_; have e : xE (xs.map zg) (ys.map zg) t = ([], F) := by unfold xE; rw [HE.out, HF.out, if_neg uI_, if_pos h1]
   exact ⟨none, [], 0, by rw [e]; rfl, zy _ _, by rw [e]; rfl, zX.nil, hg2.trans hg3⟩
 ·have d0 : (E != 0) = true := by simpa using h0
  go_wp2_with (go_at_call 54; ((with_reducible refine (ca _ (za.refl _)).mono ?_); rintro e w2 ⟨rfl, hg2⟩))
  refine qX_ oK_ rfl ?_; have e : xE (xs.map zg) (ys.map zg) t = ([], E) := by unfold xE; rw [HE.out, if_pos h0]
  exact ⟨none, [], 0, by rw [e]; rfl, zy _ _, by rw [e]; rfl, zX.nil, hg2⟩
def BI (l : List Z) : Prop := (∀ x ∈ l, x.1.length <= 1000 /\ ∀ v ∈ x.1, RV v) /\ Mi 1000000000000 l
theorem BI.snoc {l : List Z} {x : Z} (h : BI l) (h1 : x.1.length <= 1000) (h2 : ∀ v ∈ x.1, RV v) (h3 : -1000000000000 <= x.2 /\ x.2 <= 1000000000000) : BI (l ++ [x]) := w0_
theorem BI.nil : BI [] := ⟨fun x hx => by simp at hx, fun x hx => by simp at hx⟩
structure xB (w wr : World) (t : Value) (l : List Z) : Prop where
 sl : ∃ (B : Option Addr) (ys : List I) (cap : Nat), t = .slice B ys.length cap /\ xc wr B ys /\ ys.map zg = yC l /\ zX B ys.length cap
 grow : za w wr
 pl : BI l
theorem xB.nil (w wr : World) (hg : za w wr) : xB w wr (.slice none 0 0) [] := ⟨⟨none, [], 0, rfl, zy _ _, rfl, zX.nil⟩, hg, BI.nil⟩
theorem xB.more {w wr wq : World} {t : Value} {l : List Z} (h : xB w wr t l) (hg : za wr wq) : xB w wq t l := xE_
theorem xB.slice {w wr : World} {t : Value} {l : List Z} (h : xB w wr t l) : ∃ (B : Option Addr) (n cap : Nat), t = .slice B n cap := yA_
theorem qW {w wr : World} {t : Value} {l : List Z} (h : xB w wr t l) (row : List V) (Ar : Option Addr) (cr : Nat) (n : Int) (hx : yS wr Ar row) (hl : row.length <= 1000) (hr : ∀ v ∈ row, RV v) (hn : -1000000000000 <= n /\ n <= 1000000000000) (hlen : l.length <= 200000) :
  Calls Tryz.prog 56 #[t, .slice Ar row.length cr, .int .i64 n] wr fun en w' => ∃ v, en = .returned v /\ xB w w' v (l ++ [(row, n)]) /\ za wr w' := by
 obtain ⟨⟨B, ys, cap, rfl, hz, hm, hk⟩, hg, hp⟩ := h
 have hlen2 : ys.length <= 200000 := xA_
 have hrow : ∀ x ∈ ys, x.row.length <= 1000 := fun x hx => wG_
 have hw : ∀ x ∈ ys, -2000000000000000000 <= x.w /\ x.w <= 2000000000000000000 := fun x hx => w1_
 refine (Rt ys B cap row Ar cr n wr hlen2 hk hz hrow hw hl hr hx u4_).mono ?_; rintro en w' ⟨C, zs, cap2, rfl, hz2, hm2, hk2, hg2⟩; exact ⟨_, rfl, ⟨⟨C, zs, cap2, rfl, hz2, by rw [hm2, hm, Qi], hk2⟩, hg.trans hg2, hp.snoc hl hr hn⟩, hg2⟩
