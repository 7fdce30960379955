/- Parts of a proof. No condition. -/
import Derived.Test.YtphaeahdmfapgaaGreatGB
import Derived.Deep.QuietTactic
import Derived.BigQuiet
set_option maxHeartbeats 1000000
set_option maxRecDepth 100000
set_option linter.unusedSimpArgs false
set_option linter.unusedVariables false
namespace Go
variable {p : Prop}
theorem vu_ (h : p := by simp [results, Tryz.results126, go_sem, hc]) : p := h
theorem vv_ (h : p := by simp [results, Tryz.results127, go_sem, hc]) : p := h
theorem vw_ (h : p := by simp [results, Tryz.results162, go_sem, hc]) : p := h
theorem vx_ (h : p := by simp [results, Tryz.results167, go_sem, hc]) : p := h
theorem vy_ (h : p := by simp [results, Tryz.results166, go_sem, hc]) : p := h
theorem vP_ (h : p := by simp [results, Tryz.results166, go_sem]) : p := h
theorem wJ_ (h : p := by
 have e : yp (a.n + b.n) = ⟨1, 0, es⟩ := by unfold yp; rw [if_neg u4_]
 rw [e]; clear e; unfold V.val; go_enter Tryz.func166, Tryz.ntmps166; go_wp2
 go_quiet (fail)
 go_wp2_with ((go_at_call 106; ((with_reducible refine (yt _).mono ?_); rintro e w' ⟨rfl, hg⟩; obtain ⟨hc, hf, hz⟩ := hg.rules)))
 exact qX_ vy_ rfl ⟨rfl, zd⟩) : p := h
theorem wK_ (h : p := by
 have e : yp (a.n - b.n) = ⟨1, 0, es⟩ := by unfold yp; rw [if_neg u4_]
 rw [e]; clear e; unfold V.val; go_enter Tryz.func166, Tryz.ntmps166; go_wp2
 go_quiet (fail)
 go_wp2_with ((go_at_call 106; ((with_reducible refine (yt _).mono ?_); rintro e w' ⟨rfl, hg⟩; obtain ⟨hc, hf, hz⟩ := hg.rules)))
 exact qX_ vy_ rfl ⟨rfl, zd⟩) : p := h
theorem ys_ (h : p := by
 rw [habs]; have := Int.mul_le_mul_of_nonneg_right h (show 0 <= A by omega); omega) : p := h
end Go
namespace Go.Proofs.YtphaeahdmfapgaaGreat
open Go.RowKit Go.Calm
def zJ (sign : Int) (a b : V) : V :=
 if a.k = 3 /\ b.k = 3 then
  (if sign = 43 then yp (a.n + b.n) else if sign = 45 then yp (a.n - b.n) else if sign = 42 then yp (a.n * b.n) else ⟨1, 0, es⟩)
 else ⟨1, 0, es⟩
theorem UU {x y : Int} (hx : x ≠ 0) (h : -1000000000000000 <= x * y /\ x * y <= 1000000000000000) : wrap64 (x * y) = x * y /\ wrap64 ((x * y).tdiv x) = y := by
 have h1 : wrap64 (x * y) = x * y := IntWalk.wrap64_in _ u4_; have h2 : (x * y).tdiv x = y := Int.mul_tdiv_cancel_left y hx; refine ⟨h1, ?_⟩; rw [h2]; refine IntWalk.wrap64_in _ ?_
 have : y.natAbs <= (x * y).natAbs := by
  rw [Int.natAbs_mul]; exact Nat.le_mul_of_pos_left _ u4_
 omega
theorem CH {x y P : Int} (hx : x ≠ 0) (hP : wrap64 (x * y) = P) (h : ¬ (-1000000000000000 <= x * y /\ x * y <= 1000000000000000)) (hq : wrap64 (P.tdiv x) = y) : P < -1000000000000000 \/ 1000000000000000 < P := by
 rcases Classical.em (P < -1000000000000000 \/ 1000000000000000 < P) with h' | h'
 ·exact h'
 ·exfalso; apply h; have hle : (P.tdiv x).natAbs <= P.natAbs := by rw [Int.natAbs_tdiv]; exact Nat.div_le_self _ _
  have hw : wrap64 (P.tdiv x) = P.tdiv x := IntWalk.wrap64_in _ u4_; rw [hw] at hq
  have hm : (x * y).natAbs <= P.natAbs := by
   rw [<- hq, Int.natAbs_mul, Int.natAbs_tdiv]; exact Nat.mul_div_le _ _
  omega
theorem Pv (a b : V) (hd1 : (a.k != 3) = false) (hd2 : (b.k != 3) = false) (a1 : -1000000000000000 <= a.n) (a2 : a.n <= 1000000000000000) (b1 : -1000000000000000 <= b.n) (b2 : b.n <= 1000000000000000) (w : World) :
  Calls Tryz.prog 126 #[.int .i32 42, a.val, b.val] w fun e w' => e = .returned (yp (a.n * b.n)).val /\ za w w' := by
 by_cases hx : a.n = 0
 ·have dx : (a.n == 0) = true := by simpa using hx
  have hp : wrap64 (a.n * b.n) = 0 := by rw [hx, Int.zero_mul]; exact IntWalk.wrap64_in _ u4_
  have e : yp (a.n * b.n) = yp 0 := by rw [hx, Int.zero_mul]
  rw [e]; clear e hx; unfold V.val; go_enter Tryz.func126, Tryz.ntmps126; go_wp2
  go_quiet (fail)
  go_wp2_with ((go_at_call 155; ((with_reducible refine (Xh _ _).mono ?_); rintro e w' ⟨rfl, hg⟩; obtain ⟨hc, hf, hz⟩ := hg.rules)))
  exact qX_ vu_ rfl ⟨rfl, zd⟩
 ·have dx : (a.n == 0) = false := by simpa using hx
  by_cases hm : -1000000000000000 <= a.n * b.n /\ a.n * b.n <= 1000000000000000
  ·obtain ⟨g1, g2⟩ := UU hx hm; obtain ⟨m1, m2⟩ := hm; obtain ⟨P, hP⟩ : ∃ P, P = a.n * b.n := ⟨_, rfl⟩
   rw [<- hP] at g1 g2 m1 m2 ⊢; have hp : wrap64 (a.n * b.n) = P := by rw [<- hP]; exact g1
   have dq : (wrap64 (P.tdiv a.n) == b.n) = true := by rw [g2]; simp
   clear g1 g2 hP; unfold V.val; go_enter Tryz.func126, Tryz.ntmps126; go_wp2
   go_quiet (fail)
   go_wp2_with ((go_at_call 155; ((with_reducible refine (Xh _ _).mono ?_); rintro e w' ⟨rfl, hg⟩; obtain ⟨hc, hf, hz⟩ := hg.rules)))
   exact qX_ vu_ rfl ⟨rfl, zd⟩
  ·have e : yp (a.n * b.n) = ⟨1, 0, es⟩ := by unfold yp; rw [if_neg hm]
   rw [e]; clear e; obtain ⟨P, hp⟩ : ∃ P, wrap64 (a.n * b.n) = P := ⟨_, rfl⟩
   have far := CH hx hp hm; clear hm
   by_cases hq : wrap64 (P.tdiv a.n) = b.n
   ·have dq : (wrap64 (P.tdiv a.n) == b.n) = true := by rw [hq]; simp
    rcases far hq with hf | hf
    ·have hf' : P <= 1000000000000000 := by omega
     clear far hq; unfold V.val; go_enter Tryz.func126, Tryz.ntmps126; go_wp2
     go_quiet (fail)
     go_wp2_with ((go_at_call 122; ((with_reducible refine (kJ _).mono ?_); rintro e w' ⟨rfl, hg⟩; obtain ⟨hc, hf, hz⟩ := hg.rules)))
     exact qX_ vu_ rfl ⟨rfl, zd⟩
    ·clear far hq; unfold V.val; go_enter Tryz.func126, Tryz.ntmps126; go_wp2
     go_quiet (fail)
     go_wp2_with ((go_at_call 122; ((with_reducible refine (kJ _).mono ?_); rintro e w' ⟨rfl, hg⟩; obtain ⟨hc, hf, hz⟩ := hg.rules)))
     exact qX_ vu_ rfl ⟨rfl, zd⟩
   ·have dq : (wrap64 (P.tdiv a.n) == b.n) = false := by simpa using hq
    clear far hq; unfold V.val; go_enter Tryz.func126, Tryz.ntmps126; go_wp2
    go_quiet (fail)
    go_wp2_with ((go_at_call 122; ((with_reducible refine (kJ _).mono ?_); rintro e w' ⟨rfl, hg⟩; obtain ⟨hc, hf, hz⟩ := hg.rules)))
    exact qX_ vu_ rfl ⟨rfl, zd⟩
theorem YV (sign : Int) (a b : V) (ha : RV a) (hb : RV b) (w : World) : Calls Tryz.prog 126 #[.int .i32 sign, a.val, b.val] w fun e w' => e = .returned (zJ sign a b).val /\ za w w' := by
 by_cases h1 : a.k = 3
 ·have hd1 : (a.k != 3) = false := by simpa using h1
  by_cases h2 : b.k = 3
  ·have hd2 : (b.k != 3) = false := by simpa using h2
   obtain ⟨a1, a2⟩ := ha.int h1; obtain ⟨b1, b2⟩ := hb.int h2
   by_cases s1 : sign = 43
   ·have e : zJ sign a b = yp (a.n + b.n) := by simp [zJ, h1, h2, s1]
    rw [e]; clear e h1 h2 ha hb; subst s1; unfold V.val; go_enter Tryz.func126, Tryz.ntmps126; go_wp2
    go_quiet (fail)
    go_wp2_with ((go_at_call 155; ((with_reducible refine (Xh _ _).mono ?_); rintro e w' ⟨rfl, hg⟩; obtain ⟨hc, hf, hz⟩ := hg.rules)))
    exact qX_ vu_ rfl ⟨rfl, zd⟩
   ·have d1 : (sign == 43) = false := by simpa using s1
    by_cases s2 : sign = 45
    ·have e : zJ sign a b = yp (a.n - b.n) := by simp [zJ, h1, h2, s2]
     rw [e]; clear e h1 h2 ha hb d1 s1; subst s2; unfold V.val; go_enter Tryz.func126, Tryz.ntmps126; go_wp2
     go_quiet (fail)
     go_wp2_with ((go_at_call 155; ((with_reducible refine (Xh _ _).mono ?_); rintro e w' ⟨rfl, hg⟩; obtain ⟨hc, hf, hz⟩ := hg.rules)))
     exact qX_ vu_ rfl ⟨rfl, zd⟩
    ·have d2 : (sign == 45) = false := by simpa using s2
     by_cases s3 : sign = 42
     ·have e : zJ sign a b = yp (a.n * b.n) := by simp [zJ, h1, h2, s3]
      rw [e]; clear e h1 h2 ha hb d1 s1 d2 s2; subst s3; exact Pv a b hd1 hd2 a1 a2 b1 b2 w
     ·have d3 : (sign == 42) = false := by simpa using s3
      have e : zJ sign a b = ⟨1, 0, es⟩ := by simp [zJ, s1, s2, s3]
      rw [e]; clear e h1 h2 ha hb s1 s2 s3; unfold V.val; go_enter Tryz.func126, Tryz.ntmps126; go_wp2
      go_quiet (fail)
      go_wp2_with ((go_at_call 122; ((with_reducible refine (kJ _).mono ?_); rintro e w' ⟨rfl, hg⟩; obtain ⟨hc, hf, hz⟩ := hg.rules)))
      exact qX_ vu_ rfl ⟨rfl, zd⟩
  ·have hd2 : (b.k != 3) = true := by simpa using h2
   have e : zJ sign a b = ⟨1, 0, es⟩ := by simp [zJ, h2]
   rw [e]; clear e h1 h2 ha hb; unfold V.val; go_enter Tryz.func126, Tryz.ntmps126
   go_wp2_with ((go_at_call 122; ((with_reducible refine (kJ _).mono ?_); rintro e w' ⟨rfl, hg⟩; obtain ⟨hc, hf, hz⟩ := hg.rules)))
   exact qX_ vu_ rfl ⟨rfl, zd⟩
 ·have hd1 : (a.k != 3) = true := by simpa using h1
  have e : zJ sign a b = ⟨1, 0, es⟩ := by simp [zJ, h1]
  rw [e]; clear e h1 ha hb; unfold V.val; go_enter Tryz.func126, Tryz.ntmps126
  go_wp2_with ((go_at_call 122; ((with_reducible refine (kJ _).mono ?_); rintro e w' ⟨rfl, hg⟩; obtain ⟨hc, hf, hz⟩ := hg.rules)))
  exact qX_ vu_ rfl ⟨rfl, zd⟩
def y6 (a b : V) : V := if a.k = 4 /\ b.k = 4 /\ a.s.size + b.s.size <= 60 then ⟨4, 0, a.s ++ b.s⟩ else ⟨1, 0, es⟩
theorem UC (a b : V) (ha : RV a) (hb : RV b) (w : World) : Calls Tryz.prog 127 #[a.val, b.val] w fun e w' => e = .returned (y6 a b).val /\ za w w' := by
 have ta := ha.text; have tb := hb.text
 by_cases h1 : a.k = 4
 ·have hd1 : (a.k != 4) = false := by simpa using h1
  by_cases h2 : b.k = 4
  ·have hd2 : (b.k != 4) = false := by simpa using h2
   have ta' := ta h1; have tb' := tb h2
   by_cases h3 : a.s.size + b.s.size <= 60
   ·have e : y6 a b = ⟨4, 0, a.s ++ b.s⟩ := by simp [y6, h1, h2, h3]
    rw [e]; clear e h1 h2 ta tb ha hb; have h3' : (a.s.size : Int) + b.s.size <= 60 := by omega
    unfold V.val; go_enter Tryz.func127, Tryz.ntmps127; go_wp2; exact qX_ (by simp [results, Tryz.results127, go_sem]) rfl ⟨rfl, zd⟩
   ·have e : y6 a b = ⟨1, 0, es⟩ := by simp [y6, h3]
    rw [e]; clear e h1 h2 ta tb ha hb; have h3' : 60 < (a.s.size : Int) + b.s.size := by omega
    unfold V.val; go_enter Tryz.func127, Tryz.ntmps127
    go_wp2_with ((go_at_call 122; ((with_reducible refine (kJ _).mono ?_); rintro e w' ⟨rfl, hg⟩; obtain ⟨hc, hf, hz⟩ := hg.rules)))
    exact qX_ vv_ rfl ⟨rfl, zd⟩
  ·have hd2 : (b.k != 4) = true := by simpa using h2
   have e : y6 a b = ⟨1, 0, es⟩ := by simp [y6, h2]
   rw [e]; clear e h1 h2 ta tb ha hb; unfold V.val; go_enter Tryz.func127, Tryz.ntmps127
   go_wp2_with ((go_at_call 122; ((with_reducible refine (kJ _).mono ?_); rintro e w' ⟨rfl, hg⟩; obtain ⟨hc, hf, hz⟩ := hg.rules)))
   exact qX_ vv_ rfl ⟨rfl, zd⟩
 ·have hd1 : (a.k != 4) = true := by simpa using h1
  have e : y6 a b = ⟨1, 0, es⟩ := by simp [y6, h1]
  rw [e]; clear e h1 ta tb ha hb; unfold V.val; go_enter Tryz.func127, Tryz.ntmps127
  go_wp2_with ((go_at_call 122; ((with_reducible refine (kJ _).mono ?_); rintro e w' ⟨rfl, hg⟩; obtain ⟨hc, hf, hz⟩ := hg.rules)))
  exact qX_ vv_ rfl ⟨rfl, zd⟩
theorem Vt (a : V) (ha : RV a) (w : World) : Calls Tryz.prog 162 #[a.val] w fun e w' => e = .returned (qr a).val /\ za w w' := by
 by_cases h1 : a.k = 2
 ·have hd1 : (a.k != 2) = false := by simpa using h1
  have e : qr a = yB (L4 a false) := by
   rcases ha.bool h1 with h | h <;> simp [qr, yq, yP, L4, h1, h, yB]
  rw [e]; clear e h1 ha; unfold V.val; go_enter Tryz.func162, Tryz.ntmps162
  go_wp2_with (first | (go_at_call 141; ((with_reducible refine (ju a false _).mono ?_); rintro e w' ⟨rfl, hg⟩; obtain ⟨hc, hf, hz⟩ := hg.rules)) | (go_at_call 163; ((with_reducible refine (xK _ _).mono ?_); rintro e w2' ⟨rfl, hg2⟩; replace hg := hg.trans hg2; clear hg2 hc hf hz; obtain ⟨hc, hf, hz⟩ := hg.rules)))
  exact qX_ vw_ rfl ⟨rfl, zd⟩
 ·have hd1 : (a.k != 2) = true := by simpa using h1
  have e : qr a = ⟨1, 0, es⟩ := by simp [qr, yq, yP, h1]
  rw [e]; clear e h1 ha; unfold V.val; go_enter Tryz.func162, Tryz.ntmps162
  go_wp2_with (first | (go_at_call 106; ((with_reducible refine (yt _).mono ?_); rintro e w' ⟨rfl, hg⟩; obtain ⟨hc, hf, hz⟩ := hg.rules)))
  exact qX_ vw_ rfl ⟨rfl, zd⟩
theorem qX (a : V) (ha : RV a) : (yq a = 0 /\ L4 a false = true /\ L4 a true = false) \/ (yq a = 1 /\ L4 a false = false /\ L4 a true = false) \/ (yq a = 2 /\ L4 a false = false /\ L4 a true = true) := by
 by_cases h1 : a.k = 2
 ·rcases ha.bool h1 with h | h <;> simp [yq, L4, h1, h]
 ·simp [yq, L4, h1]
theorem WQ (a b : V) (ha : RV a) (hb : RV b) (w : World) : Calls Tryz.prog 164 #[a.val, b.val] w fun e w' => e = .returned (jN a b).val /\ za w w' := by
 rcases qX a ha with ⟨ra, fa, ta⟩ | ⟨ra, fa, ta⟩ | ⟨ra, fa, ta⟩ <;> rcases qX b hb with ⟨rb, fb, tb⟩ | ⟨rb, fb, tb⟩ | ⟨rb, fb, tb⟩
 all_goals
  unfold jN; rw [ra, rb]; clear ra rb ha hb; simp only [Ex, yP]; simp only [Int.reduceLT, if_true, if_false, Int.reduceEq]; unfold V.val; go_enter Tryz.func164, Tryz.ntmps164
  go_wp2_with (first | (go_at_call 141; first | ((with_reducible refine (ju a false _).mono ?_); rintro e w' ⟨rfl, hg⟩; obtain ⟨hc, hf, hz⟩ := hg.rules) | ((with_reducible refine (ju b false _).mono ?_); rintro e w2' ⟨rfl, hg2⟩; replace hg := hg.trans hg2; clear hg2 hc hf hz; obtain ⟨hc, hf, hz⟩ := hg.rules) | ((with_reducible refine (ju a true _).mono ?_); rintro e w2' ⟨rfl, hg2⟩; replace hg := hg.trans hg2; clear hg2 hc hf hz; obtain ⟨hc, hf, hz⟩ := hg.rules) | ((with_reducible refine (ju b true _).mono ?_); rintro e w2' ⟨rfl, hg2⟩; replace hg := hg.trans hg2; clear hg2 hc hf hz; obtain ⟨hc, hf, hz⟩ := hg.rules)) | (go_at_call 163; ((with_reducible refine (xK _ _).mono ?_); rintro e w2' ⟨rfl, hg2⟩; replace hg := hg.trans hg2; clear hg2 hc hf hz; obtain ⟨hc, hf, hz⟩ := hg.rules)) | (go_at_call 106; ((with_reducible refine (yt _).mono ?_); rintro e w2' ⟨rfl, hg2⟩; replace hg := hg.trans hg2; clear hg2 hc hf hz; obtain ⟨hc, hf, hz⟩ := hg.rules)))
  exact qX_ (by simp [results, Tryz.results164, go_sem, hc, yB]) rfl ⟨rfl, zd⟩
theorem LC (a b : V) (ha : RV a) (hb : RV b) (w : World) : Calls Tryz.prog 165 #[a.val, b.val] w fun e w' => e = .returned (WC a b).val /\ za w w' := by
 rcases qX a ha with ⟨ra, fa, ta⟩ | ⟨ra, fa, ta⟩ | ⟨ra, fa, ta⟩ <;> rcases qX b hb with ⟨rb, fb, tb⟩ | ⟨rb, fb, tb⟩ | ⟨rb, fb, tb⟩
 all_goals
  unfold WC; rw [ra, rb]; clear ra rb ha hb; simp only [Et, yP]; simp only [Int.reduceLT, if_true, if_false, Int.reduceEq]; unfold V.val; go_enter Tryz.func165, Tryz.ntmps165
  go_wp2_with (first | (go_at_call 141; first | ((with_reducible refine (ju a true _).mono ?_); rintro e w' ⟨rfl, hg⟩; obtain ⟨hc, hf, hz⟩ := hg.rules) | ((with_reducible refine (ju b true _).mono ?_); rintro e w2' ⟨rfl, hg2⟩; replace hg := hg.trans hg2; clear hg2 hc hf hz; obtain ⟨hc, hf, hz⟩ := hg.rules) | ((with_reducible refine (ju a false _).mono ?_); rintro e w2' ⟨rfl, hg2⟩; replace hg := hg.trans hg2; clear hg2 hc hf hz; obtain ⟨hc, hf, hz⟩ := hg.rules) | ((with_reducible refine (ju b false _).mono ?_); rintro e w2' ⟨rfl, hg2⟩; replace hg := hg.trans hg2; clear hg2 hc hf hz; obtain ⟨hc, hf, hz⟩ := hg.rules)) | (go_at_call 163; ((with_reducible refine (xK _ _).mono ?_); rintro e w2' ⟨rfl, hg2⟩; replace hg := hg.trans hg2; clear hg2 hc hf hz; obtain ⟨hc, hf, hz⟩ := hg.rules)) | (go_at_call 106; ((with_reducible refine (yt _).mono ?_); rintro e w2' ⟨rfl, hg2⟩; replace hg := hg.trans hg2; clear hg2 hc hf hz; obtain ⟨hc, hf, hz⟩ := hg.rules)))
  exact qX_ (by simp [results, Tryz.results165, go_sem, hc, yB]) rfl ⟨rfl, zd⟩
theorem Qd (a b : V) (ha : RV a) (hb : RV b) (w : World) : Calls Tryz.prog 167 #[a.val, b.val] w fun e w' => e = .returned (y6 a b).val /\ za w w' := by
 have ta := ha.text; have tb := hb.text
 by_cases h1 : a.k = 4
 ·have hd1 : (a.k == 4) = true := by simpa using h1
  by_cases h2 : b.k = 4
  ·have hd2 : (b.k == 4) = true := by simpa using h2
   have ta' := ta h1; have tb' := tb h2
   by_cases h3 : a.s.size + b.s.size <= 60
   ·have e : y6 a b = ⟨4, 0, a.s ++ b.s⟩ := by simp [y6, h1, h2, h3]
    rw [e]; clear e h1 h2 ta tb ha hb; have h3' : (a.s.size : Int) + b.s.size <= 60 := by omega
    unfold V.val; go_enter Tryz.func167, Tryz.ntmps167; go_wp2; exact qX_ (by simp [results, Tryz.results167, go_sem]) rfl ⟨rfl, zd⟩
   ·have e : y6 a b = ⟨1, 0, es⟩ := by simp [y6, h3]
    rw [e]; clear e h1 h2 ta tb ha hb; have h3' : 60 < (a.s.size : Int) + b.s.size := by omega
    unfold V.val; go_enter Tryz.func167, Tryz.ntmps167
    go_wp2_with ((go_at_call 106; ((with_reducible refine (yt _).mono ?_); rintro e w' ⟨rfl, hg⟩; obtain ⟨hc, hf, hz⟩ := hg.rules)))
    exact qX_ vx_ rfl ⟨rfl, zd⟩
  ·have hd2 : (b.k == 4) = false := by simpa using h2
   have e : y6 a b = ⟨1, 0, es⟩ := by simp [y6, h2]
   rw [e]; clear e h1 h2 ta tb ha hb; unfold V.val; go_enter Tryz.func167, Tryz.ntmps167
   go_wp2_with ((go_at_call 106; ((with_reducible refine (yt _).mono ?_); rintro e w' ⟨rfl, hg⟩; obtain ⟨hc, hf, hz⟩ := hg.rules)))
   exact qX_ vx_ rfl ⟨rfl, zd⟩
 ·have hd1 : (a.k == 4) = false := by simpa using h1
  have e : y6 a b = ⟨1, 0, es⟩ := by simp [y6, h1]
  rw [e]; clear e h1 ta tb ha hb; unfold V.val; go_enter Tryz.func167, Tryz.ntmps167
  go_wp2_with ((go_at_call 106; ((with_reducible refine (yt _).mono ?_); rintro e w' ⟨rfl, hg⟩; obtain ⟨hc, hf, hz⟩ := hg.rules)))
  exact qX_ vx_ rfl ⟨rfl, zd⟩
theorem QC (sign : Int) (hs : sign = 43 \/ sign = 45) (a b : V) (hd1 : (a.k != 3) = false) (hd2 : (b.k != 3) = false) (a1 : -1000000000000000 <= a.n) (a2 : a.n <= 1000000000000000) (b1 : -1000000000000000 <= b.n) (b2 : b.n <= 1000000000000000) (w : World) :
  Calls Tryz.prog 166 #[.int .i32 sign, a.val, b.val] w fun e w' => e = .returned (yp (if sign = 43 then a.n + b.n else a.n - b.n)).val /\ za w w' := by
 rcases hs with rfl | rfl
 ·simp only [if_true]
  by_cases h1 : 1000000000000000 < a.n + b.n
  ·exact wJ_
  ·have g1 : decide (1000000000000000 < a.n + b.n) = false := by simpa using h1
   by_cases h2 : a.n + b.n < -1000000000000000
   ·exact wJ_
   ·have g2 : decide (a.n + b.n < -1000000000000000) = false := by simpa using h2
    have e : yp (a.n + b.n) = ⟨3, a.n + b.n, es⟩ := by unfold yp; rw [if_pos u4_]
    rw [e]; clear e; unfold V.val; go_enter Tryz.func166, Tryz.ntmps166; go_wp2
    go_quiet (fail)
    go_wp2; exact qX_ vP_ rfl ⟨rfl, zd⟩
 ·simp only [Int.reduceEq, if_false]
  by_cases h1 : 1000000000000000 < a.n - b.n
  ·exact wK_
  ·have g1 : decide (1000000000000000 < a.n - b.n) = false := by simpa using h1
   by_cases h2 : a.n - b.n < -1000000000000000
   ·exact wK_
   ·have g2 : decide (a.n - b.n < -1000000000000000) = false := by simpa using h2
    have e : yp (a.n - b.n) = ⟨3, a.n - b.n, es⟩ := by unfold yp; rw [if_pos u4_]
    rw [e]; clear e; unfold V.val; go_enter Tryz.func166, Tryz.ntmps166; go_wp2
    go_quiet (fail)
    go_wp2; exact qX_ vP_ rfl ⟨rfl, zd⟩
theorem Sw (x y A : Int) (hA : (y.natAbs : Int) = A) (h1 : 1 <= A) (h2 : A <= 1000000000000000) :
  (1000000000000000 / A < x -> ¬ (-1000000000000000 <= x * y /\ x * y <= 1000000000000000)) /\
  (x < wrap64 (-Int.tdiv 1000000000000000 A) -> ¬ (-1000000000000000 <= x * y /\ x * y <= 1000000000000000)) /\
  (x <= 1000000000000000 / A -> wrap64 (-Int.tdiv 1000000000000000 A) <= x -> (-1000000000000000 <= x * y /\ x * y <= 1000000000000000) /\ wrap64 (x * y) = x * y) := by
 have ht : Int.tdiv 1000000000000000 A = 1000000000000000 / A := by rw [Int.tdiv_eq_ediv_of_nonneg u4_]
 rw [ht]; have hq0 : 0 <= 1000000000000000 / A := Int.ediv_nonneg u4_ u4_; have hq1 : 1000000000000000 / A <= 1000000000000000 := Int.ediv_le_self _ u4_; have hlo : 1000000000000000 / A * A <= 1000000000000000 := Int.ediv_mul_le _ u4_; have hhi : 1000000000000000 < (1000000000000000 / A + 1) * A := Int.lt_ediv_add_one_mul_self _ u4_; obtain ⟨q, hq⟩ : ∃ q, q = 1000000000000000 / A := ⟨_, rfl⟩
 rw [<- hq] at hq0 hq1 hlo hhi ⊢; have hw : wrap64 (-q) = -q := IntWalk.wrap64_in _ u4_; rw [hw]; have habs : ((x * y).natAbs : Int) = x.natAbs * A := by rw [Int.natAbs_mul, Int.natCast_mul, hA]
 have near : (x.natAbs : Int) <= q -> ((x * y).natAbs : Int) <= 1000000000000000 := fun h => ys_
 have far : q + 1 <= (x.natAbs : Int) -> 1000000000000000 < ((x * y).natAbs : Int) := fun h => ys_
 refine ⟨fun h => ?_, fun h => ?_, fun h h' => ?_⟩
 ·have := far u4_; omega
 ·have := far u4_; omega
 ·have := near u4_; exact ⟨by omega, IntWalk.wrap64_in _ u4_⟩
theorem D5 (n : Int) (hn : n ≠ 0) (h1 : -1000000000000000 <= n) (h2 : n <= 1000000000000000) : ∃ A : Int, (n.natAbs : Int) = A /\ 1 <= A /\ A <= 1000000000000000 := ⟨_, rfl, by omega, by omega⟩
theorem Nf (a b : V) (hd1 : (a.k != 3) = false) (hd2 : (b.k != 3) = false) (a1 : -1000000000000000 <= a.n) (a2 : a.n <= 1000000000000000) (b1 : -1000000000000000 <= b.n) (b2 : b.n <= 1000000000000000) (w : World) :
  Calls Tryz.prog 166 #[.int .i32 42, a.val, b.val] w fun e w' => e = .returned (yp (a.n * b.n)).val /\ za w w' := by
 by_cases hx : b.n = 0
 ·have dx : (b.n != 0) = false := by simpa using hx
  have hp : wrap64 (a.n * b.n) = 0 := by rw [hx, Int.mul_zero]; exact IntWalk.wrap64_in _ u4_
  have e : yp (a.n * b.n) = ⟨3, 0, es⟩ := by rw [hx, Int.mul_zero]; rfl
  rw [e]; clear e hx; unfold V.val; go_enter Tryz.func166, Tryz.ntmps166; go_wp2
  go_quiet (fail)
  go_wp2; exact qX_ vP_ rfl ⟨rfl, zd⟩
 ·have dx : (b.n != 0) = true := by simpa using hx
  obtain ⟨A, hA, A1, A2⟩ := D5 b.n hx b1 b2; have habs := BN b.n ⟨b1, b2⟩; rw [hA] at habs; have Habs := hh_ habs; have HA := hh_ hA; clear habs hA; unfold V.val; go_enter Tryz.func166, Tryz.ntmps166; go_wp2
  go_quiet (fail)
  go_wp2_with (first | (go_at_call 175; ((with_reducible refine (Habs.out _).mono ?_); rintro e w' ⟨rfl, rfl⟩)) | (go_at_call 106; ((with_reducible refine (yt _).mono ?_); rintro e w' ⟨rfl, hg⟩; obtain ⟨hc, hf, hz⟩ := hg.rules)))
  all_goals obtain ⟨m1, m2, m3⟩ := Sw a.n b.n A HA.out A1 A2
  ·have e : yp (a.n * b.n) = ⟨1, 0, es⟩ := by unfold yp; rw [if_neg (m1 ‹_›)]
   exact qX_ (v := V.val ⟨1, 0, es⟩) vy_ rfl ⟨by rw [e], zd⟩
  ·have e : yp (a.n * b.n) = ⟨1, 0, es⟩ := by unfold yp; rw [if_neg (m2 ‹_›)]
   exact qX_ (v := V.val ⟨1, 0, es⟩) vy_ rfl ⟨by rw [e], zd⟩
  ·obtain ⟨g, g'⟩ := m3 ‹_› ‹_›; omega
  ·obtain ⟨g, g'⟩ := m3 ‹_› ‹_›; omega
  ·obtain ⟨g, g'⟩ := m3 ‹_› ‹_›; have e : yp (a.n * b.n) = ⟨3, wrap64 (a.n * b.n), es⟩ := by unfold yp; rw [if_pos g, g']
   exact qX_ (v := V.val ⟨3, wrap64 (a.n * b.n), es⟩) vP_ rfl ⟨by rw [e], zd⟩
theorem xm (sign : Int) (a b : V) (ha : RV a) (hb : RV b) (w : World) : Calls Tryz.prog 166 #[.int .i32 sign, a.val, b.val] w fun e w' => e = .returned (zJ sign a b).val /\ za w w' := by
 by_cases h1 : a.k = 3
 ·have hd1 : (a.k != 3) = false := by simpa using h1
  by_cases h2 : b.k = 3
  ·have hd2 : (b.k != 3) = false := by simpa using h2
   obtain ⟨a1, a2⟩ := ha.int h1; obtain ⟨b1, b2⟩ := hb.int h2
   by_cases s1 : sign = 43
   ·have e : zJ sign a b = yp (if sign = 43 then a.n + b.n else a.n - b.n) := by simp [zJ, h1, h2, s1]
    rw [e]; exact QC sign (.inl s1) a b hd1 hd2 a1 a2 b1 b2 w
   ·have d1 : (sign == 43) = false := by simpa using s1
    by_cases s2 : sign = 45
    ·have e : zJ sign a b = yp (if sign = 43 then a.n + b.n else a.n - b.n) := by simp [zJ, h1, h2, s2]
     rw [e]; exact QC sign (.inr s2) a b hd1 hd2 a1 a2 b1 b2 w
    ·have d2 : (sign == 45) = false := by simpa using s2
     by_cases s3 : sign = 42
     ·have e : zJ sign a b = yp (a.n * b.n) := by simp [zJ, h1, h2, s3]
      rw [e, s3]; exact Nf a b hd1 hd2 a1 a2 b1 b2 w
     ·have d3 : (sign == 42) = false := by simpa using s3
      have e : zJ sign a b = ⟨1, 0, es⟩ := by simp [zJ, s1, s2, s3]
      rw [e]; clear e h1 h2 ha hb s1 s2 s3; unfold V.val; go_enter Tryz.func166, Tryz.ntmps166; go_wp2
      go_quiet (fail)
      go_wp2_with ((go_at_call 106; ((with_reducible refine (yt _).mono ?_); rintro e w' ⟨rfl, hg⟩; obtain ⟨hc, hf, hz⟩ := hg.rules)))
      exact qX_ vy_ rfl ⟨rfl, zd⟩
  ·have hd2 : (b.k != 3) = true := by simpa using h2
   have e : zJ sign a b = ⟨1, 0, es⟩ := by simp [zJ, h2]
   rw [e]; clear e h1 h2 ha hb; unfold V.val; go_enter Tryz.func166, Tryz.ntmps166
   go_wp2_with ((go_at_call 106; ((with_reducible refine (yt _).mono ?_); rintro e w' ⟨rfl, hg⟩; obtain ⟨hc, hf, hz⟩ := hg.rules)))
   exact qX_ vy_ rfl ⟨rfl, zd⟩
 ·have hd1 : (a.k != 3) = true := by simpa using h1
  have e : zJ sign a b = ⟨1, 0, es⟩ := by simp [zJ, h1]
  rw [e]; clear e h1 ha hb; unfold V.val; go_enter Tryz.func166, Tryz.ntmps166
  go_wp2_with ((go_at_call 106; ((with_reducible refine (yt _).mono ?_); rintro e w' ⟨rfl, hg⟩; obtain ⟨hc, hf, hz⟩ := hg.rules)))
  exact qX_ vy_ rfl ⟨rfl, zd⟩
@[go_sem] theorem V.eta (x : V) : V.mk x.k x.n x.s = x := rfl
def Bw (x y : V) : Bool := decide (x.k = y.k) && (decide (x.n = y.n) && decide (x.s = y.s))
theorem V.ext' {x y : V} (h1 : x.k = y.k) (h2 : x.n = y.n) (h3 : x.s = y.s) : x = y := by
 cases x; cases y; simp_all
theorem Rl (x y : V) : Bw x y = true ↔ x = y := by
 unfold Bw
 constructor
 ·intro h; simp at h; exact V.ext' h.1 h.2.1 h.2.2
 ·rintro rfl; simp
theorem VI (k n : Int) (s : ByteArray) (k' n' : Int) (s' : ByteArray) (w : World) :
  (binOp .eql 24 (.agg #[.int .i64 k, .int .i64 n, .string s]) (.agg #[.int .i64 k', .int .i64 n', .string s'])).run Tryz.prog w = .ok (.bool (Bw ⟨k, n, s⟩ ⟨k', n', s'⟩)) w := by
 have hs : (s.toList == s'.toList) = decide (s = s') := by
  rw [Mp, Bool.eq_iff_iff]; simp [Ri]
 have e : Tryz.prog.fieldsOf 24 = #[{ name := "Kind", type := 3, offset := 0, embedded := false, tag := "", pkgPath := "", byteOffset := 0 }, { name := "N", type := 2, offset := 1, embedded := false, tag := "", pkgPath := "", byteOffset := 8 }, { name := "Text", type := 9, offset := 2, embedded := false, tag := "", pkgPath := "", byteOffset := 16 }] := by kernel_rfl
 simp only [binOp]; simp only [Op.equal, Op.maxDepth]; rw [Sem.run_bind, run_equalIn_struct w 9999 24 _ _ uY_ uY_, e]; simp [Op.eqFields, go_sem]
 have hs2 : (s.toList = s'.toList) ↔ s = s' := by
  have := hs; rw [Bool.eq_iff_iff] at this; simpa using this
 by_cases h1 : k = k' <;> by_cases h2 : n = n' <;> by_cases h3 : s = s' <;> simp [h1, h2, h3, hs2, Bw]
def zR : V := ⟨1, 0, es⟩
def Sy (n : Int) : V := ⟨3, n, es⟩
structure F5 (a b c : V) : Prop where
 c1 : jN b a = jN a b
 c2 : WC b a = WC a b
 a1 : jN (jN a b) c = jN a (jN b c)
 a2 : WC (WC a b) c = WC a (WC b c)
 d1 : WC (jN a b) (jN a c) = jN a (WC b c)
 d2 : jN (WC a b) (WC a c) = WC a (jN b c)
 n1 : WC (qr a) (qr b) = qr (jN a b)
 n2 : jN (qr a) (qr b) = qr (WC a b)
 n3 : qr (qr (qr a)) = qr a
theorem CK (v : V) (h : RB v) (w : World) : Calls Tryz.prog 123 #[v.val] w fun e w' => e = .returned (qr v).val /\ za w w' := CN v h w
theorem Fa (n : Int) (h1 : -1000000000000000 <= n) (h2 : n <= 1000000000000000) : RV (Sy n) := ⟨.inr (.inr (.inl rfl)), fun h => by simp [Sy] at h, fun _ => ⟨h1, h2⟩, fun h => by simp [Sy] at h⟩
