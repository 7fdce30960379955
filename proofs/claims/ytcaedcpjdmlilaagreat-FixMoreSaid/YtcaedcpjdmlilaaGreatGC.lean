/-
 Joined texts of this claim: Vals4, Vals5, Vals6, Laws1. What each proves its own head says; no condition beside those that each theorem names.
-/
import Derived.Test.YtcaedcpjdmlilaaGreatGB
import Derived.Deep.QuietTactic
import Derived.BigQuiet
import Derived.Lib.Hide
set_option maxHeartbeats 1000000
namespace Go.Proofs.YtcaedcpjdmlilaaGreat
open Go.RowKit Go.Calm
set_option linter.unusedSimpArgs false
set_option linter.unusedVariables false
def ym (sign : Int) (a b : V) : V :=
 if a.k = 3 /\ b.k = 3 then
  (if sign = 43 then xH (a.n + b.n) else if sign = 45 then xH (a.n - b.n) else if sign = 42 then xH (a.n * b.n) else ⟨1, 0, es⟩)
 else ⟨1, 0, es⟩
theorem CJ {x y : Int} (hx : x ≠ 0) (h : -1000000000000000 <= x * y /\ x * y <= 1000000000000000) : wrap64 (x * y) = x * y /\ wrap64 ((x * y).tdiv x) = y := by
 have h1 : wrap64 (x * y) = x * y := IntWalk.wrap64_in _ (by omega); have h2 : (x * y).tdiv x = y := Int.mul_tdiv_cancel_left y hx; refine ⟨h1, ?_⟩; rw [h2]; refine IntWalk.wrap64_in _ ?_
 have : y.natAbs <= (x * y).natAbs := by
  rw [Int.natAbs_mul]; exact Nat.le_mul_of_pos_left _ (by omega)
 omega
theorem Ft {x y P : Int} (hx : x ≠ 0) (hP : wrap64 (x * y) = P) (h : ¬ (-1000000000000000 <= x * y /\ x * y <= 1000000000000000)) (hq : wrap64 (P.tdiv x) = y) : P < -1000000000000000 \/ 1000000000000000 < P := by
 rcases Classical.em (P < -1000000000000000 \/ 1000000000000000 < P) with h' | h'
 ·exact h'
 ·exfalso; apply h; have hle : (P.tdiv x).natAbs <= P.natAbs := by rw [Int.natAbs_tdiv]; exact Nat.div_le_self _ _
  have hw : wrap64 (P.tdiv x) = P.tdiv x := IntWalk.wrap64_in _ (by omega); rw [hw] at hq
  have hm : (x * y).natAbs <= P.natAbs := by
   rw [<- hq, Int.natAbs_mul, Int.natAbs_tdiv]; exact Nat.mul_div_le _ _
  omega
theorem SB (a b : V) (hd1 : (a.k != 3) = false) (hd2 : (b.k != 3) = false) (a1 : -1000000000000000 <= a.n) (a2 : a.n <= 1000000000000000) (b1 : -1000000000000000 <= b.n) (b2 : b.n <= 1000000000000000) (w : World) :
  Calls Tryz.prog 185 #[.int .i32 42, a.val, b.val] w fun e w' => e = .returned (xH (a.n * b.n)).val /\ za w w' := by
 by_cases hx : a.n = 0
 ·have dx : (a.n == 0) = true := by simpa using hx
  have hp : wrap64 (a.n * b.n) = 0 := by rw [hx, Int.zero_mul]; exact IntWalk.wrap64_in _ (by omega)
  have e : xH (a.n * b.n) = xH 0 := by rw [hx, Int.zero_mul]
  rw [e]; clear e hx; unfold V.val; go_enter Tryz.func185, Tryz.ntmps185; go_wp2
  go_quiet (fail)
  go_wp2_with ((go_at_call 210; ((with_reducible refine (Xv _ _).mono ?_); rintro e w' ⟨rfl, hg⟩; obtain ⟨hc, hf, hz⟩ := hg.rules)))
  exact bodyPost_ret (by simp [results, Tryz.results185, go_sem, hc]) rfl ⟨rfl, (by with_reducible repeat (first | exact za.refl _ | assumption | refine za.set ?_ (by simp <;> omega) _ | refine za.al ?_ _ | refine za.drew ?_ | refine za.drewN ?_ _ | refine za.trans ?_ (by assumption)))⟩
 ·have dx : (a.n == 0) = false := by simpa using hx
  by_cases hm : -1000000000000000 <= a.n * b.n /\ a.n * b.n <= 1000000000000000
  ·obtain ⟨g1, g2⟩ := CJ hx hm; obtain ⟨m1, m2⟩ := hm; obtain ⟨P, hP⟩ : ∃ P, P = a.n * b.n := ⟨_, rfl⟩
   rw [<- hP] at g1 g2 m1 m2 ⊢; have hp : wrap64 (a.n * b.n) = P := by rw [<- hP]; exact g1
   have dq : (wrap64 (P.tdiv a.n) == b.n) = true := by rw [g2]; simp
   clear g1 g2 hP; unfold V.val; go_enter Tryz.func185, Tryz.ntmps185; go_wp2
   go_quiet (fail)
   go_wp2_with ((go_at_call 210; ((with_reducible refine (Xv _ _).mono ?_); rintro e w' ⟨rfl, hg⟩; obtain ⟨hc, hf, hz⟩ := hg.rules)))
   exact bodyPost_ret (by simp [results, Tryz.results185, go_sem, hc]) rfl ⟨rfl, (by with_reducible repeat (first | exact za.refl _ | assumption | refine za.set ?_ (by simp <;> omega) _ | refine za.al ?_ _ | refine za.drew ?_ | refine za.drewN ?_ _ | refine za.trans ?_ (by assumption)))⟩
  ·have e : xH (a.n * b.n) = ⟨1, 0, es⟩ := by unfold xH; rw [if_neg hm]
   rw [e]; clear e; obtain ⟨P, hp⟩ : ∃ P, wrap64 (a.n * b.n) = P := ⟨_, rfl⟩
   have far := Ft hx hp hm; clear hm
   by_cases hq : wrap64 (P.tdiv a.n) = b.n
   ·have dq : (wrap64 (P.tdiv a.n) == b.n) = true := by rw [hq]; simp
    rcases far hq with hf | hf
    ·have hf' : P <= 1000000000000000 := by omega
     clear far hq; unfold V.val; go_enter Tryz.func185, Tryz.ntmps185; go_wp2
     go_quiet (fail)
     go_wp2_with ((go_at_call 173; ((with_reducible refine (kX _).mono ?_); rintro e w' ⟨rfl, hg⟩; obtain ⟨hc, hf, hz⟩ := hg.rules)))
     exact bodyPost_ret (by simp [results, Tryz.results185, go_sem, hc]) rfl ⟨rfl, (by with_reducible repeat (first | exact za.refl _ | assumption | refine za.set ?_ (by simp <;> omega) _ | refine za.al ?_ _ | refine za.drew ?_ | refine za.drewN ?_ _ | refine za.trans ?_ (by assumption)))⟩
    ·clear far hq; unfold V.val; go_enter Tryz.func185, Tryz.ntmps185; go_wp2
     go_quiet (fail)
     go_wp2_with ((go_at_call 173; ((with_reducible refine (kX _).mono ?_); rintro e w' ⟨rfl, hg⟩; obtain ⟨hc, hf, hz⟩ := hg.rules)))
     exact bodyPost_ret (by simp [results, Tryz.results185, go_sem, hc]) rfl ⟨rfl, (by with_reducible repeat (first | exact za.refl _ | assumption | refine za.set ?_ (by simp <;> omega) _ | refine za.al ?_ _ | refine za.drew ?_ | refine za.drewN ?_ _ | refine za.trans ?_ (by assumption)))⟩
   ·have dq : (wrap64 (P.tdiv a.n) == b.n) = false := by simpa using hq
    clear far hq; unfold V.val; go_enter Tryz.func185, Tryz.ntmps185; go_wp2
    go_quiet (fail)
    go_wp2_with ((go_at_call 173; ((with_reducible refine (kX _).mono ?_); rintro e w' ⟨rfl, hg⟩; obtain ⟨hc, hf, hz⟩ := hg.rules)))
    exact bodyPost_ret (by simp [results, Tryz.results185, go_sem, hc]) rfl ⟨rfl, (by with_reducible repeat (first | exact za.refl _ | assumption | refine za.set ?_ (by simp <;> omega) _ | refine za.al ?_ _ | refine za.drew ?_ | refine za.drewN ?_ _ | refine za.trans ?_ (by assumption)))⟩
theorem ZK (sign : Int) (a b : V) (ha : RV a) (hb : RV b) (w : World) : Calls Tryz.prog 185 #[.int .i32 sign, a.val, b.val] w fun e w' => e = .returned (ym sign a b).val /\ za w w' := by
 by_cases h1 : a.k = 3
 ·have hd1 : (a.k != 3) = false := by simpa using h1
  by_cases h2 : b.k = 3
  ·have hd2 : (b.k != 3) = false := by simpa using h2
   obtain ⟨a1, a2⟩ := ha.int h1; obtain ⟨b1, b2⟩ := hb.int h2
   by_cases s1 : sign = 43
   ·have e : ym sign a b = xH (a.n + b.n) := by simp [ym, h1, h2, s1]
    rw [e]; clear e h1 h2 ha hb; subst s1; unfold V.val; go_enter Tryz.func185, Tryz.ntmps185; go_wp2
    go_quiet (fail)
    go_wp2_with ((go_at_call 210; ((with_reducible refine (Xv _ _).mono ?_); rintro e w' ⟨rfl, hg⟩; obtain ⟨hc, hf, hz⟩ := hg.rules)))
    exact bodyPost_ret (by simp [results, Tryz.results185, go_sem, hc]) rfl ⟨rfl, (by with_reducible repeat (first | exact za.refl _ | assumption | refine za.set ?_ (by simp <;> omega) _ | refine za.al ?_ _ | refine za.drew ?_ | refine za.drewN ?_ _ | refine za.trans ?_ (by assumption)))⟩
   ·have d1 : (sign == 43) = false := by simpa using s1
    by_cases s2 : sign = 45
    ·have e : ym sign a b = xH (a.n - b.n) := by simp [ym, h1, h2, s2]
     rw [e]; clear e h1 h2 ha hb d1 s1; subst s2; unfold V.val; go_enter Tryz.func185, Tryz.ntmps185; go_wp2
     go_quiet (fail)
     go_wp2_with ((go_at_call 210; ((with_reducible refine (Xv _ _).mono ?_); rintro e w' ⟨rfl, hg⟩; obtain ⟨hc, hf, hz⟩ := hg.rules)))
     exact bodyPost_ret (by simp [results, Tryz.results185, go_sem, hc]) rfl ⟨rfl, (by with_reducible repeat (first | exact za.refl _ | assumption | refine za.set ?_ (by simp <;> omega) _ | refine za.al ?_ _ | refine za.drew ?_ | refine za.drewN ?_ _ | refine za.trans ?_ (by assumption)))⟩
    ·have d2 : (sign == 45) = false := by simpa using s2
     by_cases s3 : sign = 42
     ·have e : ym sign a b = xH (a.n * b.n) := by simp [ym, h1, h2, s3]
      rw [e]; clear e h1 h2 ha hb d1 s1 d2 s2; subst s3; exact SB a b hd1 hd2 a1 a2 b1 b2 w
     ·have d3 : (sign == 42) = false := by simpa using s3
      have e : ym sign a b = ⟨1, 0, es⟩ := by simp [ym, s1, s2, s3]
      rw [e]; clear e h1 h2 ha hb s1 s2 s3; unfold V.val; go_enter Tryz.func185, Tryz.ntmps185; go_wp2
      go_quiet (fail)
      go_wp2_with ((go_at_call 173; ((with_reducible refine (kX _).mono ?_); rintro e w' ⟨rfl, hg⟩; obtain ⟨hc, hf, hz⟩ := hg.rules)))
      exact bodyPost_ret (by simp [results, Tryz.results185, go_sem, hc]) rfl ⟨rfl, (by with_reducible repeat (first | exact za.refl _ | assumption | refine za.set ?_ (by simp <;> omega) _ | refine za.al ?_ _ | refine za.drew ?_ | refine za.drewN ?_ _ | refine za.trans ?_ (by assumption)))⟩
  ·have hd2 : (b.k != 3) = true := by simpa using h2
   have e : ym sign a b = ⟨1, 0, es⟩ := by simp [ym, h2]
   rw [e]; clear e h1 h2 ha hb; unfold V.val; go_enter Tryz.func185, Tryz.ntmps185
   go_wp2_with ((go_at_call 173; ((with_reducible refine (kX _).mono ?_); rintro e w' ⟨rfl, hg⟩; obtain ⟨hc, hf, hz⟩ := hg.rules)))
   exact bodyPost_ret (by simp [results, Tryz.results185, go_sem, hc]) rfl ⟨rfl, (by with_reducible repeat (first | exact za.refl _ | assumption | refine za.set ?_ (by simp <;> omega) _ | refine za.al ?_ _ | refine za.drew ?_ | refine za.drewN ?_ _ | refine za.trans ?_ (by assumption)))⟩
 ·have hd1 : (a.k != 3) = true := by simpa using h1
  have e : ym sign a b = ⟨1, 0, es⟩ := by simp [ym, h1]
  rw [e]; clear e h1 ha hb; unfold V.val; go_enter Tryz.func185, Tryz.ntmps185
  go_wp2_with ((go_at_call 173; ((with_reducible refine (kX _).mono ?_); rintro e w' ⟨rfl, hg⟩; obtain ⟨hc, hf, hz⟩ := hg.rules)))
  exact bodyPost_ret (by simp [results, Tryz.results185, go_sem, hc]) rfl ⟨rfl, (by with_reducible repeat (first | exact za.refl _ | assumption | refine za.set ?_ (by simp <;> omega) _ | refine za.al ?_ _ | refine za.drew ?_ | refine za.drewN ?_ _ | refine za.trans ?_ (by assumption)))⟩
def qN (a b : V) : V := if a.k = 4 /\ b.k = 4 /\ a.s.size + b.s.size <= 60 then ⟨4, 0, a.s ++ b.s⟩ else ⟨1, 0, es⟩
theorem Cf (a b : V) (ha : RV a) (hb : RV b) (w : World) : Calls Tryz.prog 186 #[a.val, b.val] w fun e w' => e = .returned (qN a b).val /\ za w w' := by
 have ta := ha.text; have tb := hb.text
 by_cases h1 : a.k = 4
 ·have hd1 : (a.k != 4) = false := by simpa using h1
  by_cases h2 : b.k = 4
  ·have hd2 : (b.k != 4) = false := by simpa using h2
   have ta' := ta h1; have tb' := tb h2
   by_cases h3 : a.s.size + b.s.size <= 60
   ·have e : qN a b = ⟨4, 0, a.s ++ b.s⟩ := by simp [qN, h1, h2, h3]
    rw [e]; clear e h1 h2 ta tb ha hb; have h3' : (a.s.size : Int) + b.s.size <= 60 := by omega
    unfold V.val; go_enter Tryz.func186, Tryz.ntmps186; go_wp2; exact bodyPost_ret (by simp [results, Tryz.results186, go_sem]) rfl ⟨rfl, (by with_reducible repeat (first | exact za.refl _ | assumption | refine za.set ?_ (by simp <;> omega) _ | refine za.al ?_ _ | refine za.drew ?_ | refine za.drewN ?_ _ | refine za.trans ?_ (by assumption)))⟩
   ·have e : qN a b = ⟨1, 0, es⟩ := by simp [qN, h3]
    rw [e]; clear e h1 h2 ta tb ha hb; have h3' : 60 < (a.s.size : Int) + b.s.size := by omega
    unfold V.val; go_enter Tryz.func186, Tryz.ntmps186
    go_wp2_with ((go_at_call 173; ((with_reducible refine (kX _).mono ?_); rintro e w' ⟨rfl, hg⟩; obtain ⟨hc, hf, hz⟩ := hg.rules)))
    exact bodyPost_ret (by simp [results, Tryz.results186, go_sem, hc]) rfl ⟨rfl, (by with_reducible repeat (first | exact za.refl _ | assumption | refine za.set ?_ (by simp <;> omega) _ | refine za.al ?_ _ | refine za.drew ?_ | refine za.drewN ?_ _ | refine za.trans ?_ (by assumption)))⟩
  ·have hd2 : (b.k != 4) = true := by simpa using h2
   have e : qN a b = ⟨1, 0, es⟩ := by simp [qN, h2]
   rw [e]; clear e h1 h2 ta tb ha hb; unfold V.val; go_enter Tryz.func186, Tryz.ntmps186
   go_wp2_with ((go_at_call 173; ((with_reducible refine (kX _).mono ?_); rintro e w' ⟨rfl, hg⟩; obtain ⟨hc, hf, hz⟩ := hg.rules)))
   exact bodyPost_ret (by simp [results, Tryz.results186, go_sem, hc]) rfl ⟨rfl, (by with_reducible repeat (first | exact za.refl _ | assumption | refine za.set ?_ (by simp <;> omega) _ | refine za.al ?_ _ | refine za.drew ?_ | refine za.drewN ?_ _ | refine za.trans ?_ (by assumption)))⟩
 ·have hd1 : (a.k != 4) = true := by simpa using h1
  have e : qN a b = ⟨1, 0, es⟩ := by simp [qN, h1]
  rw [e]; clear e h1 ta tb ha hb; unfold V.val; go_enter Tryz.func186, Tryz.ntmps186
  go_wp2_with ((go_at_call 173; ((with_reducible refine (kX _).mono ?_); rintro e w' ⟨rfl, hg⟩; obtain ⟨hc, hf, hz⟩ := hg.rules)))
  exact bodyPost_ret (by simp [results, Tryz.results186, go_sem, hc]) rfl ⟨rfl, (by with_reducible repeat (first | exact za.refl _ | assumption | refine za.set ?_ (by simp <;> omega) _ | refine za.al ?_ _ | refine za.drew ?_ | refine za.drewN ?_ _ | refine za.trans ?_ (by assumption)))⟩
@[go_sem] theorem V.eta (x : V) : V.mk x.k x.n x.s = x := rfl
def E5 (x y : V) : Bool := decide (x.k = y.k) && (decide (x.n = y.n) && decide (x.s = y.s))
theorem V.ext' {x y : V} (h1 : x.k = y.k) (h2 : x.n = y.n) (h3 : x.s = y.s) : x = y := by
 cases x; cases y; simp_all
theorem Tr (x y : V) : E5 x y = true ↔ x = y := by
 unfold E5
 constructor
 ·intro h; simp at h; exact V.ext' h.1 h.2.1 h.2.2
 ·rintro rfl; simp
theorem Dt (k n : Int) (s : ByteArray) (k' n' : Int) (s' : ByteArray) (w : World) :
  (binOp .eql 24 (.agg #[.int .i64 k, .int .i64 n, .string s]) (.agg #[.int .i64 k', .int .i64 n', .string s'])).run Tryz.prog w = .ok (.bool (E5 ⟨k, n, s⟩ ⟨k', n', s'⟩)) w := by
 have hs : (s.toList == s'.toList) = decide (s = s') := by
  rw [V7, Bool.eq_iff_iff]; simp [Tf]
 have e : Tryz.prog.fieldsOf 24 = #[{ name := "Kind", type := 3, offset := 0, embedded := false, tag := "", pkgPath := "", byteOffset := 0 }, { name := "N", type := 2, offset := 1, embedded := false, tag := "", pkgPath := "", byteOffset := 8 }, { name := "Text", type := 9, offset := 2, embedded := false, tag := "", pkgPath := "", byteOffset := 16 }] := by kernel_rfl
 simp only [binOp]; simp only [Op.equal, Op.maxDepth]; rw [Sem.run_bind, run_equalIn_struct w 9999 24 _ _ (by kernel_rfl) (by kernel_rfl), e]; simp [Op.eqFields, go_sem]
 have hs2 : (s.toList = s'.toList) ↔ s = s' := by
  have := hs; rw [Bool.eq_iff_iff] at this; simpa using this
 by_cases h1 : k = k' <;> by_cases h2 : n = n' <;> by_cases h3 : s = s' <;> simp [h1, h2, h3, hs2, E5]
def yf : V := ⟨1, 0, es⟩
def zaL (n : Int) : V := ⟨3, n, es⟩
theorem FB (v : V) (h : RB v) (w : World) : Calls Tryz.prog 182 #[v.val] w fun e w' => e = .returned (WX v).val /\ za w w' := FC v h w
theorem zbf (n : Int) (h1 : -1000000000000000 <= n) (h2 : n <= 1000000000000000) : RV (zaL n) := ⟨.inr (.inr (.inl rfl)), fun h => by simp [zaL] at h, fun _ => ⟨h1, h2⟩, fun h => by simp [zaL] at h⟩
end Go.Proofs.YtcaedcpjdmlilaaGreat

