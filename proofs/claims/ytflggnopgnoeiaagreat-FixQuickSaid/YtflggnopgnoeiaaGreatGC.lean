/- Parts of a proof. No condition. -/
import Derived.Test.YtflggnopgnoeiaaGreatGB
import Derived.Deep.QuietTactic
import Derived.BigQuiet
set_option maxHeartbeats 1000000
set_option maxRecDepth 100000
set_option linter.unusedSimpArgs false
set_option linter.unusedVariables false
namespace Go
variable {p : Prop}
theorem vl_ (h : p := by simp [results, Tryz.results119, go_sem, hc]) : p := h
theorem vm_ (h : p := by simp [results, Tryz.results120, go_sem, hc]) : p := h
end Go
namespace Go.Proofs.YtflggnopgnoeiaaGreat
open Go.RowKit Go.Calm
def yx (sign : Int) (a b : V) : V :=
 if a.k = 3 /\ b.k = 3 then
  (if sign = 43 then xT (a.n + b.n) else if sign = 45 then xT (a.n - b.n) else if sign = 42 then xT (a.n * b.n) else ⟨1, 0, es⟩)
 else ⟨1, 0, es⟩
theorem DX {x y : Int} (hx : x ≠ 0) (h : -1000000000000000 <= x * y /\ x * y <= 1000000000000000) : wrap64 (x * y) = x * y /\ wrap64 ((x * y).tdiv x) = y := by
 have h1 : wrap64 (x * y) = x * y := IntWalk.wrap64_in _ uX_; have h2 : (x * y).tdiv x = y := Int.mul_tdiv_cancel_left y hx; refine ⟨h1, ?_⟩; rw [h2]; refine IntWalk.wrap64_in _ ?_
 have : y.natAbs <= (x * y).natAbs := by
  rw [Int.natAbs_mul]; exact Nat.le_mul_of_pos_left _ uX_
 omega
theorem GP {x y P : Int} (hx : x ≠ 0) (hP : wrap64 (x * y) = P) (h : ¬ (-1000000000000000 <= x * y /\ x * y <= 1000000000000000)) (hq : wrap64 (P.tdiv x) = y) : P < -1000000000000000 \/ 1000000000000000 < P := by
 rcases Classical.em (P < -1000000000000000 \/ 1000000000000000 < P) with h' | h'
 ·exact h'
 ·exfalso; apply h; have hle : (P.tdiv x).natAbs <= P.natAbs := by rw [Int.natAbs_tdiv]; exact Nat.div_le_self _ _
  have hw : wrap64 (P.tdiv x) = P.tdiv x := IntWalk.wrap64_in _ uX_; rw [hw] at hq
  have hm : (x * y).natAbs <= P.natAbs := by
   rw [<- hq, Int.natAbs_mul, Int.natAbs_tdiv]; exact Nat.mul_div_le _ _
  omega
theorem SV (a b : V) (hd1 : (a.k != 3) = false) (hd2 : (b.k != 3) = false) (a1 : -1000000000000000 <= a.n) (a2 : a.n <= 1000000000000000) (b1 : -1000000000000000 <= b.n) (b2 : b.n <= 1000000000000000) (w : World) :
  Calls Tryz.prog 119 #[.int .i32 42, a.val, b.val] w fun e w' => e = .returned (xT (a.n * b.n)).val /\ za w w' := by
 by_cases hx : a.n = 0
 ·have dx : (a.n == 0) = true := by simpa using hx
  have hp : wrap64 (a.n * b.n) = 0 := by rw [hx, Int.zero_mul]; exact IntWalk.wrap64_in _ uX_
  have e : xT (a.n * b.n) = xT 0 := by rw [hx, Int.zero_mul]
  rw [e]; clear e hx; unfold V.val; go_enter Tryz.func119, Tryz.ntmps119; go_wp2
  go_quiet (fail)
  go_wp2_with ((go_at_call 72; ((with_reducible refine (XI _ _).mono ?_); rintro e w' ⟨rfl, hg⟩; obtain ⟨hc, hf, hz⟩ := hg.rules)))
  exact qX_ vl_ rfl ⟨rfl, ze⟩
 ·have dx : (a.n == 0) = false := by simpa using hx
  by_cases hm : -1000000000000000 <= a.n * b.n /\ a.n * b.n <= 1000000000000000
  ·obtain ⟨g1, g2⟩ := DX hx hm; obtain ⟨m1, m2⟩ := hm; obtain ⟨P, hP⟩ : ∃ P, P = a.n * b.n := ⟨_, rfl⟩
   rw [<- hP] at g1 g2 m1 m2 ⊢; have hp : wrap64 (a.n * b.n) = P := by rw [<- hP]; exact g1
   have dq : (wrap64 (P.tdiv a.n) == b.n) = true := by rw [g2]; simp
   clear g1 g2 hP; unfold V.val; go_enter Tryz.func119, Tryz.ntmps119; go_wp2
   go_quiet (fail)
   go_wp2_with ((go_at_call 72; ((with_reducible refine (XI _ _).mono ?_); rintro e w' ⟨rfl, hg⟩; obtain ⟨hc, hf, hz⟩ := hg.rules)))
   exact qX_ vl_ rfl ⟨rfl, ze⟩
  ·have e : xT (a.n * b.n) = ⟨1, 0, es⟩ := by unfold xT; rw [if_neg hm]
   rw [e]; clear e; obtain ⟨P, hp⟩ : ∃ P, wrap64 (a.n * b.n) = P := ⟨_, rfl⟩
   have far := GP hx hp hm; clear hm
   by_cases hq : wrap64 (P.tdiv a.n) = b.n
   ·have dq : (wrap64 (P.tdiv a.n) == b.n) = true := by rw [hq]; simp
    rcases far hq with hf | hf
    ·have hf' : P <= 1000000000000000 := by omega
     clear far hq; unfold V.val; go_enter Tryz.func119, Tryz.ntmps119; go_wp2
     go_quiet (fail)
     go_wp2_with ((go_at_call 73; ((with_reducible refine (Xj _).mono ?_); rintro e w' ⟨rfl, hg⟩; obtain ⟨hc, hf, hz⟩ := hg.rules)))
     exact qX_ vl_ rfl ⟨rfl, ze⟩
    ·clear far hq; unfold V.val; go_enter Tryz.func119, Tryz.ntmps119; go_wp2
     go_quiet (fail)
     go_wp2_with ((go_at_call 73; ((with_reducible refine (Xj _).mono ?_); rintro e w' ⟨rfl, hg⟩; obtain ⟨hc, hf, hz⟩ := hg.rules)))
     exact qX_ vl_ rfl ⟨rfl, ze⟩
   ·have dq : (wrap64 (P.tdiv a.n) == b.n) = false := by simpa using hq
    clear far hq; unfold V.val; go_enter Tryz.func119, Tryz.ntmps119; go_wp2
    go_quiet (fail)
    go_wp2_with ((go_at_call 73; ((with_reducible refine (Xj _).mono ?_); rintro e w' ⟨rfl, hg⟩; obtain ⟨hc, hf, hz⟩ := hg.rules)))
    exact qX_ vl_ rfl ⟨rfl, ze⟩
theorem ZG (sign : Int) (a b : V) (ha : RV a) (hb : RV b) (w : World) : Calls Tryz.prog 119 #[.int .i32 sign, a.val, b.val] w fun e w' => e = .returned (yx sign a b).val /\ za w w' := by
 by_cases h1 : a.k = 3
 ·have hd1 : (a.k != 3) = false := by simpa using h1
  by_cases h2 : b.k = 3
  ·have hd2 : (b.k != 3) = false := by simpa using h2
   obtain ⟨a1, a2⟩ := ha.int h1; obtain ⟨b1, b2⟩ := hb.int h2
   by_cases s1 : sign = 43
   ·have e : yx sign a b = xT (a.n + b.n) := by simp [yx, h1, h2, s1]
    rw [e]; clear e h1 h2 ha hb; subst s1; unfold V.val; go_enter Tryz.func119, Tryz.ntmps119; go_wp2
    go_quiet (fail)
    go_wp2_with ((go_at_call 72; ((with_reducible refine (XI _ _).mono ?_); rintro e w' ⟨rfl, hg⟩; obtain ⟨hc, hf, hz⟩ := hg.rules)))
    exact qX_ vl_ rfl ⟨rfl, ze⟩
   ·have d1 : (sign == 43) = false := by simpa using s1
    by_cases s2 : sign = 45
    ·have e : yx sign a b = xT (a.n - b.n) := by simp [yx, h1, h2, s2]
     rw [e]; clear e h1 h2 ha hb d1 s1; subst s2; unfold V.val; go_enter Tryz.func119, Tryz.ntmps119; go_wp2
     go_quiet (fail)
     go_wp2_with ((go_at_call 72; ((with_reducible refine (XI _ _).mono ?_); rintro e w' ⟨rfl, hg⟩; obtain ⟨hc, hf, hz⟩ := hg.rules)))
     exact qX_ vl_ rfl ⟨rfl, ze⟩
    ·have d2 : (sign == 45) = false := by simpa using s2
     by_cases s3 : sign = 42
     ·have e : yx sign a b = xT (a.n * b.n) := by simp [yx, h1, h2, s3]
      rw [e]; clear e h1 h2 ha hb d1 s1 d2 s2; subst s3; exact SV a b hd1 hd2 a1 a2 b1 b2 w
     ·have d3 : (sign == 42) = false := by simpa using s3
      have e : yx sign a b = ⟨1, 0, es⟩ := by simp [yx, s1, s2, s3]
      rw [e]; clear e h1 h2 ha hb s1 s2 s3; unfold V.val; go_enter Tryz.func119, Tryz.ntmps119; go_wp2
      go_quiet (fail)
      go_wp2_with ((go_at_call 73; ((with_reducible refine (Xj _).mono ?_); rintro e w' ⟨rfl, hg⟩; obtain ⟨hc, hf, hz⟩ := hg.rules)))
      exact qX_ vl_ rfl ⟨rfl, ze⟩
  ·have hd2 : (b.k != 3) = true := by simpa using h2
   have e : yx sign a b = ⟨1, 0, es⟩ := by simp [yx, h2]
   rw [e]; clear e h1 h2 ha hb; unfold V.val; go_enter Tryz.func119, Tryz.ntmps119
   go_wp2_with ((go_at_call 73; ((with_reducible refine (Xj _).mono ?_); rintro e w' ⟨rfl, hg⟩; obtain ⟨hc, hf, hz⟩ := hg.rules)))
   exact qX_ vl_ rfl ⟨rfl, ze⟩
 ·have hd1 : (a.k != 3) = true := by simpa using h1
  have e : yx sign a b = ⟨1, 0, es⟩ := by simp [yx, h1]
  rw [e]; clear e h1 ha hb; unfold V.val; go_enter Tryz.func119, Tryz.ntmps119
  go_wp2_with ((go_at_call 73; ((with_reducible refine (Xj _).mono ?_); rintro e w' ⟨rfl, hg⟩; obtain ⟨hc, hf, hz⟩ := hg.rules)))
  exact qX_ vl_ rfl ⟨rfl, ze⟩
def jd (a b : V) : V := if a.k = 4 /\ b.k = 4 /\ a.s.size + b.s.size <= 60 then ⟨4, 0, a.s ++ b.s⟩ else ⟨1, 0, es⟩
theorem DA (a b : V) (ha : RV a) (hb : RV b) (w : World) : Calls Tryz.prog 120 #[a.val, b.val] w fun e w' => e = .returned (jd a b).val /\ za w w' := by
 have ta := ha.text; have tb := hb.text
 by_cases h1 : a.k = 4
 ·have hd1 : (a.k != 4) = false := by simpa using h1
  by_cases h2 : b.k = 4
  ·have hd2 : (b.k != 4) = false := by simpa using h2
   have ta' := ta h1; have tb' := tb h2
   by_cases h3 : a.s.size + b.s.size <= 60
   ·have e : jd a b = ⟨4, 0, a.s ++ b.s⟩ := by simp [jd, h1, h2, h3]
    rw [e]; clear e h1 h2 ta tb ha hb; have h3' : (a.s.size : Int) + b.s.size <= 60 := by omega
    unfold V.val; go_enter Tryz.func120, Tryz.ntmps120; go_wp2; exact qX_ (by simp [results, Tryz.results120, go_sem]) rfl ⟨rfl, ze⟩
   ·have e : jd a b = ⟨1, 0, es⟩ := by simp [jd, h3]
    rw [e]; clear e h1 h2 ta tb ha hb; have h3' : 60 < (a.s.size : Int) + b.s.size := by omega
    unfold V.val; go_enter Tryz.func120, Tryz.ntmps120
    go_wp2_with ((go_at_call 73; ((with_reducible refine (Xj _).mono ?_); rintro e w' ⟨rfl, hg⟩; obtain ⟨hc, hf, hz⟩ := hg.rules)))
    exact qX_ vm_ rfl ⟨rfl, ze⟩
  ·have hd2 : (b.k != 4) = true := by simpa using h2
   have e : jd a b = ⟨1, 0, es⟩ := by simp [jd, h2]
   rw [e]; clear e h1 h2 ta tb ha hb; unfold V.val; go_enter Tryz.func120, Tryz.ntmps120
   go_wp2_with ((go_at_call 73; ((with_reducible refine (Xj _).mono ?_); rintro e w' ⟨rfl, hg⟩; obtain ⟨hc, hf, hz⟩ := hg.rules)))
   exact qX_ vm_ rfl ⟨rfl, ze⟩
 ·have hd1 : (a.k != 4) = true := by simpa using h1
  have e : jd a b = ⟨1, 0, es⟩ := by simp [jd, h1]
  rw [e]; clear e h1 ta tb ha hb; unfold V.val; go_enter Tryz.func120, Tryz.ntmps120
  go_wp2_with ((go_at_call 73; ((with_reducible refine (Xj _).mono ?_); rintro e w' ⟨rfl, hg⟩; obtain ⟨hc, hf, hz⟩ := hg.rules)))
  exact qX_ vm_ rfl ⟨rfl, ze⟩
theorem SU (a : V) (ha : RV a) : (yB a = 0 /\ GI a false = true /\ GI a true = false) \/ (yB a = 1 /\ GI a false = false /\ GI a true = false) \/ (yB a = 2 /\ GI a false = false /\ GI a true = true) := by
 by_cases h1 : a.k = 2
 ·rcases ha.bool h1 with h | h <;> simp [yB, GI, h1, h]
 ·simp [yB, GI, h1]
@[go_sem] theorem V.eta (x : V) : V.mk x.k x.n x.s = x := rfl
def FV (x y : V) : Bool := decide (x.k = y.k) && (decide (x.n = y.n) && decide (x.s = y.s))
theorem V.ext' {x y : V} (h1 : x.k = y.k) (h2 : x.n = y.n) (h3 : x.s = y.s) : x = y := by
 cases x; cases y; simp_all
theorem TB (x y : V) : FV x y = true ↔ x = y := by
 unfold FV
 constructor
 ·intro h; simp at h; exact V.ext' h.1 h.2.1 h.2.2
 ·rintro rfl; simp
theorem EU (k n : Int) (s : ByteArray) (k' n' : Int) (s' : ByteArray) (w : World) :
  (binOp .eql 33 (.agg #[.int .i64 k, .int .i64 n, .string s]) (.agg #[.int .i64 k', .int .i64 n', .string s'])).run Tryz.prog w = .ok (.bool (FV ⟨k, n, s⟩ ⟨k', n', s'⟩)) w := by
 have hs : (s.toList == s'.toList) = decide (s = s') := by
  rw [Pn, Bool.eq_iff_iff]; simp [Tt]
 have e : Tryz.prog.fieldsOf 33 = #[{ name := "Kind", type := 3, offset := 0, embedded := false, tag := "", pkgPath := "", byteOffset := 0 }, { name := "N", type := 2, offset := 1, embedded := false, tag := "", pkgPath := "", byteOffset := 8 }, { name := "Text", type := 9, offset := 2, embedded := false, tag := "", pkgPath := "", byteOffset := 16 }] := by kernel_rfl
 simp only [binOp]; simp only [Op.equal, Op.maxDepth]; rw [Sem.run_bind, run_equalIn_struct w 9999 33 _ _ uQ_ uQ_, e]; simp [Op.eqFields, go_sem]
 have hs2 : (s.toList = s'.toList) ↔ s = s' := by
  have := hs; rw [Bool.eq_iff_iff] at this; simpa using this
 by_cases h1 : k = k' <;> by_cases h2 : n = n' <;> by_cases h3 : s = s' <;> simp [h1, h2, h3, hs2, FV]
def yj : V := ⟨1, 0, es⟩
def Vq (n : Int) : V := ⟨3, n, es⟩
structure zcK (a b c : V) : Prop where
 c1 : X7 b a = X7 a b
 c2 : N2 b a = N2 a b
 a1 : X7 (X7 a b) c = X7 a (X7 b c)
 a2 : N2 (N2 a b) c = N2 a (N2 b c)
 d1 : N2 (X7 a b) (X7 a c) = X7 a (N2 b c)
 d2 : X7 (N2 a b) (N2 a c) = N2 a (X7 b c)
 n1 : N2 (kN a) (kN b) = kN (X7 a b)
 n2 : X7 (kN a) (kN b) = kN (N2 a b)
 n3 : kN (kN (kN a)) = kN a
theorem He (v : V) (h : RB v) (w : World) : Calls Tryz.prog 116 #[v.val] w fun e w' => e = .returned (kN v).val /\ za w w' := Hg v h w
theorem EW (n : Int) (h1 : -1000000000000000 <= n) (h2 : n <= 1000000000000000) : RV (Vq n) := ⟨.inr (.inr (.inl rfl)), fun h => by simp [Vq] at h, fun _ => ⟨h1, h2⟩, fun h => by simp [Vq] at h⟩
