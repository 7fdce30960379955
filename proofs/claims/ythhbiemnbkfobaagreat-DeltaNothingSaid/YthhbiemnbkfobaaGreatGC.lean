/- Parts of a proof. No condition. -/
import Derived.Test.YthhbiemnbkfobaaGreatGB
import Derived.Deep.QuietTactic
import Derived.BigQuiet
set_option maxHeartbeats 1000000
set_option maxRecDepth 100000
set_option linter.unusedSimpArgs false
set_option linter.unusedVariables false
namespace Go
variable {p : Prop}
theorem oW_ (h : p := by simp [results, Tryz.results122, go_sem, hc]) : p := h
theorem oX_ (h : p := by simp [results, Tryz.results123, go_sem, hc]) : p := h
end Go
namespace Go.Proofs.YthhbiemnbkfobaaGreat
open Go.RowKit Go.Calm
def yi (sign : Int) (a b : V) : V :=
  if a.k = 3 /\ b.k = 3 then
    (if sign = 43 then xt (a.n + b.n) else if sign = 45 then xt (a.n - b.n) else if sign = 42 then xt (a.n * b.n) else ⟨1, 0, es⟩)
  else ⟨1, 0, es⟩
theorem T9 {x y : Int} (hx : x ≠ 0) (h : -1000000000000000 <= x * y /\ x * y <= 1000000000000000) : wrap64 (x * y) = x * y /\ wrap64 ((x * y).tdiv x) = y := by
  have h1 : wrap64 (x * y) = x * y := IntWalk.wrap64_in _ vU_; have h2 : (x * y).tdiv x = y := Int.mul_tdiv_cancel_left y hx; refine ⟨h1, ?_⟩; rw [h2]; refine IntWalk.wrap64_in _ ?_
  have : y.natAbs <= (x * y).natAbs := by
    rw [Int.natAbs_mul]; exact Nat.le_mul_of_pos_left _ vU_
  omega
theorem VT {x y P : Int} (hx : x ≠ 0) (hP : wrap64 (x * y) = P) (h : ¬ (-1000000000000000 <= x * y /\ x * y <= 1000000000000000)) (hq : wrap64 (P.tdiv x) = y) : P < -1000000000000000 \/ 1000000000000000 < P := by
  rcases Classical.em (P < -1000000000000000 \/ 1000000000000000 < P) with h' | h'
  · exact h'
  · exfalso
    apply h; have hle : (P.tdiv x).natAbs <= P.natAbs := by rw [Int.natAbs_tdiv]; exact Nat.div_le_self _ _
    have hw : wrap64 (P.tdiv x) = P.tdiv x := IntWalk.wrap64_in _ vU_; rw [hw] at hq
    have hm : (x * y).natAbs <= P.natAbs := by
      rw [<- hq, Int.natAbs_mul, Int.natAbs_tdiv]; exact Nat.mul_div_le _ _
    omega
theorem N0 (a b : V) (hd1 : (a.k != 3) = false) (hd2 : (b.k != 3) = false) (a1 : -1000000000000000 <= a.n) (a2 : a.n <= 1000000000000000) (b1 : -1000000000000000 <= b.n) (b2 : b.n <= 1000000000000000) (w : World) :
    Calls Tryz.prog 122 #[.int .i32 42, a.val, b.val] w fun e w' => e = .returned (xt (a.n * b.n)).val /\ za w w' := by
  by_cases hx : a.n = 0
  · have dx : (a.n == 0) = true := by simpa using hx
    have hp : wrap64 (a.n * b.n) = 0 := by rw [hx, Int.zero_mul]; exact IntWalk.wrap64_in _ vU_
    have e : xt (a.n * b.n) = xt 0 := by rw [hx, Int.zero_mul]
    rw [e]; clear e hx; unfold V.val; go_enter Tryz.func122, Tryz.ntmps122; go_wp2
    go_quiet (fail)
    go_wp2_with ((go_at_call 150; ((with_reducible refine (kp _ _).mono ?_); rintro e w' ⟨rfl, hg⟩; obtain ⟨hc, hf, hz⟩ := hg.rules)))
    exact qX_ oW_ rfl ⟨rfl, zi⟩
  · have dx : (a.n == 0) = false := by simpa using hx
    by_cases hm : -1000000000000000 <= a.n * b.n /\ a.n * b.n <= 1000000000000000
    · obtain ⟨g1, g2⟩ := T9 hx hm
      obtain ⟨m1, m2⟩ := hm; obtain ⟨P, hP⟩ : ∃ P, P = a.n * b.n := ⟨_, rfl⟩
      rw [<- hP] at g1 g2 m1 m2 ⊢; have hp : wrap64 (a.n * b.n) = P := by rw [<- hP]; exact g1
      have dq : (wrap64 (P.tdiv a.n) == b.n) = true := by rw [g2]; simp
      clear g1 g2 hP; unfold V.val; go_enter Tryz.func122, Tryz.ntmps122; go_wp2
      go_quiet (fail)
      go_wp2_with ((go_at_call 150; ((with_reducible refine (kp _ _).mono ?_); rintro e w' ⟨rfl, hg⟩; obtain ⟨hc, hf, hz⟩ := hg.rules)))
      exact qX_ oW_ rfl ⟨rfl, zi⟩
    · have e : xt (a.n * b.n) = ⟨1, 0, es⟩ := by unfold xt; rw [if_neg hm]
      rw [e]; clear e; obtain ⟨P, hp⟩ : ∃ P, wrap64 (a.n * b.n) = P := ⟨_, rfl⟩
      have far := VT hx hp hm; clear hm
      by_cases hq : wrap64 (P.tdiv a.n) = b.n
      · have dq : (wrap64 (P.tdiv a.n) == b.n) = true := by rw [hq]; simp
        rcases far hq with hf | hf
        · have hf' : P <= 1000000000000000 := by omega
          clear far hq; unfold V.val; go_enter Tryz.func122, Tryz.ntmps122; go_wp2
          go_quiet (fail)
          go_wp2_with ((go_at_call 115; ((with_reducible refine (jX _).mono ?_); rintro e w' ⟨rfl, hg⟩; obtain ⟨hc, hf, hz⟩ := hg.rules)))
          exact qX_ oW_ rfl ⟨rfl, zi⟩
        · clear far hq
          unfold V.val; go_enter Tryz.func122, Tryz.ntmps122; go_wp2
          go_quiet (fail)
          go_wp2_with ((go_at_call 115; ((with_reducible refine (jX _).mono ?_); rintro e w' ⟨rfl, hg⟩; obtain ⟨hc, hf, hz⟩ := hg.rules)))
          exact qX_ oW_ rfl ⟨rfl, zi⟩
      · have dq : (wrap64 (P.tdiv a.n) == b.n) = false := by simpa using hq
        clear far hq; unfold V.val; go_enter Tryz.func122, Tryz.ntmps122; go_wp2
        go_quiet (fail)
        go_wp2_with ((go_at_call 115; ((with_reducible refine (jX _).mono ?_); rintro e w' ⟨rfl, hg⟩; obtain ⟨hc, hf, hz⟩ := hg.rules)))
        exact qX_ oW_ rfl ⟨rfl, zi⟩
theorem Yf (sign : Int) (a b : V) (ha : RV a) (hb : RV b) (w : World) : Calls Tryz.prog 122 #[.int .i32 sign, a.val, b.val] w fun e w' => e = .returned (yi sign a b).val /\ za w w' := by
  by_cases h1 : a.k = 3
  · have hd1 : (a.k != 3) = false := by simpa using h1
    by_cases h2 : b.k = 3
    · have hd2 : (b.k != 3) = false := by simpa using h2
      obtain ⟨a1, a2⟩ := ha.int h1; obtain ⟨b1, b2⟩ := hb.int h2
      by_cases s1 : sign = 43
      · have e : yi sign a b = xt (a.n + b.n) := by simp [yi, h1, h2, s1]
        rw [e]; clear e h1 h2 ha hb; subst s1; unfold V.val; go_enter Tryz.func122, Tryz.ntmps122; go_wp2
        go_quiet (fail)
        go_wp2_with ((go_at_call 150; ((with_reducible refine (kp _ _).mono ?_); rintro e w' ⟨rfl, hg⟩; obtain ⟨hc, hf, hz⟩ := hg.rules)))
        exact qX_ oW_ rfl ⟨rfl, zi⟩
      · have d1 : (sign == 43) = false := by simpa using s1
        by_cases s2 : sign = 45
        · have e : yi sign a b = xt (a.n - b.n) := by simp [yi, h1, h2, s2]
          rw [e]; clear e h1 h2 ha hb d1 s1; subst s2; unfold V.val; go_enter Tryz.func122, Tryz.ntmps122; go_wp2
          go_quiet (fail)
          go_wp2_with ((go_at_call 150; ((with_reducible refine (kp _ _).mono ?_); rintro e w' ⟨rfl, hg⟩; obtain ⟨hc, hf, hz⟩ := hg.rules)))
          exact qX_ oW_ rfl ⟨rfl, zi⟩
        · have d2 : (sign == 45) = false := by simpa using s2
          by_cases s3 : sign = 42
          · have e : yi sign a b = xt (a.n * b.n) := by simp [yi, h1, h2, s3]
            rw [e]; clear e h1 h2 ha hb d1 s1 d2 s2; subst s3; exact N0 a b hd1 hd2 a1 a2 b1 b2 w
          · have d3 : (sign == 42) = false := by simpa using s3
            have e : yi sign a b = ⟨1, 0, es⟩ := by simp [yi, s1, s2, s3]
            rw [e]; clear e h1 h2 ha hb s1 s2 s3; unfold V.val; go_enter Tryz.func122, Tryz.ntmps122; go_wp2
            go_quiet (fail)
            go_wp2_with ((go_at_call 115; ((with_reducible refine (jX _).mono ?_); rintro e w' ⟨rfl, hg⟩; obtain ⟨hc, hf, hz⟩ := hg.rules)))
            exact qX_ oW_ rfl ⟨rfl, zi⟩
    · have hd2 : (b.k != 3) = true := by simpa using h2
      have e : yi sign a b = ⟨1, 0, es⟩ := by simp [yi, h2]
      rw [e]; clear e h1 h2 ha hb; unfold V.val; go_enter Tryz.func122, Tryz.ntmps122
      go_wp2_with ((go_at_call 115; ((with_reducible refine (jX _).mono ?_); rintro e w' ⟨rfl, hg⟩; obtain ⟨hc, hf, hz⟩ := hg.rules)))
      exact qX_ oW_ rfl ⟨rfl, zi⟩
  · have hd1 : (a.k != 3) = true := by simpa using h1
    have e : yi sign a b = ⟨1, 0, es⟩ := by simp [yi, h1]
    rw [e]; clear e h1 ha hb; unfold V.val; go_enter Tryz.func122, Tryz.ntmps122
    go_wp2_with ((go_at_call 115; ((with_reducible refine (jX _).mono ?_); rintro e w' ⟨rfl, hg⟩; obtain ⟨hc, hf, hz⟩ := hg.rules)))
    exact qX_ oW_ rfl ⟨rfl, zi⟩
def qg (a b : V) : V := if a.k = 4 /\ b.k = 4 /\ a.s.size + b.s.size <= 60 then ⟨4, 0, a.s ++ b.s⟩ else ⟨1, 0, es⟩
theorem TW (a b : V) (ha : RV a) (hb : RV b) (w : World) : Calls Tryz.prog 123 #[a.val, b.val] w fun e w' => e = .returned (qg a b).val /\ za w w' := by
  have ta := ha.text; have tb := hb.text
  by_cases h1 : a.k = 4
  · have hd1 : (a.k != 4) = false := by simpa using h1
    by_cases h2 : b.k = 4
    · have hd2 : (b.k != 4) = false := by simpa using h2
      have ta' := ta h1; have tb' := tb h2
      by_cases h3 : a.s.size + b.s.size <= 60
      · have e : qg a b = ⟨4, 0, a.s ++ b.s⟩ := by simp [qg, h1, h2, h3]
        rw [e]; clear e h1 h2 ta tb ha hb; have h3' : (a.s.size : Int) + b.s.size <= 60 := by omega
        unfold V.val; go_enter Tryz.func123, Tryz.ntmps123; go_wp2; exact qX_ (by simp [results, Tryz.results123, go_sem]) rfl ⟨rfl, zi⟩
      · have e : qg a b = ⟨1, 0, es⟩ := by simp [qg, h3]
        rw [e]; clear e h1 h2 ta tb ha hb; have h3' : 60 < (a.s.size : Int) + b.s.size := by omega
        unfold V.val; go_enter Tryz.func123, Tryz.ntmps123
        go_wp2_with ((go_at_call 115; ((with_reducible refine (jX _).mono ?_); rintro e w' ⟨rfl, hg⟩; obtain ⟨hc, hf, hz⟩ := hg.rules)))
        exact qX_ oX_ rfl ⟨rfl, zi⟩
    · have hd2 : (b.k != 4) = true := by simpa using h2
      have e : qg a b = ⟨1, 0, es⟩ := by simp [qg, h2]
      rw [e]; clear e h1 h2 ta tb ha hb; unfold V.val; go_enter Tryz.func123, Tryz.ntmps123
      go_wp2_with ((go_at_call 115; ((with_reducible refine (jX _).mono ?_); rintro e w' ⟨rfl, hg⟩; obtain ⟨hc, hf, hz⟩ := hg.rules)))
      exact qX_ oX_ rfl ⟨rfl, zi⟩
  · have hd1 : (a.k != 4) = true := by simpa using h1
    have e : qg a b = ⟨1, 0, es⟩ := by simp [qg, h1]
    rw [e]; clear e h1 ta tb ha hb; unfold V.val; go_enter Tryz.func123, Tryz.ntmps123
    go_wp2_with ((go_at_call 115; ((with_reducible refine (jX _).mono ?_); rintro e w' ⟨rfl, hg⟩; obtain ⟨hc, hf, hz⟩ := hg.rules)))
    exact qX_ oX_ rfl ⟨rfl, zi⟩
theorem NZ (a : V) (ha : RV a) : (ym a = 0 /\ VN a false = true /\ VN a true = false) \/ (ym a = 1 /\ VN a false = false /\ VN a true = false) \/ (ym a = 2 /\ VN a false = false /\ VN a true = true) := by
  by_cases h1 : a.k = 2
  · rcases ha.bool h1 with h | h <;> simp [ym, VN, h1, h]
  · simp [ym, VN, h1]
def FO (x y : V) : Bool := decide (x.k = y.k) && (decide (x.n = y.n) && decide (x.s = y.s))
theorem V.ext' {x y : V} (h1 : x.k = y.k) (h2 : x.n = y.n) (h3 : x.s = y.s) : x = y := by
  cases x; cases y; simp_all
theorem VH (x y : V) : FO x y = true ↔ x = y := by
  unfold FO
  constructor
  · intro h
    simp at h; exact V.ext' h.1 h.2.1 h.2.2
  · rintro rfl; simp
def zR : V := ⟨1, 0, es⟩
def Si (n : Int) : V := ⟨3, n, es⟩
structure FJ (a b c : V) : Prop where
  c1 : kG b a = kG a b
  c2 : K5 b a = K5 a b
  a1 : kG (kG a b) c = kG a (kG b c)
  a2 : K5 (K5 a b) c = K5 a (K5 b c)
  d1 : K5 (kG a b) (kG a c) = kG a (K5 b c)
  d2 : kG (K5 a b) (K5 a c) = K5 a (kG b c)
  n1 : K5 (js a) (js b) = js (kG a b)
  n2 : kG (js a) (js b) = js (K5 a b)
  n3 : js (js (js a)) = js a
theorem VX (v : V) (h : RB v) (w : World) : Calls Tryz.prog 119 #[v.val] w fun e w' => e = .returned (js v).val /\ za w w' := VY v h w
theorem D5 (n : Int) (h1 : -1000000000000000 <= n) (h2 : n <= 1000000000000000) : RV (Si n) := ⟨.inr (.inr (.inl rfl)), fun h => by simp [Si] at h, fun _ => ⟨h1, h2⟩, fun h => by simp [Si] at h⟩
