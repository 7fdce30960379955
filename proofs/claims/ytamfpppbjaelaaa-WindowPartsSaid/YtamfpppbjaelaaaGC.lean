/-
  Joined texts of this claim: Vals4, Vals5, Vals6, Laws1. What each proves its own head says; no condition beside those that each theorem names.
-/
import Derived.Test.YtamfpppbjaelaaaGB
import Derived.Deep.QuietTactic
import Derived.BigQuiet
import Derived.Lib.Hide
set_option maxHeartbeats 1000000
namespace Go.Proofs.Ytamfpppbjaelaaa
open Go.RowKit Go.Calm
set_option linter.unusedSimpArgs false
set_option linter.unusedVariables false
def reckonV (sign : Int) (a b : V) : V :=
  if a.k = 3 ∧ b.k = 3 then
    (if sign = 43 then intV (a.n + b.n) else if sign = 45 then intV (a.n - b.n) else if sign = 42 then intV (a.n * b.n) else ⟨1, 0, es⟩)
  else ⟨1, 0, es⟩

theorem mul_near {x y : Int} (hx : x ≠ 0) (h : -1000000000000000 ≤ x * y ∧ x * y ≤ 1000000000000000) : wrap64 (x * y) = x * y ∧ wrap64 ((x * y).tdiv x) = y := by
  have h1 : wrap64 (x * y) = x * y := IntWalk.wrap64_in _ (by omega)
  have h2 : (x * y).tdiv x = y := Int.mul_tdiv_cancel_left y hx
  refine ⟨h1, ?_⟩
  rw [h2]
  refine IntWalk.wrap64_in _ ?_
  have : y.natAbs ≤ (x * y).natAbs := by
    rw [Int.natAbs_mul]
    exact Nat.le_mul_of_pos_left _ (by omega)
  omega
theorem mul_far {x y P : Int} (hx : x ≠ 0) (hP : wrap64 (x * y) = P) (h : ¬ (-1000000000000000 ≤ x * y ∧ x * y ≤ 1000000000000000)) (hq : wrap64 (P.tdiv x) = y) : P < -1000000000000000 ∨ 1000000000000000 < P := by
  rcases Classical.em (P < -1000000000000000 ∨ 1000000000000000 < P) with h' | h'
  · exact h'
  · exfalso
    apply h
    have hle : (P.tdiv x).natAbs ≤ P.natAbs := by rw [Int.natAbs_tdiv]; exact Nat.div_le_self _ _
    have hw : wrap64 (P.tdiv x) = P.tdiv x := IntWalk.wrap64_in _ (by omega)
    rw [hw] at hq
    have hm : (x * y).natAbs ≤ P.natAbs := by
      rw [← hq, Int.natAbs_mul, Int.natAbs_tdiv]
      exact Nat.mul_div_le _ _
    omega

theorem reckon_mul (a b : V) (hd1 : (a.k != 3) = false) (hd2 : (b.k != 3) = false) (a1 : -1000000000000000 ≤ a.n) (a2 : a.n ≤ 1000000000000000) (b1 : -1000000000000000 ≤ b.n) (b2 : b.n ≤ 1000000000000000) (w : World) :
    Calls Try.prog 56 #[.int .i32 42, a.val, b.val] w fun e w' => e = .returned (intV (a.n * b.n)).val ∧ Grow w w' := by
  by_cases hx : a.n = 0
  · have dx : (a.n == 0) = true := by simpa using hx
    have hp : wrap64 (a.n * b.n) = 0 := by rw [hx, Int.zero_mul]; exact IntWalk.wrap64_in _ (by omega)
    have e : intV (a.n * b.n) = intV 0 := by rw [hx, Int.zero_mul]
    rw [e]; clear e hx
    unfold V.val
    go_enter Try.func56, Try.ntmps56
    go_wp2
    go_quiet (fail)
    go_wp2_with ((go_at_call 46; ((with_reducible refine (int_any _ _).mono ?_); rintro e w' ⟨rfl, hg⟩; obtain ⟨hc, hf, hz⟩ := hg.rules)))
    exact bodyPost_ret (by simp [results, Try.results56, go_sem, hc]) rfl ⟨rfl, growW⟩
  · have dx : (a.n == 0) = false := by simpa using hx
    by_cases hm : -1000000000000000 ≤ a.n * b.n ∧ a.n * b.n ≤ 1000000000000000
    · obtain ⟨g1, g2⟩ := mul_near hx hm
      obtain ⟨m1, m2⟩ := hm
      obtain ⟨P, hP⟩ : ∃ P, P = a.n * b.n := ⟨_, rfl⟩
      rw [← hP] at g1 g2 m1 m2 ⊢
      have hp : wrap64 (a.n * b.n) = P := by rw [← hP]; exact g1
      have dq : (wrap64 (P.tdiv a.n) == b.n) = true := by rw [g2]; simp
      clear g1 g2 hP
      unfold V.val
      go_enter Try.func56, Try.ntmps56
      go_wp2
      go_quiet (fail)
      go_wp2_with ((go_at_call 46; ((with_reducible refine (int_any _ _).mono ?_); rintro e w' ⟨rfl, hg⟩; obtain ⟨hc, hf, hz⟩ := hg.rules)))
      exact bodyPost_ret (by simp [results, Try.results56, go_sem, hc]) rfl ⟨rfl, growW⟩
    · have e : intV (a.n * b.n) = ⟨1, 0, es⟩ := by unfold intV; rw [if_neg hm]
      rw [e]; clear e
      obtain ⟨P, hp⟩ : ∃ P, wrap64 (a.n * b.n) = P := ⟨_, rfl⟩
      have far := mul_far hx hp hm
      clear hm
      by_cases hq : wrap64 (P.tdiv a.n) = b.n
      · have dq : (wrap64 (P.tdiv a.n) == b.n) = true := by rw [hq]; simp
        rcases far hq with hf | hf
        · have hf' : P ≤ 1000000000000000 := by omega
          clear far hq
          unfold V.val
          go_enter Try.func56, Try.ntmps56
          go_wp2
          go_quiet (fail)
          go_wp2_with ((go_at_call 47; ((with_reducible refine (null _).mono ?_); rintro e w' ⟨rfl, hg⟩; obtain ⟨hc, hf, hz⟩ := hg.rules)))
          exact bodyPost_ret (by simp [results, Try.results56, go_sem, hc]) rfl ⟨rfl, growW⟩
        · clear far hq
          unfold V.val
          go_enter Try.func56, Try.ntmps56
          go_wp2
          go_quiet (fail)
          go_wp2_with ((go_at_call 47; ((with_reducible refine (null _).mono ?_); rintro e w' ⟨rfl, hg⟩; obtain ⟨hc, hf, hz⟩ := hg.rules)))
          exact bodyPost_ret (by simp [results, Try.results56, go_sem, hc]) rfl ⟨rfl, growW⟩
      · have dq : (wrap64 (P.tdiv a.n) == b.n) = false := by simpa using hq
        clear far hq
        unfold V.val
        go_enter Try.func56, Try.ntmps56
        go_wp2
        go_quiet (fail)
        go_wp2_with ((go_at_call 47; ((with_reducible refine (null _).mono ?_); rintro e w' ⟨rfl, hg⟩; obtain ⟨hc, hf, hz⟩ := hg.rules)))
        exact bodyPost_ret (by simp [results, Try.results56, go_sem, hc]) rfl ⟨rfl, growW⟩

theorem reckon_any (sign : Int) (a b : V) (ha : RV a) (hb : RV b) (w : World) : Calls Try.prog 56 #[.int .i32 sign, a.val, b.val] w fun e w' => e = .returned (reckonV sign a b).val ∧ Grow w w' := by
  by_cases h1 : a.k = 3
  · have hd1 : (a.k != 3) = false := by simpa using h1
    by_cases h2 : b.k = 3
    · have hd2 : (b.k != 3) = false := by simpa using h2
      obtain ⟨a1, a2⟩ := ha.int h1
      obtain ⟨b1, b2⟩ := hb.int h2
      by_cases s1 : sign = 43
      · have e : reckonV sign a b = intV (a.n + b.n) := by simp [reckonV, h1, h2, s1]
        rw [e]; clear e h1 h2 ha hb
        subst s1
        unfold V.val
        go_enter Try.func56, Try.ntmps56
        go_wp2
        go_quiet (fail)
        go_wp2_with ((go_at_call 46; ((with_reducible refine (int_any _ _).mono ?_); rintro e w' ⟨rfl, hg⟩; obtain ⟨hc, hf, hz⟩ := hg.rules)))
        exact bodyPost_ret (by simp [results, Try.results56, go_sem, hc]) rfl ⟨rfl, growW⟩
      · have d1 : (sign == 43) = false := by simpa using s1
        by_cases s2 : sign = 45
        · have e : reckonV sign a b = intV (a.n - b.n) := by simp [reckonV, h1, h2, s2]
          rw [e]; clear e h1 h2 ha hb d1 s1
          subst s2
          unfold V.val
          go_enter Try.func56, Try.ntmps56
          go_wp2
          go_quiet (fail)
          go_wp2_with ((go_at_call 46; ((with_reducible refine (int_any _ _).mono ?_); rintro e w' ⟨rfl, hg⟩; obtain ⟨hc, hf, hz⟩ := hg.rules)))
          exact bodyPost_ret (by simp [results, Try.results56, go_sem, hc]) rfl ⟨rfl, growW⟩
        · have d2 : (sign == 45) = false := by simpa using s2
          by_cases s3 : sign = 42
          · have e : reckonV sign a b = intV (a.n * b.n) := by simp [reckonV, h1, h2, s3]
            rw [e]; clear e h1 h2 ha hb d1 s1 d2 s2
            subst s3
            exact reckon_mul a b hd1 hd2 a1 a2 b1 b2 w
          · have d3 : (sign == 42) = false := by simpa using s3
            have e : reckonV sign a b = ⟨1, 0, es⟩ := by simp [reckonV, s1, s2, s3]
            rw [e]; clear e h1 h2 ha hb s1 s2 s3
            unfold V.val
            go_enter Try.func56, Try.ntmps56
            go_wp2
            go_quiet (fail)
            go_wp2_with ((go_at_call 47; ((with_reducible refine (null _).mono ?_); rintro e w' ⟨rfl, hg⟩; obtain ⟨hc, hf, hz⟩ := hg.rules)))
            exact bodyPost_ret (by simp [results, Try.results56, go_sem, hc]) rfl ⟨rfl, growW⟩
    · have hd2 : (b.k != 3) = true := by simpa using h2
      have e : reckonV sign a b = ⟨1, 0, es⟩ := by simp [reckonV, h2]
      rw [e]; clear e h1 h2 ha hb
      unfold V.val
      go_enter Try.func56, Try.ntmps56
      go_wp2_with ((go_at_call 47; ((with_reducible refine (null _).mono ?_); rintro e w' ⟨rfl, hg⟩; obtain ⟨hc, hf, hz⟩ := hg.rules)))
      exact bodyPost_ret (by simp [results, Try.results56, go_sem, hc]) rfl ⟨rfl, growW⟩
  · have hd1 : (a.k != 3) = true := by simpa using h1
    have e : reckonV sign a b = ⟨1, 0, es⟩ := by simp [reckonV, h1]
    rw [e]; clear e h1 ha hb
    unfold V.val
    go_enter Try.func56, Try.ntmps56
    go_wp2_with ((go_at_call 47; ((with_reducible refine (null _).mono ?_); rintro e w' ⟨rfl, hg⟩; obtain ⟨hc, hf, hz⟩ := hg.rules)))
    exact bodyPost_ret (by simp [results, Try.results56, go_sem, hc]) rfl ⟨rfl, growW⟩
def joinV (a b : V) : V := if a.k = 4 ∧ b.k = 4 ∧ a.s.size + b.s.size ≤ 60 then ⟨4, 0, a.s ++ b.s⟩ else ⟨1, 0, es⟩
theorem join_any (a b : V) (ha : RV a) (hb : RV b) (w : World) : Calls Try.prog 57 #[a.val, b.val] w fun e w' => e = .returned (joinV a b).val ∧ Grow w w' := by
  have ta := ha.text
  have tb := hb.text
  by_cases h1 : a.k = 4
  · have hd1 : (a.k != 4) = false := by simpa using h1
    by_cases h2 : b.k = 4
    · have hd2 : (b.k != 4) = false := by simpa using h2
      have ta' := ta h1
      have tb' := tb h2
      by_cases h3 : a.s.size + b.s.size ≤ 60
      · have e : joinV a b = ⟨4, 0, a.s ++ b.s⟩ := by simp [joinV, h1, h2, h3]
        rw [e]; clear e h1 h2 ta tb ha hb
        have h3' : (a.s.size : Int) + b.s.size ≤ 60 := by omega
        unfold V.val
        go_enter Try.func57, Try.ntmps57
        go_wp2
        exact bodyPost_ret (by simp [results, Try.results57, go_sem]) rfl ⟨rfl, growW⟩
      · have e : joinV a b = ⟨1, 0, es⟩ := by simp [joinV, h3]
        rw [e]; clear e h1 h2 ta tb ha hb
        have h3' : 60 < (a.s.size : Int) + b.s.size := by omega
        unfold V.val
        go_enter Try.func57, Try.ntmps57
        go_wp2_with ((go_at_call 47; ((with_reducible refine (null _).mono ?_); rintro e w' ⟨rfl, hg⟩; obtain ⟨hc, hf, hz⟩ := hg.rules)))
        exact bodyPost_ret (by simp [results, Try.results57, go_sem, hc]) rfl ⟨rfl, growW⟩
    · have hd2 : (b.k != 4) = true := by simpa using h2
      have e : joinV a b = ⟨1, 0, es⟩ := by simp [joinV, h2]
      rw [e]; clear e h1 h2 ta tb ha hb
      unfold V.val
      go_enter Try.func57, Try.ntmps57
      go_wp2_with ((go_at_call 47; ((with_reducible refine (null _).mono ?_); rintro e w' ⟨rfl, hg⟩; obtain ⟨hc, hf, hz⟩ := hg.rules)))
      exact bodyPost_ret (by simp [results, Try.results57, go_sem, hc]) rfl ⟨rfl, growW⟩
  · have hd1 : (a.k != 4) = true := by simpa using h1
    have e : joinV a b = ⟨1, 0, es⟩ := by simp [joinV, h1]
    rw [e]; clear e h1 ta tb ha hb
    unfold V.val
    go_enter Try.func57, Try.ntmps57
    go_wp2_with ((go_at_call 47; ((with_reducible refine (null _).mono ?_); rintro e w' ⟨rfl, hg⟩; obtain ⟨hc, hf, hz⟩ := hg.rules)))
    exact bodyPost_ret (by simp [results, Try.results57, go_sem, hc]) rfl ⟨rfl, growW⟩

theorem rank_cases (a : V) (ha : RV a) : (rankV a = 0 ∧ isB a false = true ∧ isB a true = false) ∨ (rankV a = 1 ∧ isB a false = false ∧ isB a true = false) ∨ (rankV a = 2 ∧ isB a false = false ∧ isB a true = true) := by
  by_cases h1 : a.k = 2
  · rcases ha.bool h1 with h | h <;> simp [rankV, isB, h1, h]
  · simp [rankV, isB, h1]
@[go_sem] theorem V.eta (x : V) : V.mk x.k x.n x.s = x := rfl
def eqB (x y : V) : Bool := decide (x.k = y.k) && (decide (x.n = y.n) && decide (x.s = y.s))
theorem V.ext' {x y : V} (h1 : x.k = y.k) (h2 : x.n = y.n) (h3 : x.s = y.s) : x = y := by
  cases x; cases y; simp_all
theorem eqB_iff (x y : V) : eqB x y = true ↔ x = y := by
  unfold eqB
  constructor
  · intro h
    simp at h
    exact V.ext' h.1 h.2.1 h.2.2
  · rintro rfl; simp
theorem run_eqlV (k n : Int) (s : ByteArray) (k' n' : Int) (s' : ByteArray) (w : World) :
    (binOp .eql 30 (.agg #[.int .i64 k, .int .i64 n, .string s]) (.agg #[.int .i64 k', .int .i64 n', .string s'])).run Try.prog w = .ok (.bool (eqB ⟨k, n, s⟩ ⟨k', n', s'⟩)) w := by
  have hs : (s.toList == s'.toList) = decide (s = s') := by
    rw [cmpS_beq, Bool.eq_iff_iff]; simp [cmpS_eq]
  have e : Try.prog.fieldsOf 30 = #[{ name := "Kind", type := 3, offset := 0, embedded := false, tag := "", pkgPath := "", byteOffset := 0 }, { name := "N", type := 2, offset := 1, embedded := false, tag := "", pkgPath := "", byteOffset := 8 }, { name := "Text", type := 9, offset := 2, embedded := false, tag := "", pkgPath := "", byteOffset := 16 }] := by kernel_rfl
  simp only [binOp]
  simp only [Op.equal, Op.maxDepth]
  rw [Sem.run_bind, run_equalIn_struct w 9999 30 _ _ (by kernel_rfl) (by kernel_rfl), e]
  simp [Op.eqFields, go_sem]
  have hs2 : (s.toList = s'.toList) ↔ s = s' := by
    have := hs
    rw [Bool.eq_iff_iff] at this
    simpa using this
  by_cases h1 : k = k' <;> by_cases h2 : n = n' <;> by_cases h3 : s = s' <;> simp [h1, h2, h3, hs2, eqB]

def nullV' : V := ⟨1, 0, es⟩
def numV (n : Int) : V := ⟨3, n, es⟩
structure Kleene (a b c : V) : Prop where
  c1 : andV b a = andV a b
  c2 : orV b a = orV a b
  a1 : andV (andV a b) c = andV a (andV b c)
  a2 : orV (orV a b) c = orV a (orV b c)
  d1 : orV (andV a b) (andV a c) = andV a (orV b c)
  d2 : andV (orV a b) (orV a c) = orV a (andV b c)
  n1 : orV (notV a) (notV b) = notV (andV a b)
  n2 : andV (notV a) (notV b) = notV (orV a b)
  n3 : notV (notV (notV a)) = notV a
theorem not' (v : V) (h : RB v) (w : World) : Calls Try.prog 53 #[v.val] w fun e w' => e = .returned (notV v).val ∧ Grow w w' := not_any v h w

theorem rv_num (n : Int) (h1 : -1000000000000000 ≤ n) (h2 : n ≤ 1000000000000000) : RV (numV n) := ⟨.inr (.inr (.inl rfl)), fun h => by simp [numV] at h, fun _ => ⟨h1, h2⟩, fun h => by simp [numV] at h⟩
end Go.Proofs.Ytamfpppbjaelaaa
