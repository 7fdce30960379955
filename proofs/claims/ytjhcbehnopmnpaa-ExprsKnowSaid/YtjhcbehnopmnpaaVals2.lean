/-
  More functions of package vals, each by a contract.
-/
import Derived.Test.YtjhcbehnopmnpaaVals
namespace Go.Proofs.Ytjhcbehnopmnpaa
open Go.RowKit Go.Calm

def truth (b : Bool) : V := ⟨2, if b then 1 else 0, es⟩
theorem bool_any (b : Bool) (w : World) : Calls Try.prog 97 #[.bool b] w fun e w' => e = .returned (truth b).val ∧ Grow w w' := by
  cases b
  · go_enter Try.func97, Try.ntmps97
    go_wp2
    exact bodyPost_ret (by simp [results, Try.results97, go_sem, truth]) rfl ⟨rfl, (by repeat (first | (with_reducible exact Grow.refl _) | (with_reducible assumption) | (with_reducible refine Grow.set ?_ (by first | (simp; done) | (simp; omega)) _) | (with_reducible refine Grow.al ?_ _) | (with_reducible refine Grow.drew ?_) | (with_reducible refine Grow.drewN ?_ _) | (with_reducible refine Grow.trans ?_ (by assumption))))⟩
  · go_enter Try.func97, Try.ntmps97
    go_wp2
    exact bodyPost_ret (by simp [results, Try.results97, go_sem, truth]) rfl ⟨rfl, (by repeat (first | (with_reducible exact Grow.refl _) | (with_reducible assumption) | (with_reducible refine Grow.set ?_ (by first | (simp; done) | (simp; omega)) _) | (with_reducible refine Grow.al ?_ _) | (with_reducible refine Grow.drew ?_) | (with_reducible refine Grow.drewN ?_ _) | (with_reducible refine Grow.trans ?_ (by assumption))))⟩

def intV (n : Int) : V := if -1000000000000000 ≤ n ∧ n ≤ 1000000000000000 then ⟨3, n, es⟩ else ⟨1, 0, es⟩
theorem int_any (n : Int) (w : World) : Calls Try.prog 98 #[.int .i64 n] w fun e w' => e = .returned (intV n).val ∧ Grow w w' := by
  by_cases h1 : 1000000000000000 < n
  · have e1 : intV n = ⟨1, 0, es⟩ := by unfold intV; rw [if_neg (by omega)]
    rw [e1]; clear e1
    go_enter Try.func98, Try.ntmps98
    go_wp2_with ((go_at_call 38; ((with_reducible refine (null _).mono ?_); rintro e w' ⟨rfl, hg⟩; obtain ⟨hc, hf, hz⟩ := hg.rules)))
    exact bodyPost_ret (by simp [results, Try.results98, go_sem, hc]) rfl ⟨rfl, (by repeat (first | (with_reducible exact Grow.refl _) | (with_reducible assumption) | (with_reducible refine Grow.set ?_ (by first | (simp; done) | (simp; omega)) _) | (with_reducible refine Grow.al ?_ _) | (with_reducible refine Grow.drew ?_) | (with_reducible refine Grow.drewN ?_ _) | (with_reducible refine Grow.trans ?_ (by assumption))))⟩
  · by_cases h2 : n < -1000000000000000
    · have e1 : intV n = ⟨1, 0, es⟩ := by unfold intV; rw [if_neg (by omega)]
      rw [e1]; clear e1
      go_enter Try.func98, Try.ntmps98
      go_wp2_with ((go_at_call 38; ((with_reducible refine (null _).mono ?_); rintro e w' ⟨rfl, hg⟩; obtain ⟨hc, hf, hz⟩ := hg.rules)))
      exact bodyPost_ret (by simp [results, Try.results98, go_sem, hc]) rfl ⟨rfl, (by repeat (first | (with_reducible exact Grow.refl _) | (with_reducible assumption) | (with_reducible refine Grow.set ?_ (by first | (simp; done) | (simp; omega)) _) | (with_reducible refine Grow.al ?_ _) | (with_reducible refine Grow.drew ?_) | (with_reducible refine Grow.drewN ?_ _) | (with_reducible refine Grow.trans ?_ (by assumption))))⟩
    · have e1 : intV n = ⟨3, n, es⟩ := by unfold intV; rw [if_pos (by omega)]
      rw [e1]; clear e1
      go_enter Try.func98, Try.ntmps98
      go_wp2
      exact bodyPost_ret (by simp [results, Try.results98, go_sem]) rfl ⟨rfl, (by repeat (first | (with_reducible exact Grow.refl _) | (with_reducible assumption) | (with_reducible refine Grow.set ?_ (by first | (simp; done) | (simp; omega)) _) | (with_reducible refine Grow.al ?_ _) | (with_reducible refine Grow.drew ?_) | (with_reducible refine Grow.drewN ?_ _) | (with_reducible refine Grow.trans ?_ (by assumption))))⟩

def rankV (v : V) : Int := if v.k = 2 then 2 * v.n else 1
def RB (v : V) : Prop := v.k = 2 → 0 ≤ v.n ∧ v.n ≤ 1
theorem rank_any (v : V) (h : RB v) (w : World) : Calls Try.prog 100 #[v.val] w fun e w' => e = .returned (.int .i64 (rankV v)) ∧ Grow w w' := by
  unfold V.val
  by_cases h1 : v.k = 2
  · have hd1 : (v.k != 2) = false := by simpa using h1
    have e1 : rankV v = 2 * v.n := by simp [rankV, h1]
    obtain ⟨h0, h2⟩ := h h1
    rw [e1]; clear e1 h1
    go_enter Try.func100, Try.ntmps100
    go_wp2
    go_ret
    exact ⟨rfl, (Grow.refl _).al _⟩
  · have hd1 : (v.k != 2) = true := by simpa using h1
    have e1 : rankV v = 1 := by simp [rankV, h1]
    rw [e1]; clear e1 h1
    go_enter Try.func100, Try.ntmps100
    go_wp2
    go_ret
    exact ⟨rfl, (Grow.refl _).al _⟩

def rankedV (n : Int) : V := if n = 1 then ⟨1, 0, es⟩ else truth (n == 2)
theorem ranked_any (n : Int) (w : World) : Calls Try.prog 99 #[.int .i64 n] w fun e w' => e = .returned (rankedV n).val ∧ Grow w w' := by
  by_cases h1 : n = 1
  · have hd1 : (n == 1) = true := by simpa using h1
    have e1 : rankedV n = ⟨1, 0, es⟩ := by simp [rankedV, h1]
    rw [e1]; clear e1 h1
    go_enter Try.func99, Try.ntmps99
    go_wp2_with ((go_at_call 38; ((with_reducible refine (null _).mono ?_); rintro e w' ⟨rfl, hg⟩; obtain ⟨hc, hf, hz⟩ := hg.rules)))
    exact bodyPost_ret (by simp [results, Try.results99, go_sem, hc]) rfl ⟨rfl, (by repeat (first | (with_reducible exact Grow.refl _) | (with_reducible assumption) | (with_reducible refine Grow.set ?_ (by first | (simp; done) | (simp; omega)) _) | (with_reducible refine Grow.al ?_ _) | (with_reducible refine Grow.drew ?_) | (with_reducible refine Grow.drewN ?_ _) | (with_reducible refine Grow.trans ?_ (by assumption))))⟩
  · have hd1 : (n == 1) = false := by simpa using h1
    have e1 : rankedV n = truth (n == 2) := by simp [rankedV, h1]
    rw [e1]; clear e1 h1
    go_enter Try.func99, Try.ntmps99
    go_wp2_with ((go_at_call 97; ((with_reducible refine (bool_any _ _).mono ?_); rintro e w' ⟨rfl, hg⟩; obtain ⟨hc, hf, hz⟩ := hg.rules)))
    exact bodyPost_ret (by simp [results, Try.results99, go_sem, hc]) rfl ⟨rfl, (by repeat (first | (with_reducible exact Grow.refl _) | (with_reducible assumption) | (with_reducible refine Grow.set ?_ (by first | (simp; done) | (simp; omega)) _) | (with_reducible refine Grow.al ?_ _) | (with_reducible refine Grow.drew ?_) | (with_reducible refine Grow.drewN ?_ _) | (with_reducible refine Grow.trans ?_ (by assumption))))⟩

def alikeB (a b : V) : Bool := decide (a.k = b.k ∧ a.k ≠ 1)
theorem alike_any (a b : V) (w : World) : Calls Try.prog 104 #[a.val, b.val] w fun e w' => e = .returned (.bool (alikeB a b)) ∧ Grow w w' := by
  unfold V.val
  by_cases h1 : a.k = b.k
  · have hd1 : (a.k == b.k) = true := by simpa using h1
    by_cases h2 : b.k = 1
    · have hd2 : (b.k != 1) = false := by simpa using h2
      have hd3 : (a.k != 1) = false := by simpa [h1] using h2
      have e1 : alikeB a b = false := by simp [alikeB, h1, h2]
      rw [e1]; clear e1 h1 h2
      go_enter Try.func104, Try.ntmps104
      go_wp2
      go_ret
      exact ⟨rfl, (by repeat (first | (with_reducible exact Grow.refl _) | (with_reducible assumption) | (with_reducible refine Grow.set ?_ (by first | (simp; done) | (simp; omega)) _) | (with_reducible refine Grow.al ?_ _) | (with_reducible refine Grow.drew ?_) | (with_reducible refine Grow.drewN ?_ _) | (with_reducible refine Grow.trans ?_ (by assumption))))⟩
    · have hd2 : (b.k != 1) = true := by simpa using h2
      have hd3 : (a.k != 1) = true := by simpa [h1] using h2
      have e1 : alikeB a b = true := by simp [alikeB, h1, h2]
      rw [e1]; clear e1 h1 h2
      go_enter Try.func104, Try.ntmps104
      go_wp2
      go_ret
      exact ⟨rfl, (by repeat (first | (with_reducible exact Grow.refl _) | (with_reducible assumption) | (with_reducible refine Grow.set ?_ (by first | (simp; done) | (simp; omega)) _) | (with_reducible refine Grow.al ?_ _) | (with_reducible refine Grow.drew ?_) | (with_reducible refine Grow.drewN ?_ _) | (with_reducible refine Grow.trans ?_ (by assumption))))⟩
  · have hd1 : (a.k == b.k) = false := by simpa using h1
    have e1 : alikeB a b = false := by simp [alikeB, h1]
    rw [e1]; clear e1 h1
    go_enter Try.func104, Try.ntmps104
    go_wp2
    go_ret
    exact ⟨rfl, (by repeat (first | (with_reducible exact Grow.refl _) | (with_reducible assumption) | (with_reducible refine Grow.set ?_ (by first | (simp; done) | (simp; omega)) _) | (with_reducible refine Grow.al ?_ _) | (with_reducible refine Grow.drew ?_) | (with_reducible refine Grow.drewN ?_ _) | (with_reducible refine Grow.trans ?_ (by assumption))))⟩

theorem true_any (v : V) (h : RB v) (w : World) : Calls Try.prog 39 #[v.val] w fun e w' => e = .returned (.bool (rankV v == 2)) ∧ Grow w w' := by
  unfold V.val
  go_enter Try.func39, Try.ntmps39
  go_wp2_with ((go_at_call 100; ((with_reducible refine (rank_any v h _).mono ?_); rintro e w' ⟨rfl, hg⟩; obtain ⟨hc, hf, hz⟩ := hg.rules)))
  go_ret
  exact ⟨rfl, ((Grow.refl _).al _).trans hg⟩

theorem rank_bd (v : V) (h : RB v) : 0 ≤ rankV v ∧ rankV v ≤ 2 := by
  unfold rankV
  split
  · rename_i hk; have := h hk; omega
  · omega
theorem not_any (v : V) (h : RB v) (w : World) : Calls Try.prog 33 #[v.val] w fun e w' => e = .returned (rankedV (2 - rankV v)).val ∧ Grow w w' := by
  obtain ⟨hr1, hr2⟩ := rank_bd v h
  unfold V.val
  go_enter Try.func33, Try.ntmps33
  go_wp2_with (first | (go_at_call 100; ((with_reducible refine (rank_any v h _).mono ?_); rintro e w' ⟨rfl, hg⟩; obtain ⟨hc, hf, hz⟩ := hg.rules)) | (go_at_call 99; ((with_reducible refine (ranked_any _ _).mono ?_); rintro e w2' ⟨rfl, hg2⟩; replace hg := hg.trans hg2; clear hg2 hc hf hz; obtain ⟨hc, hf, hz⟩ := hg.rules)))
  exact bodyPost_ret (by simp [results, Try.results33, go_sem, hc]) rfl ⟨rfl, (by repeat (first | (with_reducible exact Grow.refl _) | (with_reducible assumption) | (with_reducible refine Grow.set ?_ (by first | (simp; done) | (simp; omega)) _) | (with_reducible refine Grow.al ?_ _) | (with_reducible refine Grow.drew ?_) | (with_reducible refine Grow.drewN ?_ _) | (with_reducible refine Grow.trans ?_ (by assumption))))⟩

def minI (x y : Int) : Int := if y < x then y else x
def maxI (x y : Int) : Int := if x < y then y else x
def andV (a b : V) : V := rankedV (minI (rankV a) (rankV b))
def orV (a b : V) : V := rankedV (maxI (rankV a) (rankV b))
def notV (a : V) : V := rankedV (2 - rankV a)

set_option maxRecDepth 100000 in
theorem and_any (a b : V) (ha : RB a) (hb : RB b) (w : World) : Calls Try.prog 31 #[a.val, b.val] w fun e w' => e = .returned (andV a b).val ∧ Grow w w' := by
  obtain ⟨ra1, ra2⟩ := rank_bd a ha
  obtain ⟨rb1, rb2⟩ := rank_bd b hb
  unfold V.val
  have em : (if rankV b < rankV a then rankV b else rankV a) = minI (rankV a) (rankV b) := rfl
  go_enter Try.func31, Try.ntmps31
  go_wp2
  refine wp_forget (fun W => Blk W w.heap.size 29 #[.int .i64 a.k, .int .i64 a.n, .string a.s] ∧ Blk W (w.heap.size + 1) 29 #[.int .i64 b.k, .int .i64 b.n, .string b.s] ∧ Blk W (w.heap.size + 2) 29 #[.int .i64 0, .int .i64 0, .string es] ∧ Grow w W)
    ⟨((Blk.new _ _ _).al _).al _, (Blk.new' _ _ _ (by simp)).al _, Blk.new' _ _ _ (by simp), (((Grow.refl _).al _).al _).al _⟩ ?_
  rintro W ⟨A1, A2, A3, G1⟩
  apply wp_region_calm 6 (by kernel_rfl) (by kernel_rfl)
  case h' =>
    intro Q0 hQ0
    simp only [List.take_succ_cons, List.take_zero]
    repeat (
      first
        | (apply calm_p rfl; case h1 => (intro w1 hw1 hF K hK; obtain ⟨c1, f1⟩ := (Blk.grow A1 hw1).rules; obtain ⟨c2, f2⟩ := (Blk.grow A2 hw1).rules; go_simp; first | exact hK _ (Grow.refl _) | (go_at_call 100; ((with_reducible refine (rank_any a ha _).mono ?_); rintro e w' ⟨rfl, hg⟩; exact ⟨_, rfl, hK _ hg⟩)) | (go_at_call 100; ((with_reducible refine (rank_any b hb _).mono ?_); rintro e w' ⟨rfl, hg⟩; exact ⟨_, rfl, hK _ hg⟩)) | (go_at_call 99; ((with_reducible refine (ranked_any _ _).mono ?_); rintro e w' ⟨rfl, hg⟩; exact ⟨_, rfl, hK _ hg⟩))))
        | (apply calm_y rfl rfl rfl; case h1 => (intro w1 hw1 hF K hK; obtain ⟨c1, f1⟩ := (Blk.grow A1 hw1).rules; obtain ⟨c2, f2⟩ := (Blk.grow A2 hw1).rules; go_simp; first | exact hK _ (Grow.refl _) | (go_at_call 100; ((with_reducible refine (rank_any a ha _).mono ?_); rintro e w' ⟨rfl, hg⟩; exact ⟨_, rfl, hK _ hg⟩)) | (go_at_call 100; ((with_reducible refine (rank_any b hb _).mono ?_); rintro e w' ⟨rfl, hg⟩; exact ⟨_, rfl, hK _ hg⟩)) | (go_at_call 99; ((with_reducible refine (ranked_any _ _).mono ?_); rintro e w' ⟨rfl, hg⟩; exact ⟨_, rfl, hK _ hg⟩))))
        | apply calm_n rfl rfl rfl rfl
      intro K hK
      go_simp
      apply hK
      clear hK K)
    refine calm_nil ?_
    intro w1 hw1 hF
    apply hQ0
    clear hQ0
    simp only [List.drop_succ_cons, List.drop_zero]
    clear hF
    obtain ⟨c3, f3⟩ := (Blk.grow A3 hw1).rules
    go_wp2
    exact bodyPost_ret (by simp [results, Try.results31, go_sem, c3, andV]) rfl ⟨rfl, (by repeat (first | (with_reducible exact Grow.refl _) | (with_reducible assumption) | (with_reducible refine Grow.set ?_ (by first | (simp; done) | (simp; omega)) _) | (with_reducible refine Grow.al ?_ _) | (with_reducible refine Grow.drew ?_) | (with_reducible refine Grow.drewN ?_ _) | (with_reducible refine Grow.trans ?_ (by assumption))))⟩
  case hp' => trivial

set_option maxRecDepth 100000 in
theorem or_any (a b : V) (ha : RB a) (hb : RB b) (w : World) : Calls Try.prog 32 #[a.val, b.val] w fun e w' => e = .returned (orV a b).val ∧ Grow w w' := by
  obtain ⟨ra1, ra2⟩ := rank_bd a ha
  obtain ⟨rb1, rb2⟩ := rank_bd b hb
  unfold V.val
  have em : (if rankV a < rankV b then rankV b else rankV a) = maxI (rankV a) (rankV b) := rfl
  go_enter Try.func32, Try.ntmps32
  go_wp2
  refine wp_forget (fun W => Blk W w.heap.size 29 #[.int .i64 a.k, .int .i64 a.n, .string a.s] ∧ Blk W (w.heap.size + 1) 29 #[.int .i64 b.k, .int .i64 b.n, .string b.s] ∧ Blk W (w.heap.size + 2) 29 #[.int .i64 0, .int .i64 0, .string es] ∧ Grow w W)
    ⟨((Blk.new _ _ _).al _).al _, (Blk.new' _ _ _ (by simp)).al _, Blk.new' _ _ _ (by simp), (((Grow.refl _).al _).al _).al _⟩ ?_
  rintro W ⟨A1, A2, A3, G1⟩
  apply wp_region_calm 6 (by kernel_rfl) (by kernel_rfl)
  case h' =>
    intro Q0 hQ0
    simp only [List.take_succ_cons, List.take_zero]
    repeat (
      first
        | (apply calm_p rfl; case h1 => (intro w1 hw1 hF K hK; obtain ⟨c1, f1⟩ := (Blk.grow A1 hw1).rules; obtain ⟨c2, f2⟩ := (Blk.grow A2 hw1).rules; go_simp; first | exact hK _ (Grow.refl _) | (go_at_call 100; ((with_reducible refine (rank_any a ha _).mono ?_); rintro e w' ⟨rfl, hg⟩; exact ⟨_, rfl, hK _ hg⟩)) | (go_at_call 100; ((with_reducible refine (rank_any b hb _).mono ?_); rintro e w' ⟨rfl, hg⟩; exact ⟨_, rfl, hK _ hg⟩)) | (go_at_call 99; ((with_reducible refine (ranked_any _ _).mono ?_); rintro e w' ⟨rfl, hg⟩; exact ⟨_, rfl, hK _ hg⟩))))
        | (apply calm_y rfl rfl rfl; case h1 => (intro w1 hw1 hF K hK; obtain ⟨c1, f1⟩ := (Blk.grow A1 hw1).rules; obtain ⟨c2, f2⟩ := (Blk.grow A2 hw1).rules; go_simp; first | exact hK _ (Grow.refl _) | (go_at_call 100; ((with_reducible refine (rank_any a ha _).mono ?_); rintro e w' ⟨rfl, hg⟩; exact ⟨_, rfl, hK _ hg⟩)) | (go_at_call 100; ((with_reducible refine (rank_any b hb _).mono ?_); rintro e w' ⟨rfl, hg⟩; exact ⟨_, rfl, hK _ hg⟩)) | (go_at_call 99; ((with_reducible refine (ranked_any _ _).mono ?_); rintro e w' ⟨rfl, hg⟩; exact ⟨_, rfl, hK _ hg⟩))))
        | apply calm_n rfl rfl rfl rfl
      intro K hK
      go_simp
      apply hK
      clear hK K)
    refine calm_nil ?_
    intro w1 hw1 hF
    apply hQ0
    clear hQ0
    simp only [List.drop_succ_cons, List.drop_zero]
    clear hF
    obtain ⟨c3, f3⟩ := (Blk.grow A3 hw1).rules
    go_wp2
    exact bodyPost_ret (by simp [results, Try.results32, go_sem, c3, orV]) rfl ⟨rfl, (by repeat (first | (with_reducible exact Grow.refl _) | (with_reducible assumption) | (with_reducible refine Grow.set ?_ (by first | (simp; done) | (simp; omega)) _) | (with_reducible refine Grow.al ?_ _) | (with_reducible refine Grow.drew ?_) | (with_reducible refine Grow.drewN ?_ _) | (with_reducible refine Grow.trans ?_ (by assumption))))⟩
  case hp' => trivial
end Go.Proofs.Ytjhcbehnopmnpaa
