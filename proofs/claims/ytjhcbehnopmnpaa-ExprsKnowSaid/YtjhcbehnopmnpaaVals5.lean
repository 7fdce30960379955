/-
  Join; And, Or, Not, Reckon, Join of chapter 1's reference.
-/
import Derived.Test.YtjhcbehnopmnpaaVals4
namespace Go.Proofs.Ytjhcbehnopmnpaa
open Go.RowKit Go.Calm
set_option linter.unusedSimpArgs false
set_option linter.unusedVariables false

def joinV (a b : V) : V := if a.k = 4 ∧ b.k = 4 ∧ a.s.size + b.s.size ≤ 60 then ⟨4, 0, a.s ++ b.s⟩ else ⟨1, 0, es⟩
theorem join_any (a b : V) (ha : RV a) (hb : RV b) (w : World) : Calls Try.prog 52 #[a.val, b.val] w fun e w' => e = .returned (joinV a b).val ∧ Grow w w' := by
  have ta := ha.text
  have tb := hb.text
  by_cases h1 : a.k = 4
  · have hd1 : (a.k != 4) = false := by simpa using h1
    by_cases h2 : b.k = 4
    · have hd2 : (b.k != 4) = false := by simpa using h2
      have ta' := ta h1
      have tb' := tb h2
      by_cases h3 : a.s.size + b.s.size ≤ 60
      · have e : joinV a b = ⟨4, 0, a.s ++ b.s⟩ := by simp [joinV, h1, h2, h3]
        rw [e]; clear e h1 h2 ta tb ha hb
        have h3' : (a.s.size : Int) + b.s.size ≤ 60 := by omega
        unfold V.val
        go_enter Try.func52, Try.ntmps52
        go_wp2
        exact bodyPost_ret (by simp [results, Try.results52, go_sem]) rfl ⟨rfl, (by repeat (first | (with_reducible exact Grow.refl _) | (with_reducible assumption) | (with_reducible refine Grow.set ?_ (by first | (simp; done) | (simp; omega)) _) | (with_reducible refine Grow.al ?_ _) | (with_reducible refine Grow.drew ?_) | (with_reducible refine Grow.drewN ?_ _) | (with_reducible refine Grow.trans ?_ (by assumption))))⟩
      · have e : joinV a b = ⟨1, 0, es⟩ := by simp [joinV, h3]
        rw [e]; clear e h1 h2 ta tb ha hb
        have h3' : 60 < (a.s.size : Int) + b.s.size := by omega
        unfold V.val
        go_enter Try.func52, Try.ntmps52
        go_wp2_with ((go_at_call 38; ((with_reducible refine (null _).mono ?_); rintro e w' ⟨rfl, hg⟩; obtain ⟨hc, hf, hz⟩ := hg.rules)))
        exact bodyPost_ret (by simp [results, Try.results52, go_sem, hc]) rfl ⟨rfl, (by repeat (first | (with_reducible exact Grow.refl _) | (with_reducible assumption) | (with_reducible refine Grow.set ?_ (by first | (simp; done) | (simp; omega)) _) | (with_reducible refine Grow.al ?_ _) | (with_reducible refine Grow.drew ?_) | (with_reducible refine Grow.drewN ?_ _) | (with_reducible refine Grow.trans ?_ (by assumption))))⟩
    · have hd2 : (b.k != 4) = true := by simpa using h2
      have e : joinV a b = ⟨1, 0, es⟩ := by simp [joinV, h2]
      rw [e]; clear e h1 h2 ta tb ha hb
      unfold V.val
      go_enter Try.func52, Try.ntmps52
      go_wp2_with ((go_at_call 38; ((with_reducible refine (null _).mono ?_); rintro e w' ⟨rfl, hg⟩; obtain ⟨hc, hf, hz⟩ := hg.rules)))
      exact bodyPost_ret (by simp [results, Try.results52, go_sem, hc]) rfl ⟨rfl, (by repeat (first | (with_reducible exact Grow.refl _) | (with_reducible assumption) | (with_reducible refine Grow.set ?_ (by first | (simp; done) | (simp; omega)) _) | (with_reducible refine Grow.al ?_ _) | (with_reducible refine Grow.drew ?_) | (with_reducible refine Grow.drewN ?_ _) | (with_reducible refine Grow.trans ?_ (by assumption))))⟩
  · have hd1 : (a.k != 4) = true := by simpa using h1
    have e : joinV a b = ⟨1, 0, es⟩ := by simp [joinV, h1]
    rw [e]; clear e h1 ta tb ha hb
    unfold V.val
    go_enter Try.func52, Try.ntmps52
    go_wp2_with ((go_at_call 38; ((with_reducible refine (null _).mono ?_); rintro e w' ⟨rfl, hg⟩; obtain ⟨hc, hf, hz⟩ := hg.rules)))
    exact bodyPost_ret (by simp [results, Try.results52, go_sem, hc]) rfl ⟨rfl, (by repeat (first | (with_reducible exact Grow.refl _) | (with_reducible assumption) | (with_reducible refine Grow.set ?_ (by first | (simp; done) | (simp; omega)) _) | (with_reducible refine Grow.al ?_ _) | (with_reducible refine Grow.drew ?_) | (with_reducible refine Grow.drewN ?_ _) | (with_reducible refine Grow.trans ?_ (by assumption))))⟩

theorem rnot_any (a : V) (ha : RV a) (w : World) : Calls Try.prog 49 #[a.val] w fun e w' => e = .returned (notV a).val ∧ Grow w w' := by
  by_cases h1 : a.k = 2
  · have hd1 : (a.k != 2) = false := by simpa using h1
    have e : notV a = truth (isB a false) := by
      rcases ha.bool h1 with h | h <;> simp [notV, rankV, rankedV, isB, h1, h, truth]
    rw [e]; clear e h1 ha
    unfold V.val
    go_enter Try.func49, Try.ntmps49
    go_wp2_with (first | (go_at_call 50; ((with_reducible refine (is_any a false _).mono ?_); rintro e w' ⟨rfl, hg⟩; obtain ⟨hc, hf, hz⟩ := hg.rules)) | (go_at_call 106; ((with_reducible refine (truth_any _ _).mono ?_); rintro e w2' ⟨rfl, hg2⟩; replace hg := hg.trans hg2; clear hg2 hc hf hz; obtain ⟨hc, hf, hz⟩ := hg.rules)))
    exact bodyPost_ret (by simp [results, Try.results49, go_sem, hc]) rfl ⟨rfl, (by repeat (first | (with_reducible exact Grow.refl _) | (with_reducible assumption) | (with_reducible refine Grow.set ?_ (by first | (simp; done) | (simp; omega)) _) | (with_reducible refine Grow.al ?_ _) | (with_reducible refine Grow.drew ?_) | (with_reducible refine Grow.drewN ?_ _) | (with_reducible refine Grow.trans ?_ (by assumption))))⟩
  · have hd1 : (a.k != 2) = true := by simpa using h1
    have e : notV a = ⟨1, 0, es⟩ := by simp [notV, rankV, rankedV, h1]
    rw [e]; clear e h1 ha
    unfold V.val
    go_enter Try.func49, Try.ntmps49
    go_wp2_with (first | (go_at_call 105; ((with_reducible refine (rnull_any _).mono ?_); rintro e w' ⟨rfl, hg⟩; obtain ⟨hc, hf, hz⟩ := hg.rules)))
    exact bodyPost_ret (by simp [results, Try.results49, go_sem, hc]) rfl ⟨rfl, (by repeat (first | (with_reducible exact Grow.refl _) | (with_reducible assumption) | (with_reducible refine Grow.set ?_ (by first | (simp; done) | (simp; omega)) _) | (with_reducible refine Grow.al ?_ _) | (with_reducible refine Grow.drew ?_) | (with_reducible refine Grow.drewN ?_ _) | (with_reducible refine Grow.trans ?_ (by assumption))))⟩

theorem rank_cases (a : V) (ha : RV a) : (rankV a = 0 ∧ isB a false = true ∧ isB a true = false) ∨ (rankV a = 1 ∧ isB a false = false ∧ isB a true = false) ∨ (rankV a = 2 ∧ isB a false = false ∧ isB a true = true) := by
  by_cases h1 : a.k = 2
  · rcases ha.bool h1 with h | h <;> simp [rankV, isB, h1, h]
  · simp [rankV, isB, h1]
set_option maxHeartbeats 1000000 in
theorem rand_any (a b : V) (ha : RV a) (hb : RV b) (w : World) : Calls Try.prog 47 #[a.val, b.val] w fun e w' => e = .returned (andV a b).val ∧ Grow w w' := by
  rcases rank_cases a ha with ⟨ra, fa, ta⟩ | ⟨ra, fa, ta⟩ | ⟨ra, fa, ta⟩ <;> rcases rank_cases b hb with ⟨rb, fb, tb⟩ | ⟨rb, fb, tb⟩ | ⟨rb, fb, tb⟩
  all_goals
    unfold andV
    rw [ra, rb]
    clear ra rb ha hb
    simp only [minI, rankedV]
    simp only [Int.reduceLT, if_true, if_false, Int.reduceEq]
    unfold V.val
    go_enter Try.func47, Try.ntmps47
    go_wp2_with (first | (go_at_call 50; first | ((with_reducible refine (is_any a false _).mono ?_); rintro e w' ⟨rfl, hg⟩; obtain ⟨hc, hf, hz⟩ := hg.rules) | ((with_reducible refine (is_any b false _).mono ?_); rintro e w2' ⟨rfl, hg2⟩; replace hg := hg.trans hg2; clear hg2 hc hf hz; obtain ⟨hc, hf, hz⟩ := hg.rules) | ((with_reducible refine (is_any a true _).mono ?_); rintro e w2' ⟨rfl, hg2⟩; replace hg := hg.trans hg2; clear hg2 hc hf hz; obtain ⟨hc, hf, hz⟩ := hg.rules) | ((with_reducible refine (is_any b true _).mono ?_); rintro e w2' ⟨rfl, hg2⟩; replace hg := hg.trans hg2; clear hg2 hc hf hz; obtain ⟨hc, hf, hz⟩ := hg.rules)) | (go_at_call 106; ((with_reducible refine (truth_any _ _).mono ?_); rintro e w2' ⟨rfl, hg2⟩; replace hg := hg.trans hg2; clear hg2 hc hf hz; obtain ⟨hc, hf, hz⟩ := hg.rules)) | (go_at_call 105; ((with_reducible refine (rnull_any _).mono ?_); rintro e w2' ⟨rfl, hg2⟩; replace hg := hg.trans hg2; clear hg2 hc hf hz; obtain ⟨hc, hf, hz⟩ := hg.rules)))
    exact bodyPost_ret (by simp [results, Try.results47, go_sem, hc, truth]) rfl ⟨rfl, (by repeat (first | (with_reducible exact Grow.refl _) | (with_reducible assumption) | (with_reducible refine Grow.set ?_ (by first | (simp; done) | (simp; omega)) _) | (with_reducible refine Grow.al ?_ _) | (with_reducible refine Grow.drew ?_) | (with_reducible refine Grow.drewN ?_ _) | (with_reducible refine Grow.trans ?_ (by assumption))))⟩

set_option maxHeartbeats 1000000 in
theorem ror_any (a b : V) (ha : RV a) (hb : RV b) (w : World) : Calls Try.prog 48 #[a.val, b.val] w fun e w' => e = .returned (orV a b).val ∧ Grow w w' := by
  rcases rank_cases a ha with ⟨ra, fa, ta⟩ | ⟨ra, fa, ta⟩ | ⟨ra, fa, ta⟩ <;> rcases rank_cases b hb with ⟨rb, fb, tb⟩ | ⟨rb, fb, tb⟩ | ⟨rb, fb, tb⟩
  all_goals
    unfold orV
    rw [ra, rb]
    clear ra rb ha hb
    simp only [maxI, rankedV]
    simp only [Int.reduceLT, if_true, if_false, Int.reduceEq]
    unfold V.val
    go_enter Try.func48, Try.ntmps48
    go_wp2_with (first | (go_at_call 50; first | ((with_reducible refine (is_any a true _).mono ?_); rintro e w' ⟨rfl, hg⟩; obtain ⟨hc, hf, hz⟩ := hg.rules) | ((with_reducible refine (is_any b true _).mono ?_); rintro e w2' ⟨rfl, hg2⟩; replace hg := hg.trans hg2; clear hg2 hc hf hz; obtain ⟨hc, hf, hz⟩ := hg.rules) | ((with_reducible refine (is_any a false _).mono ?_); rintro e w2' ⟨rfl, hg2⟩; replace hg := hg.trans hg2; clear hg2 hc hf hz; obtain ⟨hc, hf, hz⟩ := hg.rules) | ((with_reducible refine (is_any b false _).mono ?_); rintro e w2' ⟨rfl, hg2⟩; replace hg := hg.trans hg2; clear hg2 hc hf hz; obtain ⟨hc, hf, hz⟩ := hg.rules)) | (go_at_call 106; ((with_reducible refine (truth_any _ _).mono ?_); rintro e w2' ⟨rfl, hg2⟩; replace hg := hg.trans hg2; clear hg2 hc hf hz; obtain ⟨hc, hf, hz⟩ := hg.rules)) | (go_at_call 105; ((with_reducible refine (rnull_any _).mono ?_); rintro e w2' ⟨rfl, hg2⟩; replace hg := hg.trans hg2; clear hg2 hc hf hz; obtain ⟨hc, hf, hz⟩ := hg.rules)))
    exact bodyPost_ret (by simp [results, Try.results48, go_sem, hc, truth]) rfl ⟨rfl, (by repeat (first | (with_reducible exact Grow.refl _) | (with_reducible assumption) | (with_reducible refine Grow.set ?_ (by first | (simp; done) | (simp; omega)) _) | (with_reducible refine Grow.al ?_ _) | (with_reducible refine Grow.drew ?_) | (with_reducible refine Grow.drewN ?_ _) | (with_reducible refine Grow.trans ?_ (by assumption))))⟩

theorem rjoin_any (a b : V) (ha : RV a) (hb : RV b) (w : World) : Calls Try.prog 53 #[a.val, b.val] w fun e w' => e = .returned (joinV a b).val ∧ Grow w w' := by
  have ta := ha.text
  have tb := hb.text
  by_cases h1 : a.k = 4
  · have hd1 : (a.k == 4) = true := by simpa using h1
    by_cases h2 : b.k = 4
    · have hd2 : (b.k == 4) = true := by simpa using h2
      have ta' := ta h1
      have tb' := tb h2
      by_cases h3 : a.s.size + b.s.size ≤ 60
      · have e : joinV a b = ⟨4, 0, a.s ++ b.s⟩ := by simp [joinV, h1, h2, h3]
        rw [e]; clear e h1 h2 ta tb ha hb
        have h3' : (a.s.size : Int) + b.s.size ≤ 60 := by omega
        unfold V.val
        go_enter Try.func53, Try.ntmps53
        go_wp2
        exact bodyPost_ret (by simp [results, Try.results53, go_sem]) rfl ⟨rfl, (by repeat (first | (with_reducible exact Grow.refl _) | (with_reducible assumption) | (with_reducible refine Grow.set ?_ (by first | (simp; done) | (simp; omega)) _) | (with_reducible refine Grow.al ?_ _) | (with_reducible refine Grow.drew ?_) | (with_reducible refine Grow.drewN ?_ _) | (with_reducible refine Grow.trans ?_ (by assumption))))⟩
      · have e : joinV a b = ⟨1, 0, es⟩ := by simp [joinV, h3]
        rw [e]; clear e h1 h2 ta tb ha hb
        have h3' : 60 < (a.s.size : Int) + b.s.size := by omega
        unfold V.val
        go_enter Try.func53, Try.ntmps53
        go_wp2_with ((go_at_call 105; ((with_reducible refine (rnull_any _).mono ?_); rintro e w' ⟨rfl, hg⟩; obtain ⟨hc, hf, hz⟩ := hg.rules)))
        exact bodyPost_ret (by simp [results, Try.results53, go_sem, hc]) rfl ⟨rfl, (by repeat (first | (with_reducible exact Grow.refl _) | (with_reducible assumption) | (with_reducible refine Grow.set ?_ (by first | (simp; done) | (simp; omega)) _) | (with_reducible refine Grow.al ?_ _) | (with_reducible refine Grow.drew ?_) | (with_reducible refine Grow.drewN ?_ _) | (with_reducible refine Grow.trans ?_ (by assumption))))⟩
    · have hd2 : (b.k == 4) = false := by simpa using h2
      have e : joinV a b = ⟨1, 0, es⟩ := by simp [joinV, h2]
      rw [e]; clear e h1 h2 ta tb ha hb
      unfold V.val
      go_enter Try.func53, Try.ntmps53
      go_wp2_with ((go_at_call 105; ((with_reducible refine (rnull_any _).mono ?_); rintro e w' ⟨rfl, hg⟩; obtain ⟨hc, hf, hz⟩ := hg.rules)))
      exact bodyPost_ret (by simp [results, Try.results53, go_sem, hc]) rfl ⟨rfl, (by repeat (first | (with_reducible exact Grow.refl _) | (with_reducible assumption) | (with_reducible refine Grow.set ?_ (by first | (simp; done) | (simp; omega)) _) | (with_reducible refine Grow.al ?_ _) | (with_reducible refine Grow.drew ?_) | (with_reducible refine Grow.drewN ?_ _) | (with_reducible refine Grow.trans ?_ (by assumption))))⟩
  · have hd1 : (a.k == 4) = false := by simpa using h1
    have e : joinV a b = ⟨1, 0, es⟩ := by simp [joinV, h1]
    rw [e]; clear e h1 ta tb ha hb
    unfold V.val
    go_enter Try.func53, Try.ntmps53
    go_wp2_with ((go_at_call 105; ((with_reducible refine (rnull_any _).mono ?_); rintro e w' ⟨rfl, hg⟩; obtain ⟨hc, hf, hz⟩ := hg.rules)))
    exact bodyPost_ret (by simp [results, Try.results53, go_sem, hc]) rfl ⟨rfl, (by repeat (first | (with_reducible exact Grow.refl _) | (with_reducible assumption) | (with_reducible refine Grow.set ?_ (by first | (simp; done) | (simp; omega)) _) | (with_reducible refine Grow.al ?_ _) | (with_reducible refine Grow.drew ?_) | (with_reducible refine Grow.drewN ?_ _) | (with_reducible refine Grow.trans ?_ (by assumption))))⟩
end Go.Proofs.Ytjhcbehnopmnpaa
