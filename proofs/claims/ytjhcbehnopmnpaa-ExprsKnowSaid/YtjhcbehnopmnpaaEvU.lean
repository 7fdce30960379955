/-
  uses and plain, of the laws of chapter 3.
-/
import Derived.Test.YtjhcbehnopmnpaaEvL
namespace Go.Proofs.Ytjhcbehnopmnpaa
open Go.RowKit Go.Calm
set_option linter.unusedSimpArgs false
set_option linter.unusedVariables false

theorem ex_kid {w : World} {e : E} (h : EX w e) (j : Nat) (hj : j < e.n) : ∃ g o, e.A = some ⟨g, o, none⟩ ∧ ECells w g (o + j * 6) (e.kid j) ∧ EX w (e.kid j) := by
  cases h with
  | leaf => exact absurd hj (Nat.not_lt_zero _)
  | mk hn hc hk hv hi =>
    obtain ⟨g, o, h1, h2⟩ := hc j hj
    exact ⟨g, o, h1, h2, hk j hj⟩
theorem ex_n {w : World} {e : E} (h : EX w e) : e.n ≤ maxLen := by
  cases h with
  | leaf => exact Nat.zero_le _
  | mk hn => exact hn
theorem usesB_eq (k : Int) (e : E) : usesB k e = ((decide (e.kind = 2) && decide (e.col = k)) || (List.range e.n).any (fun i => usesB k (e.kid i))) := by
  cases e with
  | leaf => rfl
  | mk => rfl
theorem plainB_eq (e : E) : plainB e = (decide (e.kind < 16) && (List.range e.n).all (fun i => plainB (e.kid i))) := by
  cases e with
  | leaf => rfl
  | mk => rfl
theorem any_no {f : Nat → Bool} {j : Nat} (h : (List.range j).any f = false) (h1 : f j = false) : (List.range (j + 1)).any f = false := by
  rw [List.range_succ, List.any_append, h]; simp [h1]
theorem all_yes {f : Nat → Bool} {j : Nat} (h : (List.range j).all f = true) (h1 : f j = true) : (List.range (j + 1)).all f = true := by
  rw [List.range_succ, List.all_append, h]; simp [h1]
def UsesC (k : Int) (e : E) : Prop := ∀ (w0 w : World), EX w0 e → Grow w0 w → Calls Try.prog 64 #[e.val, .int .i64 k] w fun en w' => en = .returned (.bool (usesB k e)) ∧ Grow w w'
def PlainC (e : E) : Prop := ∀ (w0 w : World), EX w0 e → Grow w0 w → Calls Try.prog 65 #[e.val] w fun en w' => en = .returned (.bool (plainB e)) ∧ Grow w w'
set_option maxRecDepth 100000 in
set_option maxHeartbeats 4000000 in
theorem uses_step (k : Int) (e : E) (ih : ∀ i, i < e.n → UsesC k (e.kid i)) : UsesC k e := by
  intro w0 w hE hg
  have hn : e.n ≤ 9223372036854775807 := by have := ex_n hE; unfold maxLen at this; omega
  obtain ⟨R, hR⟩ : ∃ R, usesB k e = R := ⟨_, rfl⟩
  rw [hR]
  by_cases h0 : e.kind = 2 ∧ e.col = k
  · have eR : R = true := by rw [← hR, usesB_eq]; simp [h0]
    have d1 : (e.kind == 2) = true := by simpa using h0.1
    have d2 : (e.col == k) = true := by simpa using h0.2
    clear h0 hR
    subst eR
    unfold E.val
    go_enter Try.func64, Try.ntmps64
    go_wp2
    go_ret
    exact ⟨rfl, (by repeat (first | (with_reducible exact Grow.refl _) | (with_reducible assumption) | (with_reducible refine Grow.set ?_ (by first | (simp; done) | (simp; omega)) _) | (with_reducible refine Grow.al ?_ _) | (with_reducible refine Grow.drew ?_) | (with_reducible refine Grow.drewN ?_ _) | (with_reducible refine Grow.trans ?_ (by assumption))))⟩
  · have d : (e.kind == 2) = false ∨ (e.kind == 2) = true ∧ (e.col == k) = false := by
      by_cases h1 : e.kind = 2
      · right; exact ⟨by simpa using h1, by simpa using fun h => h0 ⟨h1, h⟩⟩
      · left; simpa using h1
    have hR' : (List.range e.n).any (fun i => usesB k (e.kid i)) = R := by
      rw [← hR, usesB_eq]
      have : (decide (e.kind = 2) && decide (e.col = k)) = false := by simpa using fun h h' => h0 ⟨h, h'⟩
      rw [this]; simp
    have HR := Lib.hid hR'
    have HE := Lib.hid hE
    clear h0 hR hR' hE
    unfold E.val
    go_enter Try.func64, Try.ntmps64
    rcases d with d | ⟨d, d2⟩
    all_goals
      go_upto_region 3 with fail
      refine wp_forget (fun W => Blk W w.heap.size 47 #[.int .i64 e.kind, .int .i64 e.v.k, .int .i64 e.v.n, .string e.v.s, .int .i64 e.col, .slice e.A e.n e.cap] ∧ Grow w W) ⟨Blk.new _ _ _, (by repeat (first | (with_reducible exact Grow.refl _) | (with_reducible assumption) | (with_reducible refine Grow.set ?_ (by first | (simp; done) | (simp; omega)) _) | (with_reducible refine Grow.al ?_ _) | (with_reducible refine Grow.drew ?_) | (with_reducible refine Grow.drewN ?_ _) | (with_reducible refine Grow.trans ?_ (by assumption))))⟩ ?_
      rintro W ⟨B, G⟩
      obtain ⟨cb, fb⟩ := B.rules
      go_wp2
      go_loopw [19] (fun i wr => ∃ j : Nat, j ≤ e.n ∧ i = .int .i64 j ∧ (List.range j).any (fun i => usesB k (e.kid i)) = false ∧ Grow w wr) (fun i _ => e.n - (intOf i).toNat)
      case atStart => exact ⟨0, Nat.zero_le _, rfl, rfl, G⟩
      case round =>
        obtain ⟨j, hj, rfl, hinv, hgr⟩ := hrel
        have Inv := Lib.hid hinv
        clear hinv
        by_cases hlt : j < e.n
        · obtain ⟨gk, ok, hA, hck, hEk⟩ := ex_kid HE.out j hlt
          obtain ⟨k0, k1, k2, k3, k4, k5⟩ := hck.grow (hg.trans hgr)
          have hA' := hA
          rw [hA]
          clear cb fb
          obtain ⟨r, hr⟩ : ∃ r, usesB k (e.kid j) = r := ⟨_, rfl⟩
          have ct := fun W (h : Grow wr W) => ih j hlt w0 W hEk (hg.trans (hgr.trans h))
          rw [hr] at ct
          have Hr := Lib.hid hr
          clear hr hck hEk hA hA'
          cases r
          · 
            go_wp2_with (go_at_call 64; ((with_reducible refine (ct _ (by repeat (first | (with_reducible exact Grow.refl _) | (with_reducible assumption) | (with_reducible refine Grow.set ?_ (by first | (simp; done) | (simp; omega)) _) | (with_reducible refine Grow.al ?_ _) | (with_reducible refine Grow.drew ?_) | (with_reducible refine Grow.drewN ?_ _) | (with_reducible refine Grow.trans ?_ (by assumption))))).mono ?_); rintro en w2 ⟨rfl, hg2⟩; have G2 := Grow.trans ((by repeat (first | (with_reducible exact Grow.refl _) | (with_reducible assumption) | (with_reducible refine Grow.set ?_ (by first | (simp; done) | (simp; omega)) _) | (with_reducible refine Grow.al ?_ _) | (with_reducible refine Grow.drew ?_) | (with_reducible refine Grow.drewN ?_ _) | (with_reducible refine Grow.trans ?_ (by assumption)))) : Grow w _) hg2))
            go_roundw
            case rel => exact ⟨j + 1, by omega, by go_num, any_no Inv.out Hr.out, G2⟩
            case measure => simp [intOf]; omega
          · obtain rfl : R = true := by rw [← HR.out, List.any_eq_true]; exact ⟨j, List.mem_range.2 hlt, Hr.out⟩
            go_wp2_with (go_at_call 64; ((with_reducible refine (ct _ (by repeat (first | (with_reducible exact Grow.refl _) | (with_reducible assumption) | (with_reducible refine Grow.set ?_ (by first | (simp; done) | (simp; omega)) _) | (with_reducible refine Grow.al ?_ _) | (with_reducible refine Grow.drew ?_) | (with_reducible refine Grow.drewN ?_ _) | (with_reducible refine Grow.trans ?_ (by assumption))))).mono ?_); rintro en w2 ⟨rfl, hg2⟩; have G2 := Grow.trans ((by repeat (first | (with_reducible exact Grow.refl _) | (with_reducible assumption) | (with_reducible refine Grow.set ?_ (by first | (simp; done) | (simp; omega)) _) | (with_reducible refine Grow.al ?_ _) | (with_reducible refine Grow.drew ?_) | (with_reducible refine Grow.drewN ?_ _) | (with_reducible refine Grow.trans ?_ (by assumption)))) : Grow w _) hg2))
            go_ret
            exact ⟨rfl, G2⟩
        · obtain rfl : j = e.n := by omega
          obtain rfl : R = false := HR.out.symm.trans Inv.out
          clear Inv cb fb
          go_wp2
          go_ret
          exact ⟨rfl, hgr⟩

set_option maxRecDepth 100000 in
set_option maxHeartbeats 4000000 in
theorem plain_step (e : E) (ih : ∀ i, i < e.n → PlainC (e.kid i)) : PlainC e := by
  intro w0 w hE hg
  have hn : e.n ≤ 9223372036854775807 := by have := ex_n hE; unfold maxLen at this; omega
  obtain ⟨R, hR⟩ : ∃ R, plainB e = R := ⟨_, rfl⟩
  rw [hR]
  by_cases h0 : 16 ≤ e.kind
  · have eR : R = false := by
      rw [← hR, plainB_eq]
      have : decide (e.kind < 16) = false := by simpa using h0
      rw [this]; rfl
    have d1 : decide (16 ≤ e.kind) = true := by simpa using h0
    clear h0 hR
    subst eR
    unfold E.val
    go_enter Try.func65, Try.ntmps65
    go_wp2
    go_ret
    exact ⟨rfl, (by repeat (first | (with_reducible exact Grow.refl _) | (with_reducible assumption) | (with_reducible refine Grow.set ?_ (by first | (simp; done) | (simp; omega)) _) | (with_reducible refine Grow.al ?_ _) | (with_reducible refine Grow.drew ?_) | (with_reducible refine Grow.drewN ?_ _) | (with_reducible refine Grow.trans ?_ (by assumption))))⟩
  · have d : decide (16 ≤ e.kind) = false ∨ decide (16 ≤ e.kind) = false := .inl (by simpa using h0)
    have hR' : (List.range e.n).all (fun i => plainB (e.kid i)) = R := by
      rw [← hR, plainB_eq]
      have : decide (e.kind < 16) = true := by simp; omega
      rw [this]; simp
    have HR := Lib.hid hR'
    have HE := Lib.hid hE
    clear h0 hR hR' hE
    unfold E.val
    go_enter Try.func65, Try.ntmps65
    rcases d with d | d
    all_goals
      go_upto_region 3 with fail
      refine wp_forget (fun W => Blk W w.heap.size 47 #[.int .i64 e.kind, .int .i64 e.v.k, .int .i64 e.v.n, .string e.v.s, .int .i64 e.col, .slice e.A e.n e.cap] ∧ Grow w W) ⟨Blk.new _ _ _, (by repeat (first | (with_reducible exact Grow.refl _) | (with_reducible assumption) | (with_reducible refine Grow.set ?_ (by first | (simp; done) | (simp; omega)) _) | (with_reducible refine Grow.al ?_ _) | (with_reducible refine Grow.drew ?_) | (with_reducible refine Grow.drewN ?_ _) | (with_reducible refine Grow.trans ?_ (by assumption))))⟩ ?_
      rintro W ⟨B, G⟩
      obtain ⟨cb, fb⟩ := B.rules
      go_wp2
      go_loopw [11] (fun i wr => ∃ j : Nat, j ≤ e.n ∧ i = .int .i64 j ∧ (List.range j).all (fun i => plainB (e.kid i)) = true ∧ Grow w wr) (fun i _ => e.n - (intOf i).toNat)
      case atStart => exact ⟨0, Nat.zero_le _, rfl, rfl, G⟩
      case round =>
        obtain ⟨j, hj, rfl, hinv, hgr⟩ := hrel
        have Inv := Lib.hid hinv
        clear hinv
        by_cases hlt : j < e.n
        · obtain ⟨gk, ok, hA, hck, hEk⟩ := ex_kid HE.out j hlt
          obtain ⟨k0, k1, k2, k3, k4, k5⟩ := hck.grow (hg.trans hgr)
          have hA' := hA
          rw [hA]
          clear cb fb
          obtain ⟨r, hr⟩ : ∃ r, plainB (e.kid j) = r := ⟨_, rfl⟩
          have ct := fun W (h : Grow wr W) => ih j hlt w0 W hEk (hg.trans (hgr.trans h))
          rw [hr] at ct
          have Hr := Lib.hid hr
          clear hr hck hEk hA hA'
          cases r
          · obtain rfl : R = false := by rw [← HR.out, List.all_eq_false]; exact ⟨j, List.mem_range.2 hlt, by simp [Hr.out]⟩
            go_wp2_with (go_at_call 65; ((with_reducible refine (ct _ (by repeat (first | (with_reducible exact Grow.refl _) | (with_reducible assumption) | (with_reducible refine Grow.set ?_ (by first | (simp; done) | (simp; omega)) _) | (with_reducible refine Grow.al ?_ _) | (with_reducible refine Grow.drew ?_) | (with_reducible refine Grow.drewN ?_ _) | (with_reducible refine Grow.trans ?_ (by assumption))))).mono ?_); rintro en w2 ⟨rfl, hg2⟩; have G2 := Grow.trans ((by repeat (first | (with_reducible exact Grow.refl _) | (with_reducible assumption) | (with_reducible refine Grow.set ?_ (by first | (simp; done) | (simp; omega)) _) | (with_reducible refine Grow.al ?_ _) | (with_reducible refine Grow.drew ?_) | (with_reducible refine Grow.drewN ?_ _) | (with_reducible refine Grow.trans ?_ (by assumption)))) : Grow w _) hg2))
            go_ret
            exact ⟨rfl, G2⟩
          · 
            go_wp2_with (go_at_call 65; ((with_reducible refine (ct _ (by repeat (first | (with_reducible exact Grow.refl _) | (with_reducible assumption) | (with_reducible refine Grow.set ?_ (by first | (simp; done) | (simp; omega)) _) | (with_reducible refine Grow.al ?_ _) | (with_reducible refine Grow.drew ?_) | (with_reducible refine Grow.drewN ?_ _) | (with_reducible refine Grow.trans ?_ (by assumption))))).mono ?_); rintro en w2 ⟨rfl, hg2⟩; have G2 := Grow.trans ((by repeat (first | (with_reducible exact Grow.refl _) | (with_reducible assumption) | (with_reducible refine Grow.set ?_ (by first | (simp; done) | (simp; omega)) _) | (with_reducible refine Grow.al ?_ _) | (with_reducible refine Grow.drew ?_) | (with_reducible refine Grow.drewN ?_ _) | (with_reducible refine Grow.trans ?_ (by assumption)))) : Grow w _) hg2))
            go_roundw
            case rel => exact ⟨j + 1, by omega, by go_num, all_yes Inv.out Hr.out, G2⟩
            case measure => simp [intOf]; omega
        · obtain rfl : j = e.n := by omega
          obtain rfl : R = true := HR.out.symm.trans Inv.out
          clear Inv cb fb
          go_wp2
          go_ret
          exact ⟨rfl, hgr⟩

theorem uses_any (k : Int) (e : E) : UsesC k e := by
  induction e with
  | leaf => exact uses_step k .leaf (fun i hi => absurd hi (Nat.not_lt_zero _))
  | mk kd v c A n cap kid ih => exact uses_step k _ (fun i _ => ih i)
theorem plain_any (e : E) : PlainC e := by
  induction e with
  | leaf => exact plain_step .leaf (fun i hi => absurd hi (Nat.not_lt_zero _))
  | mk kd v c A n cap kid ih => exact plain_step _ (fun i _ => ih i)
end Go.Proofs.Ytjhcbehnopmnpaa
