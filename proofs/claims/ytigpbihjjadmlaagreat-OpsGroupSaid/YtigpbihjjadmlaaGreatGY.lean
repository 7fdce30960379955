/-
  Joined texts of this claim: EvR. What each proves its own head says; no condition beside those that each theorem names.
-/
import Derived.Test.YtigpbihjjadmlaaGreatGG
import Derived.Test.YtigpbihjjadmlaaGreatGC
namespace Go.Proofs.YtigpbihjjadmlaaGreat
open Go.RowKit Go.Calm
set_option linter.unusedSimpArgs false
set_option linter.unusedVariables false

theorem cmp_known {a b : V} (ra : RV a) (rb : RV b) (h : a.k = b.k) (h1 : a.k ≠ 1) :
    comparedV 6 a b = truth (ordV a b == 0) ∧ comparedV 7 a b = truth (ordV a b != 0) ∧ comparedV 8 a b = truth (decide (ordV a b < 0)) ∧ comparedV 9 a b = truth (decide (ordV a b ≤ 0)) ∧ comparedV 10 a b = truth (decide (0 < ordV a b)) ∧ comparedV 11 a b = truth (decide (0 ≤ ordV a b)) := by
  have al : alikeB a b = true := by simp [alikeB, h]; rw [← h]; exact h1
  have al2 : alikeB b a = true := by simp [alikeB, h]; rw [← h]; exact h1
  have e1 := cmp_ord a b ra rb
  have e2 := cmp_ord b a rb ra
  have e3 := ordV_swap a b
  have e4 := ordV_range a b
  have q1 : eqV a b = truth (cmpV a b == 0) := by simp only [eqV, al, if_true]
  have q2 : lessV a b = truth (decide (cmpV a b < 0)) := by simp only [lessV, al, if_true]
  have q3 : lessV b a = truth (decide (cmpV b a < 0)) := by simp only [lessV, al2, if_true]
  refine ⟨?_, ?_, ?_, ?_, ?_, ?_⟩
  · rw [show comparedV 6 a b = eqV a b from rfl, q1, e1]
  · rw [show comparedV 7 a b = notV (eqV a b) from rfl, q1, e1]
    rcases e4 with e | e | e <;> rw [e] <;> rfl
  · rw [show comparedV 8 a b = lessV a b from rfl, q2, e1]
  · rw [show comparedV 9 a b = notV (lessV b a) from rfl, q3, e2, e3]
    rcases e4 with e | e | e <;> rw [e] <;> rfl
  · rw [show comparedV 10 a b = lessV b a from rfl, q3, e2, e3]
    rcases e4 with e | e | e <;> rw [e] <;> rfl
  · rw [show comparedV 11 a b = notV (lessV a b) from rfl, q2, e1]
    rcases e4 with e | e | e <;> rw [e] <;> rfl
theorem alike_comm' (a b : V) : alikeB a b = alikeB b a := by
  unfold alikeB
  by_cases h : a.k = b.k
  · rw [h]
  · have h' : ¬ b.k = a.k := fun e => h e.symm
    simp [h, h']
theorem cmp_null {k : Int} {a b : V} (h : a.k = 1 ∨ b.k = 1) : comparedV k a b = nullV' := by
  have al : alikeB a b = false := by
    rcases h with h | h
    · exact alike_l h b
    · exact alike_r h a
  have al2 : alikeB b a = false := by rw [alike_comm']; exact al
  have q1 : eqV a b = nullV' := by simp only [eqV, al]; rfl
  have q2 : lessV a b = nullV' := by simp only [lessV, al]; rfl
  have q3 : lessV b a = nullV' := by simp only [lessV, al2]; rfl
  have q4 : notV nullV' = nullV' := rfl
  unfold comparedV
  rw [q1, q2, q3, q4]
  repeat' split
  all_goals rfl
theorem kindsR {k : Int} (h : 1 ≤ kidsN k) : k = 3 ∨ k = 4 ∨ k = 5 ∨ (6 ≤ k ∧ k ≤ 11) ∨ k = 12 ∨ k = 13 ∨ k = 14 ∨ k = 15 ∨ k = 16 ∨ k = 17 ∨ k = 18 := by
  unfold kidsN at h
  repeat' split at h
  all_goals omega
theorem rnull' (w : World) : Calls Tryz.prog 25 #[] w fun e w' => e = .returned nullV'.val ∧ Grow w w' := rnull_any w

set_option maxRecDepth 100000 in
set_option maxHeartbeats 4000000 in
theorem rof_lit (S : Value) (k : Int) (v : V) (c : Int) (Ak : Option Addr) (n cap : Nat) (kid : Nat → E) (w : World) (hk : k = 1) (hv : RV v) :
    Calls Tryz.prog 27 #[(E.mk k v c Ak n cap kid).val, S] w fun en w' => en = .returned (bare v).val ∧ Grow w w' := by
  subst hk
  unfold E.val
  simp only [E.kind, E.v, E.col, E.A, E.n, E.cap]
  go_enter Tryz.func27, Tryz.ntmps27
  go_wp2_with ((go_at_call 50; ((with_reducible refine (rbare_any v hv _).mono ?_); rintro e w' ⟨rfl, hg⟩; obtain ⟨hc, hf, hz⟩ := hg.rules)))
  exact bodyPost_ret (by simp [results, Tryz.results27, go_sem, hc]) rfl ⟨rfl, (by repeat (first | (with_reducible exact Grow.refl _) | (with_reducible assumption) | (with_reducible refine Grow.set ?_ (by first | (simp; done) | (simp; omega)) _) | (with_reducible refine Grow.al ?_ _) | (with_reducible refine Grow.drew ?_) | (with_reducible refine Grow.drewN ?_ _) | (with_reducible refine Grow.trans ?_ (by assumption))))⟩

set_option maxRecDepth 100000 in
set_option maxHeartbeats 4000000 in
theorem rof_col (row : List V) (A : Option Addr) (cr : Nat) (hlen : row.length ≤ 9223372036854775807) (k : Int) (v : V) (c : Int) (Ak : Option Addr) (n cap : Nat) (kid : Nat → E) (w : World) (hrow : VSl w A row) (hk : k = 2) (j : Nat) (hj : c = j) (x : V) (hx : row[j]? = some x) (rx : RV x) :
    Calls Tryz.prog 27 #[(E.mk k v c Ak n cap kid).val, .slice A row.length cr] w fun en w' => en = .returned (bare x).val ∧ Grow w w' := by
  subst hk hj
  have hjl : j < row.length := (List.getElem?_eq_some_iff.1 hx).1
  obtain ⟨ga, oa, rfl, v1, v2, v3⟩ := hrow j x hx
  have hga : ga < w.heap.size := Grow.lt v1
  unfold E.val
  simp only [E.kind, E.v, E.col, E.A, E.n, E.cap]
  clear hx hrow
  go_enter Tryz.func27, Tryz.ntmps27
  go_wp2_with ((go_at_call 50; ((with_reducible refine (rbare_any x rx _).mono ?_); rintro e w' ⟨rfl, hg⟩; obtain ⟨hc, hf, hz⟩ := hg.rules)))
  exact bodyPost_ret (by simp [results, Tryz.results27, go_sem, hc]) rfl ⟨rfl, (by repeat (first | (with_reducible exact Grow.refl _) | (with_reducible assumption) | (with_reducible refine Grow.set ?_ (by first | (simp; done) | (simp; omega)) _) | (with_reducible refine Grow.al ?_ _) | (with_reducible refine Grow.drew ?_) | (with_reducible refine Grow.drewN ?_ _) | (with_reducible refine Grow.trans ?_ (by assumption))))⟩

set_option maxRecDepth 100000 in
set_option maxHeartbeats 40000000 in
theorem rof_kids (row : List V) (A : Option Addr) (cr : Nat) (k : Int) (v : V) (c : Int) (Ak : Option Addr) (n cap : Nat) (kid : Nat → E) (w0 w : World) (hE : EX w0 (.mk k v c Ak n cap kid)) (hg : Grow w0 w) (h1 : 1 ≤ kidsN k) (hn : (n : Int) = kidsN k) (a b d : V) (ra : RV a) (rb : 2 ≤ kidsN k → RV b)
    (K0 : ∀ W, Grow w0 W → Calls Tryz.prog 27 #[(kid 0).val, .slice A row.length cr] W fun en w' => en = .returned a.val ∧ Grow W w')
    (K1 : 2 ≤ kidsN k → ∀ W, Grow w0 W → Calls Tryz.prog 27 #[(kid 1).val, .slice A row.length cr] W fun en w' => en = .returned b.val ∧ Grow W w')
    (K2 : 3 ≤ kidsN k → ∀ W, Grow w0 W → Calls Tryz.prog 27 #[(kid 2).val, .slice A row.length cr] W fun en w' => en = .returned d.val ∧ Grow W w')
    (hab : 6 ≤ k ∧ k ≤ 11 → a.k ≠ 1 → b.k ≠ 1 → a.k = b.k) (R : V) (hR : opV k a b d = R) :
    Calls Tryz.prog 27 #[(E.mk k v c Ak n cap kid).val, .slice A row.length cr] w fun en w' => en = .returned R.val ∧ Grow w w' := by
  have hn0 : 0 < n := by omega
  have hn3 : n ≤ 3 := by have := kidsN_le k; omega
  obtain ⟨gk, ok, hA, hc0, hc1, hc2⟩ : ∃ gk ok, Ak = some ⟨gk, ok, none⟩ ∧ ECells w0 gk ok (kid 0) ∧ (1 < n → ECells w0 gk (ok + 6) (kid 1)) ∧ (2 < n → ECells w0 gk (ok + 12) (kid 2)) := by
    cases hE with
    | mk hn' hc hk hv hi =>
      obtain ⟨gk, ok, h2, h3⟩ := hc 0 hn0
      refine ⟨gk, ok, h2, by simpa using h3, fun h => ?_, fun h => ?_⟩
      · obtain ⟨gk', ok', h4, h5⟩ := hc 1 h
        rw [h2] at h4; cases h4
        simpa using h5
      · obtain ⟨gk', ok', h4, h5⟩ := hc 2 h
        rw [h2] at h4; cases h4
        simpa using h5
  subst hA
  have n1 : (k == 1) = false := by simp; rintro rfl; revert h1; decide
  have n2 : (k == 2) = false := by simp; rintro rfl; revert h1; decide
  have Hn := Lib.hid hn
  have H1 := Lib.hid h1
  have HE := Lib.hid hE
  have HR := Lib.hid hR
  clear hn h1 hE hR
  unfold E.val
  simp only [E.kind, E.v, E.col, E.A, E.n, E.cap]
  go_enter Tryz.func27, Tryz.ntmps27
  obtain ⟨k0, k1, k2, k3, k4, k5⟩ := hc0.grow hg
  have lgk : gk < w.heap.size := Grow.lt k0
  have kk : ∀ o, (w.cell? ⟨gk, o, none⟩).isSome → True := fun _ _ => trivial
  clear kk
  go_upto_region 6 with (go_at_call 27; ((with_reducible refine (K0 _ (hg.trans (by repeat (first | (with_reducible exact Grow.refl _) | (with_reducible assumption) | (with_reducible refine Grow.set ?_ (by first | (simp; done) | (simp; omega)) _) | (with_reducible refine Grow.al ?_ _) | (with_reducible refine Grow.drew ?_) | (with_reducible refine Grow.drewN ?_ _) | (with_reducible refine Grow.trans ?_ (by assumption)))))).mono ?_); rintro en w2 ⟨rfl, hg2⟩))
  refine wp_forget (fun W => Blk W w.heap.size 63 #[.int .i64 k, .int .i64 v.k, .int .i64 v.n, .string v.s, .int .i64 c, .slice (some ⟨gk, ok, none⟩) n cap] ∧ Blk W (w.heap.size + 1) 61 #[.int .i64 0, .int .i64 0, .string es] ∧ Grow w W ∧ Blk W w2.heap.size 61 #[.int .i64 a.k, .int .i64 a.n, .string a.s]) ⟨?f1, ?f2, ?f3, ?f4⟩ ?_
  case f1 => exact Blk.grow (((Blk.new _ _ _).al _).grow hg2) (by repeat (first | (with_reducible exact Grow.refl _) | (with_reducible assumption) | (with_reducible refine Grow.set ?_ (by first | (simp; done) | (simp; omega)) _) | (with_reducible refine Grow.al ?_ _) | (with_reducible refine Grow.drew ?_) | (with_reducible refine Grow.drewN ?_ _) | (with_reducible refine Grow.trans ?_ (by assumption))))
  case f2 => exact Blk.grow ((Blk.new' _ _ _ (by simp)).grow hg2) (by repeat (first | (with_reducible exact Grow.refl _) | (with_reducible assumption) | (with_reducible refine Grow.set ?_ (by first | (simp; done) | (simp; omega)) _) | (with_reducible refine Grow.al ?_ _) | (with_reducible refine Grow.drew ?_) | (with_reducible refine Grow.drewN ?_ _) | (with_reducible refine Grow.trans ?_ (by assumption))))
  case f3 => exact Grow.trans ((by repeat (first | (with_reducible exact Grow.refl _) | (with_reducible assumption) | (with_reducible refine Grow.set ?_ (by first | (simp; done) | (simp; omega)) _) | (with_reducible refine Grow.al ?_ _) | (with_reducible refine Grow.drew ?_) | (with_reducible refine Grow.drewN ?_ _) | (with_reducible refine Grow.trans ?_ (by assumption)))) : Grow w w2) (by repeat (first | (with_reducible exact Grow.refl _) | (with_reducible assumption) | (with_reducible refine Grow.set ?_ (by first | (simp; done) | (simp; omega)) _) | (with_reducible refine Grow.al ?_ _) | (with_reducible refine Grow.drew ?_) | (with_reducible refine Grow.drewN ?_ _) | (with_reducible refine Grow.trans ?_ (by assumption))))
  case f4 => exact Blk.new _ _ _
  have hne0 : w.heap.size ≠ w2.heap.size := by have := hg2.size; simp at this; omega
  have hne1 : w.heap.size + 1 ≠ w2.heap.size := by have := hg2.size; simp at this; omega
  generalize w2.heap.size = ga at *
  clear hg2 k0 k1 k2 k3 k4 k5
  rintro W ⟨B1, B3, G, Ba⟩
  obtain ⟨x1, y1⟩ := B1.rules
  obtain ⟨x3, y3⟩ := B3.rules
  obtain ⟨xa, ya⟩ := Ba.rules
  have l1 := B1.lt
  have l3 := B3.lt
  have la := Ba.lt
  by_cases hk2 : kidsN k = 2 ∧ k ≠ 18
  · obtain ⟨hk2, h18⟩ := hk2
    have n3 : (k == 3) = false := by simp; rintro rfl; revert hk2; decide
    have n16 : (k == 16) = false := by simp; rintro rfl; revert hk2; decide
    have n17 : (k == 17) = false := by simp; rintro rfl; revert hk2; decide
    have n18 : (k == 18) = false := by simpa using h18
    have hn1 : 1 < n := by have := Hn.out; omega
    have kc : k = 4 ∨ k = 5 ∨ (6 ≤ k ∧ k ≤ 11) ∨ k = 12 ∨ k = 13 ∨ k = 14 ∨ k = 15 := by
      have := kindsR H1.out
      have e3 : k ≠ 3 := by simpa using n3
      have e16 : k ≠ 16 := by simpa using n16
      have e17 : k ≠ 17 := by simpa using n17
      omega
    have Kc := Lib.hid kc
    replace rb := rb (by omega)
    replace K1 := K1 (by omega)
    have Hab := Lib.hid hab
    have H18 := Lib.hid h18
    have Hk2 := Lib.hid hk2
    clear K2 hc2 kc hab h18 hk2
    obtain ⟨k0, k1, k2, k3, k4, k5⟩ := (hc1 hn1).grow (hg.trans G)
    have lgk2 : gk < W.heap.size := Grow.lt k0
    go_upto_region 19 with (go_at_call 27; ((with_reducible refine (K1 _ (hg.trans G)).mono ?_); rintro en w2 ⟨rfl, hg2⟩))
    refine wp_forget (fun X => Blk X w.heap.size 63 #[.int .i64 k, .int .i64 v.k, .int .i64 v.n, .string v.s, .int .i64 c, .slice (some ⟨gk, ok, none⟩) n cap] ∧ Blk X (w.heap.size + 1) 61 #[.int .i64 0, .int .i64 0, .string es] ∧ Grow w X ∧ Blk X ga 61 #[.int .i64 a.k, .int .i64 a.n, .string a.s] ∧ Blk X w2.heap.size 61 #[.int .i64 b.k, .int .i64 b.n, .string b.s]) ⟨?f1, ?f2, ?f3, ?f4, ?f5⟩ ?_
    case f1 => exact Blk.grow (B1.grow hg2) (by repeat (first | (with_reducible exact Grow.refl _) | (with_reducible assumption) | (with_reducible refine Grow.set ?_ (by first | (simp; done) | (simp; omega)) _) | (with_reducible refine Grow.al ?_ _) | (with_reducible refine Grow.drew ?_) | (with_reducible refine Grow.drewN ?_ _) | (with_reducible refine Grow.trans ?_ (by assumption))))
    case f2 => exact Blk.grow (B3.grow hg2) (by repeat (first | (with_reducible exact Grow.refl _) | (with_reducible assumption) | (with_reducible refine Grow.set ?_ (by first | (simp; done) | (simp; omega)) _) | (with_reducible refine Grow.al ?_ _) | (with_reducible refine Grow.drew ?_) | (with_reducible refine Grow.drewN ?_ _) | (with_reducible refine Grow.trans ?_ (by assumption))))
    case f3 => exact Grow.trans (G.trans hg2) (by repeat (first | (with_reducible exact Grow.refl _) | (with_reducible assumption) | (with_reducible refine Grow.set ?_ (by first | (simp; done) | (simp; omega)) _) | (with_reducible refine Grow.al ?_ _) | (with_reducible refine Grow.drew ?_) | (with_reducible refine Grow.drewN ?_ _) | (with_reducible refine Grow.trans ?_ (by assumption))))
    case f4 => exact Blk.grow (Ba.grow hg2) (by repeat (first | (with_reducible exact Grow.refl _) | (with_reducible assumption) | (with_reducible refine Grow.set ?_ (by first | (simp; done) | (simp; omega)) _) | (with_reducible refine Grow.al ?_ _) | (with_reducible refine Grow.drew ?_) | (with_reducible refine Grow.drewN ?_ _) | (with_reducible refine Grow.trans ?_ (by assumption))))
    case f5 => exact Blk.new _ _ _
    generalize w2.heap.size = gb at *
    clear hg2 k0 k1 k2 k3 k4 k5 x1 y1 x3 y3 xa ya l1 l3 la B1 B3 Ba G lgk2
    rintro X ⟨B1, B3, G, Ba, Bb⟩
    obtain ⟨x1, y1⟩ := B1.rules
    obtain ⟨x3, y3⟩ := B3.rules
    obtain ⟨xa, ya⟩ := Ba.rules
    obtain ⟨xb, yb⟩ := Bb.rules
    by_cases hz1 : a.k = 1
    · have hz : a.k = 1 ∨ b.k = 1 := .inl hz1
      have z1 : (a.k != 1) = false := by simpa using hz1
      clear hz1
      go_upto_region 21 with (go_at_call 49; ((with_reducible refine (order_any a b _).mono ?_); rintro en w3 ⟨rfl, hg3⟩))
      replace B1 := B1.grow hg3
      replace B3 := B3.grow hg3
      replace Ba := Ba.grow hg3
      replace Bb := Bb.grow hg3
      replace G := G.trans hg3
      clear x1 y1 x3 y3 xa ya xb yb hg3
      obtain ⟨x1, y1⟩ := B1.rules
      obtain ⟨x3, y3⟩ := B3.rules
      obtain ⟨xa, ya⟩ := Ba.rules
      obtain ⟨xb, yb⟩ := Bb.rules
      have l3 := B3.lt
      have l1 := B1.lt
      rcases Kc.out with hk | hk | hk | hk | hk | hk | hk
      · subst hk
        have hRR : R = andV a b := HR.out.symm.trans (rfl)
        subst hRR
        go_wp2_with ((go_at_call 57; ((with_reducible refine (rand_any a b ra rb _).mono ?_); rintro en w4 ⟨rfl, hg4⟩; obtain ⟨x3, y3⟩ := (B3.grow hg4).rules)))
        exact bodyPost_ret (by simp [results, Tryz.results27, go_sem, x3]) rfl ⟨rfl, (by repeat (first | (with_reducible exact Grow.refl _) | (with_reducible assumption) | (with_reducible refine Grow.set ?_ (by first | (simp; done) | (simp; omega)) _) | (with_reducible refine Grow.al ?_ _) | (with_reducible refine Grow.drew ?_) | (with_reducible refine Grow.drewN ?_ _) | (with_reducible refine Grow.trans ?_ (by assumption))))⟩
      · subst hk
        have hRR : R = orV a b := HR.out.symm.trans (rfl)
        subst hRR
        go_wp2_with ((go_at_call 58; ((with_reducible refine (ror_any a b ra rb _).mono ?_); rintro en w4 ⟨rfl, hg4⟩; obtain ⟨x3, y3⟩ := (B3.grow hg4).rules)))
        exact bodyPost_ret (by simp [results, Tryz.results27, go_sem, x3]) rfl ⟨rfl, (by repeat (first | (with_reducible exact Grow.refl _) | (with_reducible assumption) | (with_reducible refine Grow.set ?_ (by first | (simp; done) | (simp; omega)) _) | (with_reducible refine Grow.al ?_ _) | (with_reducible refine Grow.drew ?_) | (with_reducible refine Grow.drewN ?_ _) | (with_reducible refine Grow.trans ?_ (by assumption))))⟩
      · have ek : opV k a b d = comparedV k a b := op_cmp hk a b d
        have m4 : (k == 4) = false := by simp; omega
        have m5 : (k == 5) = false := by simp; omega
        have m12 : (k == 12) = false := by simp; omega
        have m13 : (k == 13) = false := by simp; omega
        have m14 : (k == 14) = false := by simp; omega
        have m15 : (k == 15) = false := by simp; omega
        have hRR : R = nullV' := HR.out.symm.trans (ek.trans (cmp_null hz))
        subst hRR
        clear hz
        go_wp2_with ((go_at_call 25; ((with_reducible refine (rnull' _).mono ?_); rintro en w4 ⟨rfl, hg4⟩; obtain ⟨x3, y3⟩ := (B3.grow hg4).rules)))
        exact bodyPost_ret (by simp [results, Tryz.results27, go_sem, x3]) rfl ⟨rfl, (by repeat (first | (with_reducible exact Grow.refl _) | (with_reducible assumption) | (with_reducible refine Grow.set ?_ (by first | (simp; done) | (simp; omega)) _) | (with_reducible refine Grow.al ?_ _) | (with_reducible refine Grow.drew ?_) | (with_reducible refine Grow.drewN ?_ _) | (with_reducible refine Grow.trans ?_ (by assumption))))⟩
      · subst hk
        have hRR : R = reckonV 43 a b := HR.out.symm.trans (rfl)
        subst hRR
        go_wp2_with ((go_at_call 59; ((with_reducible refine (rreckon_any 43 a b ra rb _).mono ?_); rintro en w4 ⟨rfl, hg4⟩; obtain ⟨x3, y3⟩ := (B3.grow hg4).rules)))
        exact bodyPost_ret (by simp [results, Tryz.results27, go_sem, x3]) rfl ⟨rfl, (by repeat (first | (with_reducible exact Grow.refl _) | (with_reducible assumption) | (with_reducible refine Grow.set ?_ (by first | (simp; done) | (simp; omega)) _) | (with_reducible refine Grow.al ?_ _) | (with_reducible refine Grow.drew ?_) | (with_reducible refine Grow.drewN ?_ _) | (with_reducible refine Grow.trans ?_ (by assumption))))⟩
      · subst hk
        have hRR : R = reckonV 45 a b := HR.out.symm.trans (rfl)
        subst hRR
        go_wp2_with ((go_at_call 59; ((with_reducible refine (rreckon_any 45 a b ra rb _).mono ?_); rintro en w4 ⟨rfl, hg4⟩; obtain ⟨x3, y3⟩ := (B3.grow hg4).rules)))
        exact bodyPost_ret (by simp [results, Tryz.results27, go_sem, x3]) rfl ⟨rfl, (by repeat (first | (with_reducible exact Grow.refl _) | (with_reducible assumption) | (with_reducible refine Grow.set ?_ (by first | (simp; done) | (simp; omega)) _) | (with_reducible refine Grow.al ?_ _) | (with_reducible refine Grow.drew ?_) | (with_reducible refine Grow.drewN ?_ _) | (with_reducible refine Grow.trans ?_ (by assumption))))⟩
      · subst hk
        have hRR : R = reckonV 42 a b := HR.out.symm.trans (rfl)
        subst hRR
        go_wp2_with ((go_at_call 59; ((with_reducible refine (rreckon_any 42 a b ra rb _).mono ?_); rintro en w4 ⟨rfl, hg4⟩; obtain ⟨x3, y3⟩ := (B3.grow hg4).rules)))
        exact bodyPost_ret (by simp [results, Tryz.results27, go_sem, x3]) rfl ⟨rfl, (by repeat (first | (with_reducible exact Grow.refl _) | (with_reducible assumption) | (with_reducible refine Grow.set ?_ (by first | (simp; done) | (simp; omega)) _) | (with_reducible refine Grow.al ?_ _) | (with_reducible refine Grow.drew ?_) | (with_reducible refine Grow.drewN ?_ _) | (with_reducible refine Grow.trans ?_ (by assumption))))⟩
      · subst hk
        have hRR : R = joinV a b := HR.out.symm.trans (rfl)
        subst hRR
        go_wp2_with ((go_at_call 60; ((with_reducible refine (rjoin_any a b ra rb _).mono ?_); rintro en w4 ⟨rfl, hg4⟩; obtain ⟨x3, y3⟩ := (B3.grow hg4).rules)))
        exact bodyPost_ret (by simp [results, Tryz.results27, go_sem, x3]) rfl ⟨rfl, (by repeat (first | (with_reducible exact Grow.refl _) | (with_reducible assumption) | (with_reducible refine Grow.set ?_ (by first | (simp; done) | (simp; omega)) _) | (with_reducible refine Grow.al ?_ _) | (with_reducible refine Grow.drew ?_) | (with_reducible refine Grow.drewN ?_ _) | (with_reducible refine Grow.trans ?_ (by assumption))))⟩
    · have z1 : (a.k != 1) = true := by simpa using hz1
      by_cases hz2 : b.k = 1
      · have hz : a.k = 1 ∨ b.k = 1 := .inr hz2
        have z2 : (b.k != 1) = false := by simpa using hz2
        clear hz1 hz2
        go_upto_region 21 with (go_at_call 49; ((with_reducible refine (order_any a b _).mono ?_); rintro en w3 ⟨rfl, hg3⟩))
        replace B1 := B1.grow hg3
        replace B3 := B3.grow hg3
        replace Ba := Ba.grow hg3
        replace Bb := Bb.grow hg3
        replace G := G.trans hg3
        clear x1 y1 x3 y3 xa ya xb yb hg3
        obtain ⟨x1, y1⟩ := B1.rules
        obtain ⟨x3, y3⟩ := B3.rules
        obtain ⟨xa, ya⟩ := Ba.rules
        obtain ⟨xb, yb⟩ := Bb.rules
        have l3 := B3.lt
        have l1 := B1.lt
        rcases Kc.out with hk | hk | hk | hk | hk | hk | hk
        · subst hk
          have hRR : R = andV a b := HR.out.symm.trans (rfl)
          subst hRR
          go_wp2_with ((go_at_call 57; ((with_reducible refine (rand_any a b ra rb _).mono ?_); rintro en w4 ⟨rfl, hg4⟩; obtain ⟨x3, y3⟩ := (B3.grow hg4).rules)))
          exact bodyPost_ret (by simp [results, Tryz.results27, go_sem, x3]) rfl ⟨rfl, (by repeat (first | (with_reducible exact Grow.refl _) | (with_reducible assumption) | (with_reducible refine Grow.set ?_ (by first | (simp; done) | (simp; omega)) _) | (with_reducible refine Grow.al ?_ _) | (with_reducible refine Grow.drew ?_) | (with_reducible refine Grow.drewN ?_ _) | (with_reducible refine Grow.trans ?_ (by assumption))))⟩
        · subst hk
          have hRR : R = orV a b := HR.out.symm.trans (rfl)
          subst hRR
          go_wp2_with ((go_at_call 58; ((with_reducible refine (ror_any a b ra rb _).mono ?_); rintro en w4 ⟨rfl, hg4⟩; obtain ⟨x3, y3⟩ := (B3.grow hg4).rules)))
          exact bodyPost_ret (by simp [results, Tryz.results27, go_sem, x3]) rfl ⟨rfl, (by repeat (first | (with_reducible exact Grow.refl _) | (with_reducible assumption) | (with_reducible refine Grow.set ?_ (by first | (simp; done) | (simp; omega)) _) | (with_reducible refine Grow.al ?_ _) | (with_reducible refine Grow.drew ?_) | (with_reducible refine Grow.drewN ?_ _) | (with_reducible refine Grow.trans ?_ (by assumption))))⟩
        · have ek : opV k a b d = comparedV k a b := op_cmp hk a b d
          have m4 : (k == 4) = false := by simp; omega
          have m5 : (k == 5) = false := by simp; omega
          have m12 : (k == 12) = false := by simp; omega
          have m13 : (k == 13) = false := by simp; omega
          have m14 : (k == 14) = false := by simp; omega
          have m15 : (k == 15) = false := by simp; omega
          have hRR : R = nullV' := HR.out.symm.trans (ek.trans (cmp_null hz))
          subst hRR
          clear hz
          go_wp2_with ((go_at_call 25; ((with_reducible refine (rnull' _).mono ?_); rintro en w4 ⟨rfl, hg4⟩; obtain ⟨x3, y3⟩ := (B3.grow hg4).rules)))
          exact bodyPost_ret (by simp [results, Tryz.results27, go_sem, x3]) rfl ⟨rfl, (by repeat (first | (with_reducible exact Grow.refl _) | (with_reducible assumption) | (with_reducible refine Grow.set ?_ (by first | (simp; done) | (simp; omega)) _) | (with_reducible refine Grow.al ?_ _) | (with_reducible refine Grow.drew ?_) | (with_reducible refine Grow.drewN ?_ _) | (with_reducible refine Grow.trans ?_ (by assumption))))⟩
        · subst hk
          have hRR : R = reckonV 43 a b := HR.out.symm.trans (rfl)
          subst hRR
          go_wp2_with ((go_at_call 59; ((with_reducible refine (rreckon_any 43 a b ra rb _).mono ?_); rintro en w4 ⟨rfl, hg4⟩; obtain ⟨x3, y3⟩ := (B3.grow hg4).rules)))
          exact bodyPost_ret (by simp [results, Tryz.results27, go_sem, x3]) rfl ⟨rfl, (by repeat (first | (with_reducible exact Grow.refl _) | (with_reducible assumption) | (with_reducible refine Grow.set ?_ (by first | (simp; done) | (simp; omega)) _) | (with_reducible refine Grow.al ?_ _) | (with_reducible refine Grow.drew ?_) | (with_reducible refine Grow.drewN ?_ _) | (with_reducible refine Grow.trans ?_ (by assumption))))⟩
        · subst hk
          have hRR : R = reckonV 45 a b := HR.out.symm.trans (rfl)
          subst hRR
          go_wp2_with ((go_at_call 59; ((with_reducible refine (rreckon_any 45 a b ra rb _).mono ?_); rintro en w4 ⟨rfl, hg4⟩; obtain ⟨x3, y3⟩ := (B3.grow hg4).rules)))
          exact bodyPost_ret (by simp [results, Tryz.results27, go_sem, x3]) rfl ⟨rfl, (by repeat (first | (with_reducible exact Grow.refl _) | (with_reducible assumption) | (with_reducible refine Grow.set ?_ (by first | (simp; done) | (simp; omega)) _) | (with_reducible refine Grow.al ?_ _) | (with_reducible refine Grow.drew ?_) | (with_reducible refine Grow.drewN ?_ _) | (with_reducible refine Grow.trans ?_ (by assumption))))⟩
        · subst hk
          have hRR : R = reckonV 42 a b := HR.out.symm.trans (rfl)
          subst hRR
          go_wp2_with ((go_at_call 59; ((with_reducible refine (rreckon_any 42 a b ra rb _).mono ?_); rintro en w4 ⟨rfl, hg4⟩; obtain ⟨x3, y3⟩ := (B3.grow hg4).rules)))
          exact bodyPost_ret (by simp [results, Tryz.results27, go_sem, x3]) rfl ⟨rfl, (by repeat (first | (with_reducible exact Grow.refl _) | (with_reducible assumption) | (with_reducible refine Grow.set ?_ (by first | (simp; done) | (simp; omega)) _) | (with_reducible refine Grow.al ?_ _) | (with_reducible refine Grow.drew ?_) | (with_reducible refine Grow.drewN ?_ _) | (with_reducible refine Grow.trans ?_ (by assumption))))⟩
        · subst hk
          have hRR : R = joinV a b := HR.out.symm.trans (rfl)
          subst hRR
          go_wp2_with ((go_at_call 60; ((with_reducible refine (rjoin_any a b ra rb _).mono ?_); rintro en w4 ⟨rfl, hg4⟩; obtain ⟨x3, y3⟩ := (B3.grow hg4).rules)))
          exact bodyPost_ret (by simp [results, Tryz.results27, go_sem, x3]) rfl ⟨rfl, (by repeat (first | (with_reducible exact Grow.refl _) | (with_reducible assumption) | (with_reducible refine Grow.set ?_ (by first | (simp; done) | (simp; omega)) _) | (with_reducible refine Grow.al ?_ _) | (with_reducible refine Grow.drew ?_) | (with_reducible refine Grow.drewN ?_ _) | (with_reducible refine Grow.trans ?_ (by assumption))))⟩
      · have z2 : (b.k != 1) = true := by simpa using hz2
        go_upto_region 21 with (go_at_call 49; ((with_reducible refine (order_any a b _).mono ?_); rintro en w3 ⟨rfl, hg3⟩))
        replace B1 := B1.grow hg3
        replace B3 := B3.grow hg3
        replace Ba := Ba.grow hg3
        replace Bb := Bb.grow hg3
        replace G := G.trans hg3
        clear x1 y1 x3 y3 xa ya xb yb hg3
        obtain ⟨x1, y1⟩ := B1.rules
        obtain ⟨x3, y3⟩ := B3.rules
        obtain ⟨xa, ya⟩ := Ba.rules
        obtain ⟨xb, yb⟩ := Bb.rules
        have l3 := B3.lt
        have l1 := B1.lt
        rcases Kc.out with hk | hk | hk | hk | hk | hk | hk
        · subst hk
          have hRR : R = andV a b := HR.out.symm.trans (rfl)
          subst hRR
          go_wp2_with ((go_at_call 57; ((with_reducible refine (rand_any a b ra rb _).mono ?_); rintro en w4 ⟨rfl, hg4⟩; obtain ⟨x3, y3⟩ := (B3.grow hg4).rules)))
          exact bodyPost_ret (by simp [results, Tryz.results27, go_sem, x3]) rfl ⟨rfl, (by repeat (first | (with_reducible exact Grow.refl _) | (with_reducible assumption) | (with_reducible refine Grow.set ?_ (by first | (simp; done) | (simp; omega)) _) | (with_reducible refine Grow.al ?_ _) | (with_reducible refine Grow.drew ?_) | (with_reducible refine Grow.drewN ?_ _) | (with_reducible refine Grow.trans ?_ (by assumption))))⟩
        · subst hk
          have hRR : R = orV a b := HR.out.symm.trans (rfl)
          subst hRR
          go_wp2_with ((go_at_call 58; ((with_reducible refine (ror_any a b ra rb _).mono ?_); rintro en w4 ⟨rfl, hg4⟩; obtain ⟨x3, y3⟩ := (B3.grow hg4).rules)))
          exact bodyPost_ret (by simp [results, Tryz.results27, go_sem, x3]) rfl ⟨rfl, (by repeat (first | (with_reducible exact Grow.refl _) | (with_reducible assumption) | (with_reducible refine Grow.set ?_ (by first | (simp; done) | (simp; omega)) _) | (with_reducible refine Grow.al ?_ _) | (with_reducible refine Grow.drew ?_) | (with_reducible refine Grow.drewN ?_ _) | (with_reducible refine Grow.trans ?_ (by assumption))))⟩
        · have ek : opV k a b d = comparedV k a b := op_cmp hk a b d
          have m4 : (k == 4) = false := by simp; omega
          have m5 : (k == 5) = false := by simp; omega
          have m12 : (k == 12) = false := by simp; omega
          have m13 : (k == 13) = false := by simp; omega
          have m14 : (k == 14) = false := by simp; omega
          have m15 : (k == 15) = false := by simp; omega
          obtain ⟨q1, q2, q3, q4, q5, q6⟩ := cmp_known ra rb (Hab.out hk hz1 hz2) hz1
          have hk' : k = 6 ∨ k = 7 ∨ k = 8 ∨ k = 9 ∨ k = 10 ∨ k = 11 := by omega
          clear hk Hab hz1 hz2
          rcases hk' with hk | hk | hk | hk | hk | hk
          · subst hk
            have hRR : R = truth (ordV a b == 0) := HR.out.symm.trans (ek.trans q1)
            subst hRR
            clear q1 q2 q3 q4 q5 q6 ek
            go_wp2_with ((go_at_call 56; ((with_reducible refine (truth_any _ _).mono ?_); rintro en w4 ⟨rfl, hg4⟩; obtain ⟨x3, y3⟩ := ((B3.al _).grow hg4).rules)))
            exact bodyPost_ret (by simp [results, Tryz.results27, go_sem, x3]) rfl ⟨rfl, (by repeat (first | (with_reducible exact Grow.refl _) | (with_reducible assumption) | (with_reducible refine Grow.set ?_ (by first | (simp; done) | (simp; omega)) _) | (with_reducible refine Grow.al ?_ _) | (with_reducible refine Grow.drew ?_) | (with_reducible refine Grow.drewN ?_ _) | (with_reducible refine Grow.trans ?_ (by assumption))))⟩
          · subst hk
            have hRR : R = truth (ordV a b != 0) := HR.out.symm.trans (ek.trans q2)
            subst hRR
            clear q1 q2 q3 q4 q5 q6 ek
            go_wp2_with ((go_at_call 56; ((with_reducible refine (truth_any _ _).mono ?_); rintro en w4 ⟨rfl, hg4⟩; obtain ⟨x3, y3⟩ := ((B3.al _).grow hg4).rules)))
            exact bodyPost_ret (by simp [results, Tryz.results27, go_sem, x3]) rfl ⟨rfl, (by repeat (first | (with_reducible exact Grow.refl _) | (with_reducible assumption) | (with_reducible refine Grow.set ?_ (by first | (simp; done) | (simp; omega)) _) | (with_reducible refine Grow.al ?_ _) | (with_reducible refine Grow.drew ?_) | (with_reducible refine Grow.drewN ?_ _) | (with_reducible refine Grow.trans ?_ (by assumption))))⟩
          · subst hk
            have hRR : R = truth (decide (ordV a b < 0)) := HR.out.symm.trans (ek.trans q3)
            subst hRR
            clear q1 q2 q3 q4 q5 q6 ek
            go_wp2_with ((go_at_call 56; ((with_reducible refine (truth_any _ _).mono ?_); rintro en w4 ⟨rfl, hg4⟩; obtain ⟨x3, y3⟩ := ((B3.al _).grow hg4).rules)))
            exact bodyPost_ret (by simp [results, Tryz.results27, go_sem, x3]) rfl ⟨rfl, (by repeat (first | (with_reducible exact Grow.refl _) | (with_reducible assumption) | (with_reducible refine Grow.set ?_ (by first | (simp; done) | (simp; omega)) _) | (with_reducible refine Grow.al ?_ _) | (with_reducible refine Grow.drew ?_) | (with_reducible refine Grow.drewN ?_ _) | (with_reducible refine Grow.trans ?_ (by assumption))))⟩
          · subst hk
            have hRR : R = truth (decide (ordV a b ≤ 0)) := HR.out.symm.trans (ek.trans q4)
            subst hRR
            clear q1 q2 q3 q4 q5 q6 ek
            go_wp2_with ((go_at_call 56; ((with_reducible refine (truth_any _ _).mono ?_); rintro en w4 ⟨rfl, hg4⟩; obtain ⟨x3, y3⟩ := ((B3.al _).grow hg4).rules)))
            exact bodyPost_ret (by simp [results, Tryz.results27, go_sem, x3]) rfl ⟨rfl, (by repeat (first | (with_reducible exact Grow.refl _) | (with_reducible assumption) | (with_reducible refine Grow.set ?_ (by first | (simp; done) | (simp; omega)) _) | (with_reducible refine Grow.al ?_ _) | (with_reducible refine Grow.drew ?_) | (with_reducible refine Grow.drewN ?_ _) | (with_reducible refine Grow.trans ?_ (by assumption))))⟩
          · subst hk
            have hRR : R = truth (decide (0 < ordV a b)) := HR.out.symm.trans (ek.trans q5)
            subst hRR
            clear q1 q2 q3 q4 q5 q6 ek
            go_wp2_with ((go_at_call 56; ((with_reducible refine (truth_any _ _).mono ?_); rintro en w4 ⟨rfl, hg4⟩; obtain ⟨x3, y3⟩ := ((B3.al _).grow hg4).rules)))
            exact bodyPost_ret (by simp [results, Tryz.results27, go_sem, x3]) rfl ⟨rfl, (by repeat (first | (with_reducible exact Grow.refl _) | (with_reducible assumption) | (with_reducible refine Grow.set ?_ (by first | (simp; done) | (simp; omega)) _) | (with_reducible refine Grow.al ?_ _) | (with_reducible refine Grow.drew ?_) | (with_reducible refine Grow.drewN ?_ _) | (with_reducible refine Grow.trans ?_ (by assumption))))⟩
          · subst hk
            have hRR : R = truth (decide (0 ≤ ordV a b)) := HR.out.symm.trans (ek.trans q6)
            subst hRR
            clear q1 q2 q3 q4 q5 q6 ek
            go_wp2_with ((go_at_call 56; ((with_reducible refine (truth_any _ _).mono ?_); rintro en w4 ⟨rfl, hg4⟩; obtain ⟨x3, y3⟩ := ((B3.al _).grow hg4).rules)))
            exact bodyPost_ret (by simp [results, Tryz.results27, go_sem, x3]) rfl ⟨rfl, (by repeat (first | (with_reducible exact Grow.refl _) | (with_reducible assumption) | (with_reducible refine Grow.set ?_ (by first | (simp; done) | (simp; omega)) _) | (with_reducible refine Grow.al ?_ _) | (with_reducible refine Grow.drew ?_) | (with_reducible refine Grow.drewN ?_ _) | (with_reducible refine Grow.trans ?_ (by assumption))))⟩
        · subst hk
          have hRR : R = reckonV 43 a b := HR.out.symm.trans (rfl)
          subst hRR
          go_wp2_with ((go_at_call 59; ((with_reducible refine (rreckon_any 43 a b ra rb _).mono ?_); rintro en w4 ⟨rfl, hg4⟩; obtain ⟨x3, y3⟩ := (B3.grow hg4).rules)))
          exact bodyPost_ret (by simp [results, Tryz.results27, go_sem, x3]) rfl ⟨rfl, (by repeat (first | (with_reducible exact Grow.refl _) | (with_reducible assumption) | (with_reducible refine Grow.set ?_ (by first | (simp; done) | (simp; omega)) _) | (with_reducible refine Grow.al ?_ _) | (with_reducible refine Grow.drew ?_) | (with_reducible refine Grow.drewN ?_ _) | (with_reducible refine Grow.trans ?_ (by assumption))))⟩
        · subst hk
          have hRR : R = reckonV 45 a b := HR.out.symm.trans (rfl)
          subst hRR
          go_wp2_with ((go_at_call 59; ((with_reducible refine (rreckon_any 45 a b ra rb _).mono ?_); rintro en w4 ⟨rfl, hg4⟩; obtain ⟨x3, y3⟩ := (B3.grow hg4).rules)))
          exact bodyPost_ret (by simp [results, Tryz.results27, go_sem, x3]) rfl ⟨rfl, (by repeat (first | (with_reducible exact Grow.refl _) | (with_reducible assumption) | (with_reducible refine Grow.set ?_ (by first | (simp; done) | (simp; omega)) _) | (with_reducible refine Grow.al ?_ _) | (with_reducible refine Grow.drew ?_) | (with_reducible refine Grow.drewN ?_ _) | (with_reducible refine Grow.trans ?_ (by assumption))))⟩
        · subst hk
          have hRR : R = reckonV 42 a b := HR.out.symm.trans (rfl)
          subst hRR
          go_wp2_with ((go_at_call 59; ((with_reducible refine (rreckon_any 42 a b ra rb _).mono ?_); rintro en w4 ⟨rfl, hg4⟩; obtain ⟨x3, y3⟩ := (B3.grow hg4).rules)))
          exact bodyPost_ret (by simp [results, Tryz.results27, go_sem, x3]) rfl ⟨rfl, (by repeat (first | (with_reducible exact Grow.refl _) | (with_reducible assumption) | (with_reducible refine Grow.set ?_ (by first | (simp; done) | (simp; omega)) _) | (with_reducible refine Grow.al ?_ _) | (with_reducible refine Grow.drew ?_) | (with_reducible refine Grow.drewN ?_ _) | (with_reducible refine Grow.trans ?_ (by assumption))))⟩
        · subst hk
          have hRR : R = joinV a b := HR.out.symm.trans (rfl)
          subst hRR
          go_wp2_with ((go_at_call 60; ((with_reducible refine (rjoin_any a b ra rb _).mono ?_); rintro en w4 ⟨rfl, hg4⟩; obtain ⟨x3, y3⟩ := (B3.grow hg4).rules)))
          exact bodyPost_ret (by simp [results, Tryz.results27, go_sem, x3]) rfl ⟨rfl, (by repeat (first | (with_reducible exact Grow.refl _) | (with_reducible assumption) | (with_reducible refine Grow.set ?_ (by first | (simp; done) | (simp; omega)) _) | (with_reducible refine Grow.al ?_ _) | (with_reducible refine Grow.drew ?_) | (with_reducible refine Grow.drewN ?_ _) | (with_reducible refine Grow.trans ?_ (by assumption))))⟩
  · have kc : k = 3 ∨ k = 16 ∨ k = 17 ∨ k = 18 := by
      have h := kindsR H1.out
      have e : ∀ q, (4 ≤ q ∧ q ≤ 15) → kidsN q = 2 := fun q hq => by
        unfold kidsN
        rw [if_neg (by omega), if_neg (by omega), if_pos (by omega)]
      by_cases hq : 4 ≤ k ∧ k ≤ 15
      · exact absurd ⟨e k hq, by omega⟩ hk2
      · omega
    clear hk2
    have arm : True := trivial
    rcases kc with hk | hk | hk | hk
    · subst hk
      have hRR : R = notV a := HR.out.symm.trans (rfl)
      subst hRR
      go_wp2_with ((go_at_call 55; ((with_reducible refine (rnot_any a ra _).mono ?_); rintro en w4 ⟨rfl, hg4⟩; obtain ⟨x3, y3⟩ := (B3.grow hg4).rules)))
      exact bodyPost_ret (by simp [results, Tryz.results27, go_sem, x3]) rfl ⟨rfl, (by repeat (first | (with_reducible exact Grow.refl _) | (with_reducible assumption) | (with_reducible refine Grow.set ?_ (by first | (simp; done) | (simp; omega)) _) | (with_reducible refine Grow.al ?_ _) | (with_reducible refine Grow.drew ?_) | (with_reducible refine Grow.drewN ?_ _) | (with_reducible refine Grow.trans ?_ (by assumption))))⟩
    · subst hk
      have hRR : R = truth (a.k == 1) := HR.out.symm.trans (rfl)
      subst hRR
      go_wp2_with ((go_at_call 56; ((with_reducible refine (truth_any _ _).mono ?_); rintro en w4 ⟨rfl, hg4⟩; obtain ⟨x3, y3⟩ := (B3.grow hg4).rules)))
      exact bodyPost_ret (by simp [results, Tryz.results27, go_sem, x3]) rfl ⟨rfl, (by repeat (first | (with_reducible exact Grow.refl _) | (with_reducible assumption) | (with_reducible refine Grow.set ?_ (by first | (simp; done) | (simp; omega)) _) | (with_reducible refine Grow.al ?_ _) | (with_reducible refine Grow.drew ?_) | (with_reducible refine Grow.drewN ?_ _) | (with_reducible refine Grow.trans ?_ (by assumption))))⟩
    · subst hk
      have hn17 : n = 3 := by have := Hn.out; have e : kidsN 17 = 3 := rfl; omega
      replace K1 := K1 (by decide)
      replace K2 := K2 (by decide)
      replace hc1 := hc1 (by omega)
      replace hc2 := hc2 (by omega)
      subst hn17
      have hRR : (if rankV a = 2 then b else d) = R := HR.out
      have hi := rank_cases a ra
      by_cases h2 : rankV a = 2
      · rw [if_pos h2] at hRR
        subst hRR
        have hs : isB a true = true := by rcases hi with ⟨r1, _, r2⟩ | ⟨r1, _, r2⟩ | ⟨r1, _, r2⟩ <;> first | exact r2 | (exfalso; omega)
        have ct := fun X => is_any a true X
        rw [hs] at ct
        clear hi h2 hs
        go_upto_region 8 with (go_at_call 54; ((with_reducible refine (ct _).mono ?_); rintro en w4 ⟨rfl, hg4⟩))
        replace B1 := B1.grow hg4
        replace B3 := B3.grow hg4
        replace G := G.trans hg4
        clear x1 y1 x3 y3 xa ya hg4 l1 l3 la
        obtain ⟨x1, y1⟩ := B1.rules
        obtain ⟨x3, y3⟩ := B3.rules
        have l3 := B3.lt
        obtain ⟨k0, k1, k2, k3, k4, k5⟩ := hc1.grow (hg.trans G)
        go_wp2_with ((go_at_call 27; ((with_reducible refine (K1 _ (hg.trans G)).mono ?_); rintro en w5 ⟨rfl, hg5⟩; obtain ⟨x3, y3⟩ := (B3.grow hg5).rules)))
        exact bodyPost_ret (by simp [results, Tryz.results27, go_sem, x3]) rfl ⟨rfl, (by repeat (first | (with_reducible exact Grow.refl _) | (with_reducible assumption) | (with_reducible refine Grow.set ?_ (by first | (simp; done) | (simp; omega)) _) | (with_reducible refine Grow.al ?_ _) | (with_reducible refine Grow.drew ?_) | (with_reducible refine Grow.drewN ?_ _) | (with_reducible refine Grow.trans ?_ (by assumption))))⟩
      · rw [if_neg h2] at hRR
        subst hRR
        have hs : isB a true = false := by rcases hi with ⟨r1, _, r2⟩ | ⟨r1, _, r2⟩ | ⟨r1, _, r2⟩ <;> first | exact r2 | (exfalso; omega)
        have ct := fun X => is_any a true X
        rw [hs] at ct
        clear hi h2 hs
        go_upto_region 9 with (go_at_call 54; ((with_reducible refine (ct _).mono ?_); rintro en w4 ⟨rfl, hg4⟩))
        replace B1 := B1.grow hg4
        replace B3 := B3.grow hg4
        replace G := G.trans hg4
        clear x1 y1 x3 y3 xa ya hg4 l1 l3 la
        obtain ⟨x1, y1⟩ := B1.rules
        obtain ⟨x3, y3⟩ := B3.rules
        have l3 := B3.lt
        obtain ⟨k0, k1, k2, k3, k4, k5⟩ := hc2.grow (hg.trans G)
        go_wp2_with ((go_at_call 27; ((with_reducible refine (K2 _ (hg.trans G)).mono ?_); rintro en w5 ⟨rfl, hg5⟩; obtain ⟨x3, y3⟩ := (B3.grow hg5).rules)))
        exact bodyPost_ret (by simp [results, Tryz.results27, go_sem, x3]) rfl ⟨rfl, (by repeat (first | (with_reducible exact Grow.refl _) | (with_reducible assumption) | (with_reducible refine Grow.set ?_ (by first | (simp; done) | (simp; omega)) _) | (with_reducible refine Grow.al ?_ _) | (with_reducible refine Grow.drew ?_) | (with_reducible refine Grow.drewN ?_ _) | (with_reducible refine Grow.trans ?_ (by assumption))))⟩
    · subst hk
      have hn18 : n = 2 := by have := Hn.out; have e : kidsN 18 = 2 := rfl; omega
      replace K1 := K1 (by decide)
      replace hc1 := hc1 (by omega)
      subst hn18
      have hRR : (if a.k = 1 then b else a) = R := HR.out
      by_cases h2 : a.k = 1
      · rw [if_pos h2] at hRR
        subst hRR
        have z : (a.k != 1) = false := by simpa using h2
        clear h2
        obtain ⟨k0, k1, k2, k3, k4, k5⟩ := hc1.grow (hg.trans G)
        go_wp2_with ((go_at_call 27; ((with_reducible refine (K1 _ (hg.trans G)).mono ?_); rintro en w5 ⟨rfl, hg5⟩; obtain ⟨x3, y3⟩ := (B3.grow hg5).rules)))
        exact bodyPost_ret (by simp [results, Tryz.results27, go_sem, x3]) rfl ⟨rfl, (by repeat (first | (with_reducible exact Grow.refl _) | (with_reducible assumption) | (with_reducible refine Grow.set ?_ (by first | (simp; done) | (simp; omega)) _) | (with_reducible refine Grow.al ?_ _) | (with_reducible refine Grow.drew ?_) | (with_reducible refine Grow.drewN ?_ _) | (with_reducible refine Grow.trans ?_ (by assumption))))⟩
      · rw [if_neg h2] at hRR
        subst hRR
        have z : (a.k != 1) = true := by simpa using h2
        clear h2
        go_wp2
        exact bodyPost_ret (by simp [results, Tryz.results27, go_sem, x3]) rfl ⟨rfl, (by repeat (first | (with_reducible exact Grow.refl _) | (with_reducible assumption) | (with_reducible refine Grow.set ?_ (by first | (simp; done) | (simp; omega)) _) | (with_reducible refine Grow.al ?_ _) | (with_reducible refine Grow.drew ?_) | (with_reducible refine Grow.drewN ?_ _) | (with_reducible refine Grow.trans ?_ (by assumption))))⟩
end Go.Proofs.YtigpbihjjadmlaaGreat
