/-
  The reference's Look.Type: all but the kids.
-/
import Derived.Test.YtjhcbehnopmnpaaEx9
namespace Go.Proofs.Ytjhcbehnopmnpaa
open Go.RowKit Go.Calm
set_option linter.unusedSimpArgs false
set_option linter.unusedVariables false

def RTypC (cols : List Int) (Ac : Option Addr) (cc : Nat) (e : E) : Prop := ∀ (g : Nat) (deep m : Int) (w0 w : World), EX w0 e → ISl w0 Ac cols → Grow w0 w → w0.heap.size ≤ g →
  Blk w g 108 #[.slice Ac cols.length cc, .int .i64 m] → 0 ≤ m → m ≤ 200 → 1 ≤ deep → deep ≤ 21 →
  Calls Try.prog 109 #[.pointer (some ⟨g, 0, none⟩), e.val, .int .i64 deep] w fun en w' =>
    en = .returned (.tuple #[.int .u8 (letE (typE cols e deep m).1 (typE cols e deep m).2.1), .int .i64 (typE cols e deep m).2.1]) ∧ Blk w' g 108 #[.slice Ac cols.length cc, .int .i64 (typE cols e deep m).2.2] ∧ GX g w w'

set_option maxRecDepth 100000 in
set_option maxHeartbeats 4000000 in
theorem rtyp_much (cols : List Int) (Ac : Option Addr) (cc : Nat) (e : E) (g : Nat) (deep m : Int) (w : World) (hb : Blk w g 108 #[.slice Ac cols.length cc, .int .i64 m]) (h0 : 0 ≤ m) (h1 : m ≤ 200) (h : 200 < m + 1 ∨ 20 < deep) :
  Calls Try.prog 109 #[.pointer (some ⟨g, 0, none⟩), e.val, .int .i64 deep] w fun en w' =>
    en = .returned (.tuple #[.int .u8 0, .int .i64 4]) ∧ Blk w' g 108 #[.slice Ac cols.length cc, .int .i64 (m + 1)] ∧ GX g w w' := by
  have hgN := hb.lt
  have hgn : g ≠ w.heap.size := by omega
  obtain ⟨c, f⟩ := hb.rules
  have d : (decide (200 < m + 1) = true) ∨ (decide (200 < m + 1) = false ∧ decide (20 < deep) = true) := by
    simp only [decide_eq_true_eq, decide_eq_false_iff_not]; omega
  clear h
  unfold E.val
  rcases d with d1 | ⟨d1, d2⟩
  · go_enter Try.func109, Try.ntmps109
    go_wp2
    exact bodyPost_ret (by simp [results, Try.results109, go_sem]) rfl ⟨rfl, (hb.set 1 _).al _, ((GX.refl g w).set 1 _).al _⟩
  · go_enter Try.func109, Try.ntmps109
    go_wp2
    exact bodyPost_ret (by simp [results, Try.results109, go_sem]) rfl ⟨rfl, (hb.set 1 _).al _, ((GX.refl g w).set 1 _).al _⟩
set_option maxRecDepth 100000 in
set_option maxHeartbeats 4000000 in
theorem rtyp_form (cols : List Int) (Ac : Option Addr) (cc : Nat) (e : E) (g : Nat) (deep m : Int) (w : World) (hb : Blk w g 108 #[.slice Ac cols.length cc, .int .i64 m]) (h0 : 0 ≤ m) (d1 : decide (200 < m + 1) = false) (d2 : decide (20 < deep) = false) (hn : e.n ≤ maxLen) (h : kidsN e.kind < 0 ∨ ¬ kidsN e.kind < 0 ∧ (e.n : Int) ≠ kidsN e.kind) :
  Calls Try.prog 109 #[.pointer (some ⟨g, 0, none⟩), e.val, .int .i64 deep] w fun en w' =>
    en = .returned (.tuple #[.int .u8 0, .int .i64 (if kidsN e.kind < 0 then 1 else 5)]) ∧ Blk w' g 108 #[.slice Ac cols.length cc, .int .i64 (m + 1)] ∧ GX g w w' := by
  have hgN := hb.lt
  have hgn : g ≠ w.heap.size := by omega
  obtain ⟨c, f⟩ := hb.rules
  have hm : m + 1 ≤ 200 := by simp at d1; omega
  have d : (decide (kidsN e.kind < 0) = true) ∨ (decide (kidsN e.kind < 0) = false ∧ ((e.n : Int) != kidsN e.kind) = true) := by
    simp only [decide_eq_true_eq, decide_eq_false_iff_not, bne_iff_ne]; omega
  clear h
  rcases d with d3 | ⟨d3, d4⟩
  · have e1 : (if kidsN e.kind < 0 then (1 : Int) else 5) = 1 := if_pos (by simpa using d3)
    rw [e1]; clear e1
    unfold E.val
    go_enter Try.func109, Try.ntmps109
    go_wp2_with ((go_at_call 144; ((with_reducible refine (rkids_any _ _).mono ?_); rintro e w' ⟨rfl, hg⟩; obtain ⟨hc, hf, hz⟩ := hg.rules)))
    exact bodyPost_ret (by simp [results, Try.results109, go_sem]) rfl ⟨rfl, ((hb.set 1 _).al _).grow hg, (((GX.refl g w).set 1 _).al _).grow hg⟩
  · have e1 : (if kidsN e.kind < 0 then (1 : Int) else 5) = 5 := if_neg (by simpa using d3)
    rw [e1]; clear e1
    unfold E.val
    go_enter Try.func109, Try.ntmps109
    go_wp2_with ((go_at_call 144; ((with_reducible refine (rkids_any _ _).mono ?_); rintro e w' ⟨rfl, hg⟩; obtain ⟨hc, hf, hz⟩ := hg.rules)))
    exact bodyPost_ret (by simp [results, Try.results109, go_sem]) rfl ⟨rfl, ((hb.set 1 _).al _).grow hg, (((GX.refl g w).set 1 _).al _).grow hg⟩
set_option maxRecDepth 100000 in
set_option maxHeartbeats 4000000 in
theorem rtyp_lit (cols : List Int) (Ac : Option Addr) (cc : Nat) (e : E) (g : Nat) (deep m : Int) (w : World) (hb : Blk w g 108 #[.slice Ac cols.length cc, .int .i64 m]) (h0 : 0 ≤ m) (d1 : decide (200 < m + 1) = false) (d2 : decide (20 < deep) = false) (hk : e.kind = 1) (hn : e.n = 0) :
  Calls Try.prog 109 #[.pointer (some ⟨g, 0, none⟩), e.val, .int .i64 deep] w fun en w' =>
    en = .returned (.tuple #[.int .u8 (letE e.v.k (wrongV e.v)), .int .i64 (wrongV e.v)]) ∧ Blk w' g 108 #[.slice Ac cols.length cc, .int .i64 (m + 1)] ∧ GX g w w' := by
  have hgN := hb.lt
  have hgn : g ≠ w.heap.size := by omega
  obtain ⟨c, f⟩ := hb.rules
  have hm : m + 1 ≤ 200 := by simp at d1; omega
  have kn : kidsN 1 = 0 := rfl
  unfold E.val
  rw [hk, hn]
  clear hk hn
  by_cases hw : wrongV e.v = 0
  · have hty := wrong_kind hw
    have hty1 : 0 ≤ e.v.k := by have := hty.1; omega
    have hty2 : e.v.k ≤ 4 := hty.2
    clear hty
    rw [show letE e.v.k (wrongV e.v) = lett e.v.k by simp [letE, hw]]
    have dw : (wrongV e.v != 0) = false := by simpa using hw
    rw [hw]
    clear hw
    go_enter Try.func109, Try.ntmps109
    go_upto_region 9 with (go_at_call 144; ((with_reducible refine (rkids_any _ _).mono ?_); rintro en w' ⟨rfl, hg⟩; obtain ⟨hc, hf, hz⟩ := hg.rules))
    refine wp_forget (fun W => Blk W w.heap.size 47 #[.int .i64 1, .int .i64 e.v.k, .int .i64 e.v.n, .string e.v.s, .int .i64 e.col, .slice e.A 0 e.cap] ∧ Blk W g 108 #[.slice Ac cols.length cc, .int .i64 (m + 1)] ∧ GX g w W) ⟨(Blk.new' _ _ _ (by simp)).grow hg, ((hb.set 1 _).al _).grow hg, (((GX.refl g w).set 1 _).al _).grow hg⟩ ?_
    clear c f hb hg hc hf hz
    rintro W ⟨B, hb, hg⟩
    obtain ⟨cb, fb⟩ := B.rules
    obtain ⟨c, f⟩ := hb.rules
    have lB := B.lt
    have lb := hb.lt
    go_wp2
    refine wp_forget (fun W => Blk W w.heap.size 47 #[.int .i64 1, .int .i64 e.v.k, .int .i64 e.v.n, .string e.v.s, .int .i64 e.col, .slice e.A 0 e.cap] ∧ Blk W g 108 #[.slice Ac cols.length cc, .int .i64 (m + 1)] ∧ GX g w W) ⟨B.al _, hb.al _, hg.al _⟩ ?_
    clear cb fb c f lB lb B hb hg
    rintro W ⟨B, hb, hg⟩
    obtain ⟨cb, fb⟩ := B.rules
    obtain ⟨c, f⟩ := hb.rules
    refine wp_loop_rounds 1 ?_
    rw [rounds_succ]
    go_wp2_with (first | (go_at_call 42; ((with_reducible refine (rwrong_any e.v _).mono ?_); rintro en w2 ⟨rfl, hg2⟩; replace B := B.grow hg2; replace hb := hb.grow hg2; replace hg := hg.grow hg2; clear cb fb c f hg2; obtain ⟨cb, fb⟩ := B.rules; obtain ⟨c, f⟩ := hb.rules)) | (go_at_call 110; ((with_reducible refine (letter_any _ hty1 hty2 _).mono ?_); rintro e w' ⟨rfl, rfl⟩)))
    exact bodyPost_ret (by simp [results, Try.results109, go_sem]) rfl ⟨rfl, hb, hg⟩
  · rw [show letE e.v.k (wrongV e.v) = 0 by simp [letE, hw]]
    have dw : (wrongV e.v != 0) = true := by simpa using hw
    clear hw
    go_enter Try.func109, Try.ntmps109
    go_upto_region 9 with (go_at_call 144; ((with_reducible refine (rkids_any _ _).mono ?_); rintro en w' ⟨rfl, hg⟩; obtain ⟨hc, hf, hz⟩ := hg.rules))
    refine wp_forget (fun W => Blk W w.heap.size 47 #[.int .i64 1, .int .i64 e.v.k, .int .i64 e.v.n, .string e.v.s, .int .i64 e.col, .slice e.A 0 e.cap] ∧ Blk W g 108 #[.slice Ac cols.length cc, .int .i64 (m + 1)] ∧ GX g w W) ⟨(Blk.new' _ _ _ (by simp)).grow hg, ((hb.set 1 _).al _).grow hg, (((GX.refl g w).set 1 _).al _).grow hg⟩ ?_
    clear c f hb hg hc hf hz
    rintro W ⟨B, hb, hg⟩
    obtain ⟨cb, fb⟩ := B.rules
    obtain ⟨c, f⟩ := hb.rules
    have lB := B.lt
    have lb := hb.lt
    go_wp2
    refine wp_forget (fun W => Blk W w.heap.size 47 #[.int .i64 1, .int .i64 e.v.k, .int .i64 e.v.n, .string e.v.s, .int .i64 e.col, .slice e.A 0 e.cap] ∧ Blk W g 108 #[.slice Ac cols.length cc, .int .i64 (m + 1)] ∧ GX g w W) ⟨B.al _, hb.al _, hg.al _⟩ ?_
    clear cb fb c f lB lb B hb hg
    rintro W ⟨B, hb, hg⟩
    obtain ⟨cb, fb⟩ := B.rules
    obtain ⟨c, f⟩ := hb.rules
    refine wp_loop_rounds 1 ?_
    rw [rounds_succ]
    go_wp2_with (go_at_call 42; ((with_reducible refine (rwrong_any e.v _).mono ?_); rintro en w2 ⟨rfl, hg2⟩; replace B := B.grow hg2; replace hb := hb.grow hg2; replace hg := hg.grow hg2; clear cb fb c f hg2; obtain ⟨cb, fb⟩ := B.rules; obtain ⟨c, f⟩ := hb.rules))
    exact bodyPost_ret (by simp [results, Try.results109, go_sem]) rfl ⟨rfl, hb, hg⟩
end Go.Proofs.Ytjhcbehnopmnpaa
