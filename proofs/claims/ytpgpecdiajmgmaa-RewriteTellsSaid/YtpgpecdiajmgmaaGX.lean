/-
  Joined texts of this claim: Ex10, Ex11, Ex12, Ex13. What each proves its own head says; no condition beside those that each theorem names.
-/
import Derived.Test.YtpgpecdiajmgmaaGD
import Derived.BigQuiet
import Derived.Deep.QuietTactic
namespace Go.Proofs.Ytpgpecdiajmgmaa
open Go.RowKit Go.Calm
set_option linter.unusedSimpArgs false
set_option linter.unusedVariables false

def RTypC (cols : List Int) (Ac : Option Addr) (cc : Nat) (e : E) : Prop := ∀ (g : Nat) (deep m : Int) (w0 w : World), EX w0 e → ISl w0 Ac cols → Grow w0 w → w0.heap.size ≤ g →
  Blk w g 187 #[.slice Ac cols.length cc, .int .i64 m] → 0 ≤ m → m ≤ 200 → 1 ≤ deep → deep ≤ 21 →
  Calls Try.prog 139 #[.pointer (some ⟨g, 0, none⟩), e.val, .int .i64 deep] w fun en w' =>
    en = .returned (.tuple #[.int .u8 (letE (typE cols e deep m).1 (typE cols e deep m).2.1), .int .i64 (typE cols e deep m).2.1]) ∧ Blk w' g 187 #[.slice Ac cols.length cc, .int .i64 (typE cols e deep m).2.2] ∧ GX g w w'

set_option maxRecDepth 100000 in
set_option maxHeartbeats 4000000 in
theorem rtyp_much (cols : List Int) (Ac : Option Addr) (cc : Nat) (e : E) (g : Nat) (deep m : Int) (w : World) (hb : Blk w g 187 #[.slice Ac cols.length cc, .int .i64 m]) (h0 : 0 ≤ m) (h1 : m ≤ 200) (h : 200 < m + 1 ∨ 20 < deep) :
  Calls Try.prog 139 #[.pointer (some ⟨g, 0, none⟩), e.val, .int .i64 deep] w fun en w' =>
    en = .returned (.tuple #[.int .u8 0, .int .i64 4]) ∧ Blk w' g 187 #[.slice Ac cols.length cc, .int .i64 (m + 1)] ∧ GX g w w' := by
  have hgN := hb.lt
  have hgn : g ≠ w.heap.size := by omega
  obtain ⟨c, f⟩ := hb.rules
  have d : (decide (200 < m + 1) = true) ∨ (decide (200 < m + 1) = false ∧ decide (20 < deep) = true) := by
    simp only [decide_eq_true_eq, decide_eq_false_iff_not]; omega
  clear h
  unfold E.val
  rcases d with d1 | ⟨d1, d2⟩
  · go_enter Try.func139, Try.ntmps139
    go_wp2
    exact bodyPost_ret (by simp [results, Try.results139, go_sem]) rfl ⟨rfl, (hb.set 1 _).al _, ((GX.refl g w).set 1 _).al _⟩
  · go_enter Try.func139, Try.ntmps139
    go_wp2
    exact bodyPost_ret (by simp [results, Try.results139, go_sem]) rfl ⟨rfl, (hb.set 1 _).al _, ((GX.refl g w).set 1 _).al _⟩
set_option maxRecDepth 100000 in
set_option maxHeartbeats 4000000 in
theorem rtyp_form (cols : List Int) (Ac : Option Addr) (cc : Nat) (e : E) (g : Nat) (deep m : Int) (w : World) (hb : Blk w g 187 #[.slice Ac cols.length cc, .int .i64 m]) (h0 : 0 ≤ m) (d1 : decide (200 < m + 1) = false) (d2 : decide (20 < deep) = false) (hn : e.n ≤ maxLen) (h : kidsN e.kind < 0 ∨ ¬ kidsN e.kind < 0 ∧ (e.n : Int) ≠ kidsN e.kind) :
  Calls Try.prog 139 #[.pointer (some ⟨g, 0, none⟩), e.val, .int .i64 deep] w fun en w' =>
    en = .returned (.tuple #[.int .u8 0, .int .i64 (if kidsN e.kind < 0 then 1 else 5)]) ∧ Blk w' g 187 #[.slice Ac cols.length cc, .int .i64 (m + 1)] ∧ GX g w w' := by
  have hgN := hb.lt
  have hgn : g ≠ w.heap.size := by omega
  obtain ⟨c, f⟩ := hb.rules
  have hm : m + 1 ≤ 200 := by simp at d1; omega
  have d : (decide (kidsN e.kind < 0) = true) ∨ (decide (kidsN e.kind < 0) = false ∧ ((e.n : Int) != kidsN e.kind) = true) := by
    simp only [decide_eq_true_eq, decide_eq_false_iff_not, bne_iff_ne]; omega
  clear h
  rcases d with d3 | ⟨d3, d4⟩
  · have e1 : (if kidsN e.kind < 0 then (1 : Int) else 5) = 1 := if_pos (by simpa using d3)
    rw [e1]; clear e1
    unfold E.val
    go_enter Try.func139, Try.ntmps139
    go_wp2_with ((go_at_call 148; ((with_reducible refine (rkids_any _ _).mono ?_); rintro e w' ⟨rfl, hg⟩; obtain ⟨hc, hf, hz⟩ := hg.rules)))
    exact bodyPost_ret (by simp [results, Try.results139, go_sem]) rfl ⟨rfl, ((hb.set 1 _).al _).grow hg, (((GX.refl g w).set 1 _).al _).grow hg⟩
  · have e1 : (if kidsN e.kind < 0 then (1 : Int) else 5) = 5 := if_neg (by simpa using d3)
    rw [e1]; clear e1
    unfold E.val
    go_enter Try.func139, Try.ntmps139
    go_wp2_with ((go_at_call 148; ((with_reducible refine (rkids_any _ _).mono ?_); rintro e w' ⟨rfl, hg⟩; obtain ⟨hc, hf, hz⟩ := hg.rules)))
    exact bodyPost_ret (by simp [results, Try.results139, go_sem]) rfl ⟨rfl, ((hb.set 1 _).al _).grow hg, (((GX.refl g w).set 1 _).al _).grow hg⟩
set_option maxRecDepth 100000 in
set_option maxHeartbeats 4000000 in
theorem rtyp_lit (cols : List Int) (Ac : Option Addr) (cc : Nat) (e : E) (g : Nat) (deep m : Int) (w : World) (hb : Blk w g 187 #[.slice Ac cols.length cc, .int .i64 m]) (h0 : 0 ≤ m) (d1 : decide (200 < m + 1) = false) (d2 : decide (20 < deep) = false) (hk : e.kind = 1) (hn : e.n = 0) :
  Calls Try.prog 139 #[.pointer (some ⟨g, 0, none⟩), e.val, .int .i64 deep] w fun en w' =>
    en = .returned (.tuple #[.int .u8 (letE e.v.k (wrongV e.v)), .int .i64 (wrongV e.v)]) ∧ Blk w' g 187 #[.slice Ac cols.length cc, .int .i64 (m + 1)] ∧ GX g w w' := by
  have hgN := hb.lt
  have hgn : g ≠ w.heap.size := by omega
  obtain ⟨c, f⟩ := hb.rules
  have hm : m + 1 ≤ 200 := by simp at d1; omega
  have kn : kidsN 1 = 0 := rfl
  unfold E.val
  rw [hk, hn]
  clear hk hn
  by_cases hw : wrongV e.v = 0
  · have hty := wrong_kind hw
    have hty1 : 0 ≤ e.v.k := by have := hty.1; omega
    have hty2 : e.v.k ≤ 4 := hty.2
    clear hty
    rw [show letE e.v.k (wrongV e.v) = lett e.v.k by simp [letE, hw]]
    have dw : (wrongV e.v != 0) = false := by simpa using hw
    rw [hw]
    clear hw
    go_enter Try.func139, Try.ntmps139
    go_upto_region 9 with (go_at_call 148; ((with_reducible refine (rkids_any _ _).mono ?_); rintro en w' ⟨rfl, hg⟩; obtain ⟨hc, hf, hz⟩ := hg.rules))
    refine wp_forget (fun W => Blk W w.heap.size 27 #[.int .i64 1, .int .i64 e.v.k, .int .i64 e.v.n, .string e.v.s, .int .i64 e.col, .slice e.A 0 e.cap] ∧ Blk W g 187 #[.slice Ac cols.length cc, .int .i64 (m + 1)] ∧ GX g w W) ⟨(Blk.new' _ _ _ (by simp)).grow hg, ((hb.set 1 _).al _).grow hg, (((GX.refl g w).set 1 _).al _).grow hg⟩ ?_
    clear c f hb hg hc hf hz
    rintro W ⟨B, hb, hg⟩
    obtain ⟨cb, fb⟩ := B.rules
    obtain ⟨c, f⟩ := hb.rules
    have lB := B.lt
    have lb := hb.lt
    go_wp2
    refine wp_forget (fun W => Blk W w.heap.size 27 #[.int .i64 1, .int .i64 e.v.k, .int .i64 e.v.n, .string e.v.s, .int .i64 e.col, .slice e.A 0 e.cap] ∧ Blk W g 187 #[.slice Ac cols.length cc, .int .i64 (m + 1)] ∧ GX g w W) ⟨B.al _, hb.al _, hg.al _⟩ ?_
    clear cb fb c f lB lb B hb hg
    rintro W ⟨B, hb, hg⟩
    obtain ⟨cb, fb⟩ := B.rules
    obtain ⟨c, f⟩ := hb.rules
    refine wp_loop_rounds 1 ?_
    rw [rounds_succ]
    go_wp2_with (first | (go_at_call 149; ((with_reducible refine (rwrong_any e.v _).mono ?_); rintro en w2 ⟨rfl, hg2⟩; replace B := B.grow hg2; replace hb := hb.grow hg2; replace hg := hg.grow hg2; clear cb fb c f hg2; obtain ⟨cb, fb⟩ := B.rules; obtain ⟨c, f⟩ := hb.rules)) | (go_at_call 140; ((with_reducible refine (letter_any _ hty1 hty2 _).mono ?_); rintro e w' ⟨rfl, rfl⟩)))
    exact bodyPost_ret (by simp [results, Try.results139, go_sem]) rfl ⟨rfl, hb, hg⟩
  · rw [show letE e.v.k (wrongV e.v) = 0 by simp [letE, hw]]
    have dw : (wrongV e.v != 0) = true := by simpa using hw
    clear hw
    go_enter Try.func139, Try.ntmps139
    go_upto_region 9 with (go_at_call 148; ((with_reducible refine (rkids_any _ _).mono ?_); rintro en w' ⟨rfl, hg⟩; obtain ⟨hc, hf, hz⟩ := hg.rules))
    refine wp_forget (fun W => Blk W w.heap.size 27 #[.int .i64 1, .int .i64 e.v.k, .int .i64 e.v.n, .string e.v.s, .int .i64 e.col, .slice e.A 0 e.cap] ∧ Blk W g 187 #[.slice Ac cols.length cc, .int .i64 (m + 1)] ∧ GX g w W) ⟨(Blk.new' _ _ _ (by simp)).grow hg, ((hb.set 1 _).al _).grow hg, (((GX.refl g w).set 1 _).al _).grow hg⟩ ?_
    clear c f hb hg hc hf hz
    rintro W ⟨B, hb, hg⟩
    obtain ⟨cb, fb⟩ := B.rules
    obtain ⟨c, f⟩ := hb.rules
    have lB := B.lt
    have lb := hb.lt
    go_wp2
    refine wp_forget (fun W => Blk W w.heap.size 27 #[.int .i64 1, .int .i64 e.v.k, .int .i64 e.v.n, .string e.v.s, .int .i64 e.col, .slice e.A 0 e.cap] ∧ Blk W g 187 #[.slice Ac cols.length cc, .int .i64 (m + 1)] ∧ GX g w W) ⟨B.al _, hb.al _, hg.al _⟩ ?_
    clear cb fb c f lB lb B hb hg
    rintro W ⟨B, hb, hg⟩
    obtain ⟨cb, fb⟩ := B.rules
    obtain ⟨c, f⟩ := hb.rules
    refine wp_loop_rounds 1 ?_
    rw [rounds_succ]
    go_wp2_with (go_at_call 149; ((with_reducible refine (rwrong_any e.v _).mono ?_); rintro en w2 ⟨rfl, hg2⟩; replace B := B.grow hg2; replace hb := hb.grow hg2; replace hg := hg.grow hg2; clear cb fb c f hg2; obtain ⟨cb, fb⟩ := B.rules; obtain ⟨c, f⟩ := hb.rules))
    exact bodyPost_ret (by simp [results, Try.results139, go_sem]) rfl ⟨rfl, hb, hg⟩
end Go.Proofs.Ytpgpecdiajmgmaa

namespace Go.Proofs.Ytpgpecdiajmgmaa
open Go.RowKit Go.Calm
set_option linter.unusedSimpArgs false
set_option linter.unusedVariables false

theorem GX.cell {g : Nat} {a b : World} (h : GX g a b) {k o : Nat} {v : Value} (hc : a.cell? ⟨k, o, none⟩ = some v) (hne : k ≠ g) : b.cell? ⟨k, o, none⟩ = some v := World.grownBy.cell h hc (by simpa using hne)
theorem letter_q (t : Int) (h1 : 0 ≤ t) (h2 : t ≤ 4) (w : World) : Calls Try.prog 140 #[.int .i64 t] w fun e w' => e = .returned (.int .u8 (lett t)) ∧ w' = w := (letter_any t h1 h2 w).mono fun _ _ ⟨h1, h2⟩ => ⟨h1, h2.symm⟩
theorem tog_q (a b : Int) (w : World) : Calls Try.prog 150 #[.int .u8 a, .int .u8 b] w fun e w' => e = .returned (.int .u8 (togL a b)) ∧ w' = w := (together_any a b w).mono fun _ _ ⟨h1, h2⟩ => ⟨h1, h2.symm⟩

set_option maxRecDepth 100000 in
set_option maxHeartbeats 4000000 in
theorem rtyp_name (cols : List Int) (Ac : Option Addr) (cc : Nat) (e : E) (g : Nat) (deep m : Int) (w : World) (hb : Blk w g 187 #[.slice Ac cols.length cc, .int .i64 m]) (h0 : 0 ≤ m) (d1 : decide (200 < m + 1) = false) (d2 : decide (20 < deep) = false) (hk : e.kind = 2) (hn : e.n = 0) (h : e.col < 0 ∨ (cols.length : Int) ≤ e.col) :
  Calls Try.prog 139 #[.pointer (some ⟨g, 0, none⟩), e.val, .int .i64 deep] w fun en w' =>
    en = .returned (.tuple #[.int .u8 0, .int .i64 7]) ∧ Blk w' g 187 #[.slice Ac cols.length cc, .int .i64 (m + 1)] ∧ GX g w w' := by
  have hgN := hb.lt
  have hgn : g ≠ w.heap.size := by omega
  obtain ⟨c, f⟩ := hb.rules
  have hm : m + 1 ≤ 200 := by simp at d1; omega
  have kn : kidsN 2 = 0 := rfl
  unfold E.val
  rw [hk, hn]
  have d : decide (e.col < 0) = true ∨ decide (e.col < 0) = false ∧ decide ((cols.length : Int) ≤ e.col) = true := by
    simp only [decide_eq_true_eq, decide_eq_false_iff_not]; omega
  clear h hk hn
  rcases d with d3 | ⟨d3, d4⟩
  · go_enter Try.func139, Try.ntmps139
    go_upto_region 9 with (go_at_call 148; ((with_reducible refine (rkids_any _ _).mono ?_); rintro en w' ⟨rfl, hg⟩; obtain ⟨hc, hf, hz⟩ := hg.rules))
    refine wp_forget (fun W => Blk W w.heap.size 27 #[.int .i64 2, .int .i64 e.v.k, .int .i64 e.v.n, .string e.v.s, .int .i64 e.col, .slice e.A 0 e.cap] ∧ Blk W g 187 #[.slice Ac cols.length cc, .int .i64 (m + 1)] ∧ GX g w W) ⟨(Blk.new' _ _ _ (by simp)).grow hg, ((hb.set 1 _).al _).grow hg, (((GX.refl g w).set 1 _).al _).grow hg⟩ ?_
    clear c f hb hg hc hf hz
    rintro W ⟨B, hb, hg⟩
    obtain ⟨cb, fb⟩ := B.rules
    obtain ⟨c, f⟩ := hb.rules
    have lB := B.lt
    have lb := hb.lt
    go_wp2
    refine wp_forget (fun W => Blk W w.heap.size 27 #[.int .i64 2, .int .i64 e.v.k, .int .i64 e.v.n, .string e.v.s, .int .i64 e.col, .slice e.A 0 e.cap] ∧ Blk W g 187 #[.slice Ac cols.length cc, .int .i64 (m + 1)] ∧ GX g w W) ⟨B.al _, hb.al _, hg.al _⟩ ?_
    clear cb fb c f lB lb B hb hg
    rintro W ⟨B, hb, hg⟩
    obtain ⟨cb, fb⟩ := B.rules
    obtain ⟨c, f⟩ := hb.rules
    refine wp_loop_rounds 1 ?_
    rw [rounds_succ]
    go_wp2
    go_quiet (fail)
    go_wp2
    exact bodyPost_ret (by simp [results, Try.results139, go_sem]) rfl ⟨rfl, hb, hg.drewN _⟩
  · go_enter Try.func139, Try.ntmps139
    go_upto_region 9 with (go_at_call 148; ((with_reducible refine (rkids_any _ _).mono ?_); rintro en w' ⟨rfl, hg⟩; obtain ⟨hc, hf, hz⟩ := hg.rules))
    refine wp_forget (fun W => Blk W w.heap.size 27 #[.int .i64 2, .int .i64 e.v.k, .int .i64 e.v.n, .string e.v.s, .int .i64 e.col, .slice e.A 0 e.cap] ∧ Blk W g 187 #[.slice Ac cols.length cc, .int .i64 (m + 1)] ∧ GX g w W) ⟨(Blk.new' _ _ _ (by simp)).grow hg, ((hb.set 1 _).al _).grow hg, (((GX.refl g w).set 1 _).al _).grow hg⟩ ?_
    clear c f hb hg hc hf hz
    rintro W ⟨B, hb, hg⟩
    obtain ⟨cb, fb⟩ := B.rules
    obtain ⟨c, f⟩ := hb.rules
    have lB := B.lt
    have lb := hb.lt
    go_wp2
    refine wp_forget (fun W => Blk W w.heap.size 27 #[.int .i64 2, .int .i64 e.v.k, .int .i64 e.v.n, .string e.v.s, .int .i64 e.col, .slice e.A 0 e.cap] ∧ Blk W g 187 #[.slice Ac cols.length cc, .int .i64 (m + 1)] ∧ GX g w W) ⟨B.al _, hb.al _, hg.al _⟩ ?_
    clear cb fb c f lB lb B hb hg
    rintro W ⟨B, hb, hg⟩
    obtain ⟨cb, fb⟩ := B.rules
    obtain ⟨c, f⟩ := hb.rules
    refine wp_loop_rounds 1 ?_
    rw [rounds_succ]
    go_wp2
    go_quiet (fail)
    go_wp2
    exact bodyPost_ret (by simp [results, Try.results139, go_sem]) rfl ⟨rfl, hb, hg.drewN _⟩

set_option maxRecDepth 100000 in
set_option maxHeartbeats 4000000 in
theorem rtyp_col (cols : List Int) (Ac : Option Addr) (cc : Nat) (e : E) (g : Nat) (deep m : Int) (w : World) (hb : Blk w g 187 #[.slice Ac cols.length cc, .int .i64 m]) (h0 : 0 ≤ m) (d1 : decide (200 < m + 1) = false) (d2 : decide (20 < deep) = false) (hk : e.kind = 2) (hn : e.n = 0) (hcol : 0 ≤ e.col) (hlt : e.col < (cols.length : Int)) (hlen : cols.length ≤ 9223372036854775807) (hall : cols.all colB = true) (hi : ISl w Ac cols) (hga : ∀ a : Addr, Ac = some a → a.block ≠ g) :
  Calls Try.prog 139 #[.pointer (some ⟨g, 0, none⟩), e.val, .int .i64 deep] w fun en w' =>
    en = .returned (.tuple #[.int .u8 (lett (cols.getD e.col.toNat 0)), .int .i64 0]) ∧ Blk w' g 187 #[.slice Ac cols.length cc, .int .i64 (m + 1)] ∧ GX g w w' := by
  have hgN := hb.lt
  have hgn : g ≠ w.heap.size := by omega
  obtain ⟨j, hj⟩ : ∃ j : Nat, e.col = j := ⟨e.col.toNat, by omega⟩
  have hjl : j < cols.length := by omega
  have hjv : cols[j]? = some (cols.getD e.col.toNat 0) := by rw [hj]; simp [hjl]
  obtain ⟨ga, oa, rfl, ca⟩ := hi j _ hjv
  have hne : ga ≠ g := hga _ rfl
  have hty : 0 ≤ cols.getD e.col.toNat 0 ∧ cols.getD e.col.toNat 0 ≤ 4 := by
    have := List.all_eq_true.1 hall _ (List.mem_of_getElem? hjv)
    simp only [colB, Bool.and_eq_true, decide_eq_true_eq] at this
    omega
  generalize cols.getD e.col.toNat 0 = t at *
  have hgaN : ga < w.heap.size := Grow.lt ca
  obtain ⟨c, f⟩ := hb.rules
  have hm : m + 1 ≤ 200 := by simp at d1; omega
  have kn : kidsN 2 = 0 := rfl
  unfold E.val
  rw [hk, hn, hj]
  have d3 : decide ((j : Int) < 0) = false := by simp
  have d4 : decide ((cols.length : Int) ≤ (j : Int)) = false := by simp; omega
  clear hk hn hj hjv hlt hcol hi hga hall
  go_enter Try.func139, Try.ntmps139
  go_upto_region 9 with (go_at_call 148; ((with_reducible refine (rkids_any _ _).mono ?_); rintro en w' ⟨rfl, hg⟩; obtain ⟨hc, hf, hz⟩ := hg.rules))
  refine wp_forget (fun W => W.cell? ⟨ga, oa + j, none⟩ = some (.int .i64 t) ∧ Blk W w.heap.size 27 #[.int .i64 2, .int .i64 e.v.k, .int .i64 e.v.n, .string e.v.s, .int .i64 j, .slice e.A 0 e.cap] ∧ Blk W g 187 #[.slice (some ⟨ga, oa, none⟩) cols.length cc, .int .i64 (m + 1)] ∧ GX g w W) ⟨?_, (Blk.new' _ _ _ (by simp)).grow hg, ((hb.set 1 _).al _).grow hg, (((GX.refl g w).set 1 _).al _).grow hg⟩ ?_
  · exact GX.cell ((((GX.refl g w).set 1 _).al _).grow hg) ca hne
  clear c f hb hg hc hf hz ca
  rintro W ⟨ca, B, hb, hg⟩
  obtain ⟨cb, fb⟩ := B.rules
  obtain ⟨c, f⟩ := hb.rules
  have lB := B.lt
  have lb := hb.lt
  go_wp2
  refine wp_forget (fun W => W.cell? ⟨ga, oa + j, none⟩ = some (.int .i64 t) ∧ Blk W w.heap.size 27 #[.int .i64 2, .int .i64 e.v.k, .int .i64 e.v.n, .string e.v.s, .int .i64 j, .slice e.A 0 e.cap] ∧ Blk W g 187 #[.slice (some ⟨ga, oa, none⟩) cols.length cc, .int .i64 (m + 1)] ∧ GX g w W) ⟨(GX.refl g _).al _ |>.cell ca hne, B.al _, hb.al _, hg.al _⟩ ?_
  clear cb fb c f lB lb B hb hg ca
  rintro W ⟨ca, B, hb, hg⟩
  obtain ⟨cb, fb⟩ := B.rules
  obtain ⟨c, f⟩ := hb.rules
  refine wp_loop_rounds 1 ?_
  rw [rounds_succ]
  go_wp2
  go_quiet (fail)
  go_wp2
  refine wp_forget (fun W => W.cell? ⟨ga, oa + j, none⟩ = some (.int .i64 t) ∧ Blk W w.heap.size 27 #[.int .i64 2, .int .i64 e.v.k, .int .i64 e.v.n, .string e.v.s, .int .i64 j, .slice e.A 0 e.cap] ∧ Blk W g 187 #[.slice (some ⟨ga, oa, none⟩) cols.length cc, .int .i64 (m + 1)] ∧ GX g w W) ⟨ca, B, hb, hg.drewN _⟩ ?_
  clear cb fb c f B hb hg ca
  rintro W ⟨ca, B, hb, hg⟩
  obtain ⟨cb, fb⟩ := B.rules
  obtain ⟨c, f⟩ := hb.rules
  have lq := fun W => letter_q t hty.1 hty.2 W
  go_quiet ((go_at_call 140; exact Calls.quiet_of_same (lq _)))
  go_wp2
  exact bodyPost_ret (by simp [results, Try.results139, go_sem]) rfl ⟨rfl, hb, hg.drewN _⟩
end Go.Proofs.Ytpgpecdiajmgmaa

namespace Go.Proofs.Ytpgpecdiajmgmaa
open Go.RowKit Go.Calm
set_option linter.unusedSimpArgs false
set_option linter.unusedVariables false

theorem info_u8 : (Try.prog.info? 5).map (fun i => (i.zero, i.size, i.bytes)) = some (some (.int .u8 0), 1, 1) := by kernel_rfl
theorem info_u8' : ∃ i, Try.prog.info? 5 = some i ∧ i.zero = some (.int .u8 0) ∧ i.size = 1 ∧ i.bytes = 1 := by
  have h := info_u8
  cases hi : Try.prog.info? 5 with
  | none => rw [hi] at h; simp at h
  | some i => rw [hi] at h; simp at h; exact ⟨i, rfl, h.1, h.2.1, h.2.2⟩
abbrev OwnsL (w : World) (B : Nat) (t : Value) (ts : List Int) : Prop := w.ownsRow B 5 1 t ts.length (ts.map (fun x => Value.int .u8 (lett x)))
theorem OwnsL.cells {w : World} {B : Nat} {t : Value} {ts : List Int} (h : OwnsL w B t ts) (h1 : ts ≠ []) : ∃ g cap, t = .slice (some ⟨g, 0, none⟩) ts.length cap ∧ ts.length ≤ cap ∧ ∀ (i : Nat) (x : Int), ts[i]? = some x → w.cell? ⟨g, i, none⟩ = some (.int .u8 (lett x)) := by
  obtain ⟨_, h⟩ := h
  rcases h with ⟨_, h0⟩ | ⟨g, cap, cur, rfl, hB, hg, hle, hmx, hcs, htk⟩
  · exact absurd (List.length_eq_zero_iff.1 h0) h1
  · refine ⟨g, cap, rfl, hle, fun i x hx => ?_⟩
    have hi : i < ts.length := (List.getElem?_eq_some_iff.1 hx).1
    have hb : Blk w g 5 cur := hg
    rw [hb.cell i]
    have e : (ts.map (fun x => Value.int .u8 (lett x)))[i]? = some (.int .u8 (lett x)) := by simp [hx]
    rw [← htk, List.getElem?_take] at e
    simpa [hi] using e
theorem OwnsL.kept {w w' : World} {B g : Nat} {t : Value} {ts : List Int} (h : OwnsL w B t ts) (hg : GX g w w') (hlt : g < B) : OwnsL w' B t ts := World.ownsRow.kept h hg (own_ne h hlt)
theorem typOf_ok {k : Int} {m : Int} {ts : List Int} {T ER : Int} (h16 : k ≠ 16) (h : kindE k ts = (T, ER)) : typOf k (0, m, ts) = (T, ER, m) := by
  simp [typOf, h16, h]
theorem three_of {r : Int × Int × Int} {T ER M T' ER' M' : Int} (h : r = (T, ER, M)) (h' : r = (T', ER', M')) : T = T' ∧ ER = ER' ∧ M = M' := by
  rw [h] at h'; simpa using h'

theorem kinds' {k : Int} (h : 1 ≤ kidsN k) : k = 3 ∨ k = 4 ∨ k = 5 ∨ (6 ≤ k ∧ k ≤ 11) ∨ k = 12 ∨ k = 13 ∨ k = 14 ∨ k = 15 ∨ k = 16 ∨ k = 17 ∨ k = 18 := by
  unfold kidsN at h
  repeat' split at h
  all_goals omega
theorem len1 {ts : List Int} (h : ts.length = 1) : ∃ x, ts = [x] := by
  match ts, h with
  | [x], _ => exact ⟨x, rfl⟩
theorem len2 {ts : List Int} (h : ts.length = 2) : ∃ x y, ts = [x, y] := by
  match ts, h with
  | [x, y], _ => exact ⟨x, y, rfl⟩
theorem len3 {ts : List Int} (h : ts.length = 3) : ∃ x y z, ts = [x, y, z] := by
  match ts, h with
  | [x, y, z], _ => exact ⟨x, y, z, rfl⟩

set_option maxRecDepth 100000 in
set_option maxHeartbeats 40000000 in
theorem rtyp_kids (cols : List Int) (Ac : Option Addr) (cc : Nat) (hall : cols.all colB = true) (k : Int) (v : V) (c : Int) (A : Option Addr) (n cap : Nat) (kid : Nat → E) (ih : ∀ i, RTypC cols Ac cc (kid i))
    (g : Nat) (deep m : Int) (w0 w : World) (hE : EX w0 (.mk k v c A n cap kid)) (hcols : ISl w0 Ac cols) (hg0 : Grow w0 w) (hlt : w0.heap.size ≤ g)
    (hb : Blk w g 187 #[.slice Ac cols.length cc, .int .i64 m]) (h0 : 0 ≤ m) (d1 : decide (200 < m + 1) = false) (d2 : decide (20 < deep) = false) (hd0 : 1 ≤ deep) (hkn : 1 ≤ kidsN k) (hn : (n : Int) = kidsN k)
    (T ER M : Int) (hT : typOf k (typKids (fun i m' => typE cols (kid i) (deep + 1) m') n 0 (m + 1) []) = (T, ER, M)) :
  Calls Try.prog 139 #[.pointer (some ⟨g, 0, none⟩), (E.mk k v c A n cap kid).val, .int .i64 deep] w fun en w' =>
    en = .returned (.tuple #[.int .u8 (letE T ER), .int .i64 ER]) ∧ Blk w' g 187 #[.slice Ac cols.length cc, .int .i64 M] ∧ GX g w w' := by
  have Hb := Lib.hid hb
  have HT := Lib.hid hT
  have Hn := Lib.hid hn
  have d3 : decide (kidsN k < 0) = false := by simp; omega
  have d4 : ((n : Int) != kidsN k) = false := by simpa using hn
  obtain ⟨cb, fb⟩ := hb.rules
  have hgN : g < w.heap.size := hb.lt
  have hgn : g ≠ w.heap.size := by omega
  have hn3 : n ≤ 3 := by have := kidsN_le k; omega
  have hm : m + 1 ≤ 200 := by simp at d1; omega
  have hd : deep ≤ 20 := by simp at d2; omega
  clear hT hn hb
  unfold E.val
  simp only [E.kind, E.v, E.col, E.A, E.n, E.cap]
  go_enter Try.func139, Try.ntmps139
  go_upto_region 9 with (go_at_call 148; ((with_reducible refine (rkids_any _ _).mono ?_); rintro en w' ⟨rfl, hg⟩; obtain ⟨hc, hf, hz⟩ := hg.rules))
  refine wp_forget (fun W => Blk W w.heap.size 27 #[.int .i64 k, .int .i64 v.k, .int .i64 v.n, .string v.s, .int .i64 c, .slice A n cap] ∧ Blk W g 187 #[.slice Ac cols.length cc, .int .i64 (m + 1)] ∧ GX g w W) ⟨(Blk.new' _ _ _ (by simp)).grow hg, ((Hb.out.set 1 _).al _).grow hg, (((GX.refl g w).set 1 _).al _).grow hg⟩ ?_
  clear hg hc hf hz cb fb Hb
  rintro W ⟨B, hb, hg⟩
  obtain ⟨cb, fb⟩ := B.rules
  have lB := B.lt
  go_wp2
  go_loopw [9, 47] (fun t i wr => ∃ (j : Nat) (m' : Int) (ts : List Int), j ≤ n ∧ i = .int .i64 j ∧ OwnsL wr (w.heap.size + 1) t ts ∧ Blk wr g 187 #[.slice Ac cols.length cc, .int .i64 m'] ∧ Blk wr w.heap.size 27 #[.int .i64 k, .int .i64 v.k, .int .i64 v.n, .string v.s, .int .i64 c, .slice A n cap] ∧ GX g w wr ∧ 0 ≤ m' ∧ m' ≤ 200 ∧ ts.length = j ∧ (∀ x ∈ ts, Ty x) ∧
      typKids (fun i m' => typE cols (kid i) (deep + 1) m') (n - j) j m' ts = typKids (fun i m' => typE cols (kid i) (deep + 1) m') n 0 (m + 1) []) (fun _ i _ => n - (intOf i).toNat)
  case atStart => exact ⟨0, m + 1, [], Nat.zero_le _, rfl, World.ownsRow_made _ _ 0 (by omega) (Nat.zero_le _) rfl, hb.al _, B.al _, hg.al _, by omega, by omega, rfl, by simp, rfl⟩
  case round =>
    obtain ⟨j, m', ts, hj, rfl, hown, hbr, hbx, hgx, hm0, hm1, htl, hty, hR⟩ := hrel
    clear hg cb fb lB B hb
    have hgw := GX.base hg0 hlt hgx
    have hszr := hgx.size
    have Own := Lib.hid hown
    have HR := Lib.hid hR
    have Hty := Lib.hid hty
    have hbs := Lib.hid hbr
    have hbb := Lib.hid hbx
    obtain ⟨cb, fb⟩ := hbr.rules
    obtain ⟨cx, fx⟩ := hbx.rules
    clear hown hR hbr hbx hty
    have Ti := Lib.hid info_u8'
    by_cases hlt2 : j < n
    · obtain ⟨gk, ok, hA, hck, hEk⟩ : ∃ gk ok, A = some ⟨gk, ok, none⟩ ∧ ECells w0 gk (ok + j * 6) (kid j) ∧ EX w0 (kid j) := by
        cases hE with
        | mk hn' hc hk hv hi =>
          obtain ⟨gk, ok, h1, h2⟩ := hc j hlt2
          exact ⟨gk, ok, h1, h2, hk j hlt2⟩
      subst hA
      obtain ⟨q1, q2, q3, hq⟩ : ∃ q1 q2 q3, typE cols (kid j) (deep + 1) m' = (q1, q2, q3) := ⟨_, _, _, rfl⟩
      have hbd := typE_bd cols (kid j) (deep + 1) m' hm1
      have hqt := typE_ty cols hall (kid j) (deep + 1) m'
      have ihj := fun W (hG : Grow wr W) => ih j g (deep + 1) m' w0 W hEk hcols (hgw.trans hG) (by assumption) (hbs.out.grow hG) hm0 hm1 (by omega) (by omega)
      rw [hq] at hbd ihj hqt
      simp only at hbd ihj hqt
      obtain ⟨k0, k1, k2, k3, k4, k5⟩ := hck.grow hgw
      have Hq := Lib.hid hq
      have Hqt := Lib.hid hqt
      clear hq hck hEk hqt
      by_cases h2 : q2 = 0
      · subst h2
        have eL : letE q1 0 = lett q1 := by simp [letE]
        rw [eL] at ihj
        clear eL
        obtain ⟨ti, hi, hz0, hz1, hz2⟩ := Ti.out
        go_wp2_with (first
          | (at_builtin; refine wpList_append_own _ rfl _ _ 195 rfl (w.heap.size + 1) 5 ti (.int .u8 0) 1 1 Try.underlying195 hi hz0 hz1 hz2 rfl (by decide) _ _ _ rfl (Own2.out.alloc _) ⟨w2.heap.size, 0, none⟩ 1 1 [.int .u8 (lett q1)] rfl rfl ?c1 ?c2 ?c3 ?c4 ?c5 ?_)
          | (go_at_call 139; ((with_reducible refine (ihj _ (by repeat (first | (with_reducible exact Grow.refl _) | (with_reducible assumption) | (with_reducible refine Grow.set ?_ (by first | (simp; done) | (simp; omega)) _) | (with_reducible refine Grow.al ?_ _) | (with_reducible refine Grow.drew ?_) | (with_reducible refine Grow.drewN ?_ _) | (with_reducible refine Grow.trans ?_ (by assumption))))).mono ?_); rintro e w2 ⟨rfl, hb2, hg2⟩; have hG1 := (GX.refl g wr).grow (by repeat (first | (with_reducible exact Grow.refl _) | (with_reducible assumption) | (with_reducible refine Grow.set ?_ (by first | (simp; done) | (simp; omega)) _) | (with_reducible refine Grow.al ?_ _) | (with_reducible refine Grow.drew ?_) | (with_reducible refine Grow.drewN ?_ _) | (with_reducible refine Grow.trans ?_ (by assumption)))) |>.trans hg2; have Own2 := Lib.hid (OwnsL.kept Own.out hG1 (by omega)))))
        case c1 =>
          intro j u hj
          match j, hj with
          | 0, hj => simp at hj; subst hj; simp [Addr.add]
        case c2 => intro u hu; simp at hu; subst hu; rfl
        case c3 => unfold maxLen; omega
        case c4 => omega
        case c5 => have := hg2.size; simp; simp at this; omega
        · intro v' w3 hown' hgrow _
          have Fin := Lib.hid (typKids_ok (F := fun i m' => typE cols (kid i) (deep + 1) m') (ts := ts) hlt2 Hq.out)
          have hb3 : Blk w3 g 187 #[.slice Ac cols.length cc, .int .i64 q3] := by
            have h1 := hb2.al (.cells #[.int .u8 (lett q1)] 5)
            have h2 := h1.lt
            unfold Blk at h1 ⊢
            rw [hgrow.block g h2 (fun e => by rcases own_ne Own.out (by omega : g < w.heap.size + 1) with h | h <;> rw [← e] at h <;> simp at h)]
            exact h1
          have hx3 : Blk w3 w.heap.size 27 #[.int .i64 k, .int .i64 v.k, .int .i64 v.n, .string v.s, .int .i64 c, .slice (some ⟨gk, ok, none⟩) n cap] := by
            have h1 := (GX.blk hG1 (by omega) hbb.out).al (.cells #[.int .u8 (lett q1)] 5)
            have h2 := h1.lt
            unfold Blk at h1 ⊢
            rw [hgrow.block w.heap.size h2 (fun e => by rcases own_ne Own.out (by omega : w.heap.size < w.heap.size + 1) with h | h <;> rw [← e] at h <;> simp at h)]
            exact h1
          have hg3 : GX g w w3 := GX.own ((hgx.trans hG1).al _) hgrow (fun i hi => by have := (Own.out.lt i hi).1; omega)
          clear hgrow hb2 hg2 ihj hG1
          go_wp2
          go_roundw
          case rel => exact ⟨j + 1, q3, ts ++ [q1], by omega, by go_num, by unfold OwnsL; simpa [htl] using hown', hb3, hx3, hg3, by have := hbd.1; omega, by simpa using hbd.2.2, by simp [htl], (fun x hx => by
            rcases List.mem_append.1 hx with hx | hx
            · exact Hty.out x hx
            · simp at hx; subst hx; exact (by first | exact Hqt.out rfl | exact Hqt.out trivial)), by rw [← Fin.out]; exact HR.out⟩
          case measure => simp [intOf]; omega
      · have dq : (q2 != 0) = true := by simpa using h2
        have fin : typOf k (typKids (fun i m' => typE cols (kid i) (deep + 1) m') n 0 (m + 1) []) = (0, q2, q3) := by
          rw [← HR.out, typKids_no (F := fun i m' => typE cols (kid i) (deep + 1) m') hlt2 Hq.out h2]
          simp [typOf, h2]
        obtain ⟨rfl, rfl, rfl⟩ : T = 0 ∧ ER = q2 ∧ M = q3 := by simpa using HT.out.symm.trans fin
        have eL : ∀ t, letE t ER = 0 := fun t => by simp [letE, h2]
        rw [eL] at ihj
        have Eh := Lib.hid h2
        clear fin h2 eL
        go_wp2_with (go_at_call 139; ((with_reducible refine (ihj _ (by repeat (first | (with_reducible exact Grow.refl _) | (with_reducible assumption) | (with_reducible refine Grow.set ?_ (by first | (simp; done) | (simp; omega)) _) | (with_reducible refine Grow.al ?_ _) | (with_reducible refine Grow.drew ?_) | (with_reducible refine Grow.drewN ?_ _) | (with_reducible refine Grow.trans ?_ (by assumption))))).mono ?_); rintro e w2 ⟨rfl, hb2, hg2⟩; have hG1 := (GX.refl g wr).grow (by repeat (first | (with_reducible exact Grow.refl _) | (with_reducible assumption) | (with_reducible refine Grow.set ?_ (by first | (simp; done) | (simp; omega)) _) | (with_reducible refine Grow.al ?_ _) | (with_reducible refine Grow.drew ?_) | (with_reducible refine Grow.drewN ?_ _) | (with_reducible refine Grow.trans ?_ (by assumption)))) |>.trans hg2))
        have eh := Eh.out
        exact bodyPost_ret (by simp [results, Try.results139, go_sem, letE, eh]) rfl ⟨rfl, hb2, hgx.trans hG1⟩
    · obtain rfl : j = n := by omega
      have fin : typOf k (0, m', ts) = (T, ER, M) := by
        rw [← HT.out, ← HR.out, Nat.sub_self]; rfl
      have Fin := Lib.hid fin
      clear fin HT HR
      obtain ⟨gt, capt, rfl, hct, hcell⟩ := Own.out.cells (by intro h; subst h; simp at htl; have := Hn.out; omega)
      rw [htl]
      have hlen : (ts.length : Int) = kidsN k := by rw [htl]; exact Hn.out
      rcases kinds' hkn with rfl | rfl | rfl | hk | rfl | rfl | rfl | rfl | rfl | rfl | rfl
      · obtain ⟨x, rfl⟩ : ∃ x, ts = [x] := len1 (by have : (ts.length : Int) = 1 := hlen; omega)
        have hx := Hty.out x (by simp)
        have c0 := hcell 0 x rfl
        have cn0 : ∀ n, (wr.drewN n).cell? ⟨gt, 0, none⟩ = some (.int .u8 (lett x)) := fun _ => c0
        simp only [List.length_cons, List.length_nil] at htl hct ⊢
        subst htl
        have twx := tog_want hx (.inl rfl : (2:Int) = 2 ∨ (2:Int) = 3 ∨ (2:Int) = 4)
        cases h1x : oneB x 2
        · rw [h1x] at twx
          have tx : (togL (lett x) 98 == 98) = false := twx
          clear twx
          obtain ⟨rfl, rfl, rfl⟩ := three_of Fin.out (typOf_ok (T := 0) (ER := 9) (by decide) (by simp [kindE, h1x]))
          clear Fin
          go_wp2_with ((go_at_call 150; ((with_reducible refine (together_any _ _ _).mono ?_); rintro e w' ⟨rfl, rfl⟩)))
          exact bodyPost_ret (by simp [results, Try.results139, go_sem, letE, lett]) rfl ⟨rfl, hbs.out, hgx⟩
        · rw [h1x] at twx
          have tx : (togL (lett x) 98 == 98) = true := twx
          clear twx
          obtain ⟨rfl, rfl, rfl⟩ := three_of Fin.out (typOf_ok (T := 2) (ER := 0) (by decide) (by simp [kindE, h1x]))
          clear Fin
          go_wp2_with ((go_at_call 150; ((with_reducible refine (together_any _ _ _).mono ?_); rintro e w' ⟨rfl, rfl⟩)))
          exact bodyPost_ret (by simp [results, Try.results139, go_sem, letE, lett]) rfl ⟨rfl, hbs.out, hgx⟩
      · obtain ⟨x, y, rfl⟩ : ∃ x y, ts = [x, y] := len2 (by have : (ts.length : Int) = 2 := hlen; omega)
        have hx := Hty.out x (by simp)
        have hy := Hty.out y (by simp)
        have c0 := hcell 0 x rfl
        have cn0 : ∀ n, (wr.drewN n).cell? ⟨gt, 0, none⟩ = some (.int .u8 (lett x)) := fun _ => c0
        have c1 := hcell 1 y rfl
        have cn1 : ∀ n, (wr.drewN n).cell? ⟨gt, 1, none⟩ = some (.int .u8 (lett y)) := fun _ => c1
        simp only [List.length_cons, List.length_nil] at htl hct ⊢
        subst htl
        have twx := tog_want hx (.inl rfl : (2:Int) = 2 ∨ (2:Int) = 3 ∨ (2:Int) = 4)
        have twy := tog_want hy (.inl rfl : (2:Int) = 2 ∨ (2:Int) = 3 ∨ (2:Int) = 4)
        cases h1x : oneB x 2
        · rw [h1x] at twx
          have tx : (togL (lett x) 98 == 98) = false := twx
          clear twx
          obtain ⟨rfl, rfl, rfl⟩ := three_of Fin.out (typOf_ok (T := 0) (ER := 9) (by decide) (by simp [kindE, h1x]))
          clear Fin
          go_wp2_with ((go_at_call 150; ((with_reducible refine (together_any _ _ _).mono ?_); rintro e w' ⟨rfl, rfl⟩)))
          exact bodyPost_ret (by simp [results, Try.results139, go_sem, letE, lett]) rfl ⟨rfl, hbs.out, hgx⟩
        · rw [h1x] at twx
          have tx : (togL (lett x) 98 == 98) = true := twx
          clear twx
          cases h1y : oneB y 2
          · rw [h1y] at twy
            have ty : (togL (lett y) 98 == 98) = false := twy
            clear twy
            obtain ⟨rfl, rfl, rfl⟩ := three_of Fin.out (typOf_ok (T := 0) (ER := 9) (by decide) (by simp [kindE, h1x, h1y]))
            clear Fin
            go_wp2_with ((go_at_call 150; ((with_reducible refine (together_any _ _ _).mono ?_); rintro e w' ⟨rfl, rfl⟩)))
            exact bodyPost_ret (by simp [results, Try.results139, go_sem, letE, lett]) rfl ⟨rfl, hbs.out, hgx⟩
          · rw [h1y] at twy
            have ty : (togL (lett y) 98 == 98) = true := twy
            clear twy
            obtain ⟨rfl, rfl, rfl⟩ := three_of Fin.out (typOf_ok (T := 2) (ER := 0) (by decide) (by simp [kindE, h1x, h1y]))
            clear Fin
            go_wp2_with ((go_at_call 150; ((with_reducible refine (together_any _ _ _).mono ?_); rintro e w' ⟨rfl, rfl⟩)))
            exact bodyPost_ret (by simp [results, Try.results139, go_sem, letE, lett]) rfl ⟨rfl, hbs.out, hgx⟩
      · obtain ⟨x, y, rfl⟩ : ∃ x y, ts = [x, y] := len2 (by have : (ts.length : Int) = 2 := hlen; omega)
        have hx := Hty.out x (by simp)
        have hy := Hty.out y (by simp)
        have c0 := hcell 0 x rfl
        have cn0 : ∀ n, (wr.drewN n).cell? ⟨gt, 0, none⟩ = some (.int .u8 (lett x)) := fun _ => c0
        have c1 := hcell 1 y rfl
        have cn1 : ∀ n, (wr.drewN n).cell? ⟨gt, 1, none⟩ = some (.int .u8 (lett y)) := fun _ => c1
        simp only [List.length_cons, List.length_nil] at htl hct ⊢
        subst htl
        have twx := tog_want hx (.inl rfl : (2:Int) = 2 ∨ (2:Int) = 3 ∨ (2:Int) = 4)
        have twy := tog_want hy (.inl rfl : (2:Int) = 2 ∨ (2:Int) = 3 ∨ (2:Int) = 4)
        cases h1x : oneB x 2
        · rw [h1x] at twx
          have tx : (togL (lett x) 98 == 98) = false := twx
          clear twx
          obtain ⟨rfl, rfl, rfl⟩ := three_of Fin.out (typOf_ok (T := 0) (ER := 9) (by decide) (by simp [kindE, h1x]))
          clear Fin
          go_wp2_with ((go_at_call 150; ((with_reducible refine (together_any _ _ _).mono ?_); rintro e w' ⟨rfl, rfl⟩)))
          exact bodyPost_ret (by simp [results, Try.results139, go_sem, letE, lett]) rfl ⟨rfl, hbs.out, hgx⟩
        · rw [h1x] at twx
          have tx : (togL (lett x) 98 == 98) = true := twx
          clear twx
          cases h1y : oneB y 2
          · rw [h1y] at twy
            have ty : (togL (lett y) 98 == 98) = false := twy
            clear twy
            obtain ⟨rfl, rfl, rfl⟩ := three_of Fin.out (typOf_ok (T := 0) (ER := 9) (by decide) (by simp [kindE, h1x, h1y]))
            clear Fin
            go_wp2_with ((go_at_call 150; ((with_reducible refine (together_any _ _ _).mono ?_); rintro e w' ⟨rfl, rfl⟩)))
            exact bodyPost_ret (by simp [results, Try.results139, go_sem, letE, lett]) rfl ⟨rfl, hbs.out, hgx⟩
          · rw [h1y] at twy
            have ty : (togL (lett y) 98 == 98) = true := twy
            clear twy
            obtain ⟨rfl, rfl, rfl⟩ := three_of Fin.out (typOf_ok (T := 2) (ER := 0) (by decide) (by simp [kindE, h1x, h1y]))
            clear Fin
            go_wp2_with ((go_at_call 150; ((with_reducible refine (together_any _ _ _).mono ?_); rintro e w' ⟨rfl, rfl⟩)))
            exact bodyPost_ret (by simp [results, Try.results139, go_sem, letE, lett]) rfl ⟨rfl, hbs.out, hgx⟩
      · have hlen2 : kidsN k = 2 := by unfold kidsN; rw [if_neg (by omega), if_neg (by omega), if_pos (by omega)]
        obtain ⟨x, y, rfl⟩ : ∃ x y, ts = [x, y] := len2 (by omega)
        have hx := Hty.out x (by simp)
        have hy := Hty.out y (by simp)
        have c0 := hcell 0 x rfl
        have cn0 : ∀ n, (wr.drewN n).cell? ⟨gt, 0, none⟩ = some (.int .u8 (lett x)) := fun _ => c0
        have c1 := hcell 1 y rfl
        have cn1 : ∀ n, (wr.drewN n).cell? ⟨gt, 1, none⟩ = some (.int .u8 (lett y)) := fun _ => c1
        simp only [List.length_cons, List.length_nil] at htl hct ⊢
        subst htl
        have tt := tog_two hx hy
        have e1 : (k == 1) = false := by simp; omega
        have e2 : (k == 2) = false := by simp; omega
        have e3 : (k == 3) = false := by simp; omega
        have e4 : (k == 4) = false := by simp; omega
        have e5 : (k == 5) = false := by simp; omega
        have e12 : (k == 12) = false := by simp; omega
        have e13 : (k == 13) = false := by simp; omega
        have e14 : (k == 14) = false := by simp; omega
        have e15 : (k == 15) = false := by simp; omega
        have e16 : (k == 16) = false := by simp; omega
        have e17 : (k == 17) = false := by simp; omega
        have e18 : (k == 18) = false := by simp; omega
        have h16 : k ≠ 16 := by omega
        have kc : kindE k [x, y] = (if oneB x y then (2, 0) else (0, 9)) := by unfold kindE; rw [if_neg (by omega), if_pos (by omega)]; rfl
        clear hk hkn hlen hlen2
        cases h1 : oneB x y
        · rw [h1, if_neg (by simp)] at tt
          obtain ⟨rfl, rfl, rfl⟩ := three_of Fin.out (typOf_ok (T := 0) (ER := 9) h16 (by rw [kc, h1]; rfl))
          clear Fin
          go_wp2
          go_quiet ((go_at_call 150; exact Calls.quiet_of_same (tog_q _ _ _)))
          go_wp2_with ((go_at_call 150; ((with_reducible refine (together_any _ _ _).mono ?_); rintro e w' ⟨rfl, rfl⟩)))
          exact bodyPost_ret (by simp [results, Try.results139, go_sem, letE, lett]) rfl ⟨rfl, hbs.out, hgx.drewN _⟩
        · rw [h1, if_pos rfl] at tt
          have tl : (lett (oneT x y) != 0) = true := by simp [lett_ne]
          obtain ⟨rfl, rfl, rfl⟩ := three_of Fin.out (typOf_ok (T := 2) (ER := 0) h16 (by rw [kc, h1]; rfl))
          clear Fin
          go_wp2
          go_quiet ((go_at_call 150; exact Calls.quiet_of_same (tog_q _ _ _)))
          go_wp2_with ((go_at_call 150; ((with_reducible refine (together_any _ _ _).mono ?_); rintro e w' ⟨rfl, rfl⟩)))
          exact bodyPost_ret (by simp [results, Try.results139, go_sem, letE, lett]) rfl ⟨rfl, hbs.out, hgx.drewN _⟩
      · obtain ⟨x, y, rfl⟩ : ∃ x y, ts = [x, y] := len2 (by have : (ts.length : Int) = 2 := hlen; omega)
        have hx := Hty.out x (by simp)
        have hy := Hty.out y (by simp)
        have c0 := hcell 0 x rfl
        have cn0 : ∀ n, (wr.drewN n).cell? ⟨gt, 0, none⟩ = some (.int .u8 (lett x)) := fun _ => c0
        have c1 := hcell 1 y rfl
        have cn1 : ∀ n, (wr.drewN n).cell? ⟨gt, 1, none⟩ = some (.int .u8 (lett y)) := fun _ => c1
        simp only [List.length_cons, List.length_nil] at htl hct ⊢
        subst htl
        have twx := tog_want hx (.inr (.inl rfl) : (3:Int) = 2 ∨ (3:Int) = 3 ∨ (3:Int) = 4)
        have twy := tog_want hy (.inr (.inl rfl) : (3:Int) = 2 ∨ (3:Int) = 3 ∨ (3:Int) = 4)
        cases h1x : oneB x 3
        · rw [h1x] at twx
          have tx : (togL (lett x) 105 == 105) = false := twx
          clear twx
          obtain ⟨rfl, rfl, rfl⟩ := three_of Fin.out (typOf_ok (T := 0) (ER := 9) (by decide) (by simp [kindE, h1x]))
          clear Fin
          go_wp2_with ((go_at_call 150; ((with_reducible refine (together_any _ _ _).mono ?_); rintro e w' ⟨rfl, rfl⟩)))
          exact bodyPost_ret (by simp [results, Try.results139, go_sem, letE, lett]) rfl ⟨rfl, hbs.out, hgx⟩
        · rw [h1x] at twx
          have tx : (togL (lett x) 105 == 105) = true := twx
          clear twx
          cases h1y : oneB y 3
          · rw [h1y] at twy
            have ty : (togL (lett y) 105 == 105) = false := twy
            clear twy
            obtain ⟨rfl, rfl, rfl⟩ := three_of Fin.out (typOf_ok (T := 0) (ER := 9) (by decide) (by simp [kindE, h1x, h1y]))
            clear Fin
            go_wp2_with ((go_at_call 150; ((with_reducible refine (together_any _ _ _).mono ?_); rintro e w' ⟨rfl, rfl⟩)))
            exact bodyPost_ret (by simp [results, Try.results139, go_sem, letE, lett]) rfl ⟨rfl, hbs.out, hgx⟩
          · rw [h1y] at twy
            have ty : (togL (lett y) 105 == 105) = true := twy
            clear twy
            obtain ⟨rfl, rfl, rfl⟩ := three_of Fin.out (typOf_ok (T := 3) (ER := 0) (by decide) (by simp [kindE, h1x, h1y]))
            clear Fin
            go_wp2_with ((go_at_call 150; ((with_reducible refine (together_any _ _ _).mono ?_); rintro e w' ⟨rfl, rfl⟩)))
            exact bodyPost_ret (by simp [results, Try.results139, go_sem, letE, lett]) rfl ⟨rfl, hbs.out, hgx⟩
      · obtain ⟨x, y, rfl⟩ : ∃ x y, ts = [x, y] := len2 (by have : (ts.length : Int) = 2 := hlen; omega)
        have hx := Hty.out x (by simp)
        have hy := Hty.out y (by simp)
        have c0 := hcell 0 x rfl
        have cn0 : ∀ n, (wr.drewN n).cell? ⟨gt, 0, none⟩ = some (.int .u8 (lett x)) := fun _ => c0
        have c1 := hcell 1 y rfl
        have cn1 : ∀ n, (wr.drewN n).cell? ⟨gt, 1, none⟩ = some (.int .u8 (lett y)) := fun _ => c1
        simp only [List.length_cons, List.length_nil] at htl hct ⊢
        subst htl
        have twx := tog_want hx (.inr (.inl rfl) : (3:Int) = 2 ∨ (3:Int) = 3 ∨ (3:Int) = 4)
        have twy := tog_want hy (.inr (.inl rfl) : (3:Int) = 2 ∨ (3:Int) = 3 ∨ (3:Int) = 4)
        cases h1x : oneB x 3
        · rw [h1x] at twx
          have tx : (togL (lett x) 105 == 105) = false := twx
          clear twx
          obtain ⟨rfl, rfl, rfl⟩ := three_of Fin.out (typOf_ok (T := 0) (ER := 9) (by decide) (by simp [kindE, h1x]))
          clear Fin
          go_wp2_with ((go_at_call 150; ((with_reducible refine (together_any _ _ _).mono ?_); rintro e w' ⟨rfl, rfl⟩)))
          exact bodyPost_ret (by simp [results, Try.results139, go_sem, letE, lett]) rfl ⟨rfl, hbs.out, hgx⟩
        · rw [h1x] at twx
          have tx : (togL (lett x) 105 == 105) = true := twx
          clear twx
          cases h1y : oneB y 3
          · rw [h1y] at twy
            have ty : (togL (lett y) 105 == 105) = false := twy
            clear twy
            obtain ⟨rfl, rfl, rfl⟩ := three_of Fin.out (typOf_ok (T := 0) (ER := 9) (by decide) (by simp [kindE, h1x, h1y]))
            clear Fin
            go_wp2_with ((go_at_call 150; ((with_reducible refine (together_any _ _ _).mono ?_); rintro e w' ⟨rfl, rfl⟩)))
            exact bodyPost_ret (by simp [results, Try.results139, go_sem, letE, lett]) rfl ⟨rfl, hbs.out, hgx⟩
          · rw [h1y] at twy
            have ty : (togL (lett y) 105 == 105) = true := twy
            clear twy
            obtain ⟨rfl, rfl, rfl⟩ := three_of Fin.out (typOf_ok (T := 3) (ER := 0) (by decide) (by simp [kindE, h1x, h1y]))
            clear Fin
            go_wp2_with ((go_at_call 150; ((with_reducible refine (together_any _ _ _).mono ?_); rintro e w' ⟨rfl, rfl⟩)))
            exact bodyPost_ret (by simp [results, Try.results139, go_sem, letE, lett]) rfl ⟨rfl, hbs.out, hgx⟩
      · obtain ⟨x, y, rfl⟩ : ∃ x y, ts = [x, y] := len2 (by have : (ts.length : Int) = 2 := hlen; omega)
        have hx := Hty.out x (by simp)
        have hy := Hty.out y (by simp)
        have c0 := hcell 0 x rfl
        have cn0 : ∀ n, (wr.drewN n).cell? ⟨gt, 0, none⟩ = some (.int .u8 (lett x)) := fun _ => c0
        have c1 := hcell 1 y rfl
        have cn1 : ∀ n, (wr.drewN n).cell? ⟨gt, 1, none⟩ = some (.int .u8 (lett y)) := fun _ => c1
        simp only [List.length_cons, List.length_nil] at htl hct ⊢
        subst htl
        have twx := tog_want hx (.inr (.inl rfl) : (3:Int) = 2 ∨ (3:Int) = 3 ∨ (3:Int) = 4)
        have twy := tog_want hy (.inr (.inl rfl) : (3:Int) = 2 ∨ (3:Int) = 3 ∨ (3:Int) = 4)
        cases h1x : oneB x 3
        · rw [h1x] at twx
          have tx : (togL (lett x) 105 == 105) = false := twx
          clear twx
          obtain ⟨rfl, rfl, rfl⟩ := three_of Fin.out (typOf_ok (T := 0) (ER := 9) (by decide) (by simp [kindE, h1x]))
          clear Fin
          go_wp2_with ((go_at_call 150; ((with_reducible refine (together_any _ _ _).mono ?_); rintro e w' ⟨rfl, rfl⟩)))
          exact bodyPost_ret (by simp [results, Try.results139, go_sem, letE, lett]) rfl ⟨rfl, hbs.out, hgx⟩
        · rw [h1x] at twx
          have tx : (togL (lett x) 105 == 105) = true := twx
          clear twx
          cases h1y : oneB y 3
          · rw [h1y] at twy
            have ty : (togL (lett y) 105 == 105) = false := twy
            clear twy
            obtain ⟨rfl, rfl, rfl⟩ := three_of Fin.out (typOf_ok (T := 0) (ER := 9) (by decide) (by simp [kindE, h1x, h1y]))
            clear Fin
            go_wp2_with ((go_at_call 150; ((with_reducible refine (together_any _ _ _).mono ?_); rintro e w' ⟨rfl, rfl⟩)))
            exact bodyPost_ret (by simp [results, Try.results139, go_sem, letE, lett]) rfl ⟨rfl, hbs.out, hgx⟩
          · rw [h1y] at twy
            have ty : (togL (lett y) 105 == 105) = true := twy
            clear twy
            obtain ⟨rfl, rfl, rfl⟩ := three_of Fin.out (typOf_ok (T := 3) (ER := 0) (by decide) (by simp [kindE, h1x, h1y]))
            clear Fin
            go_wp2_with ((go_at_call 150; ((with_reducible refine (together_any _ _ _).mono ?_); rintro e w' ⟨rfl, rfl⟩)))
            exact bodyPost_ret (by simp [results, Try.results139, go_sem, letE, lett]) rfl ⟨rfl, hbs.out, hgx⟩
      · obtain ⟨x, y, rfl⟩ : ∃ x y, ts = [x, y] := len2 (by have : (ts.length : Int) = 2 := hlen; omega)
        have hx := Hty.out x (by simp)
        have hy := Hty.out y (by simp)
        have c0 := hcell 0 x rfl
        have cn0 : ∀ n, (wr.drewN n).cell? ⟨gt, 0, none⟩ = some (.int .u8 (lett x)) := fun _ => c0
        have c1 := hcell 1 y rfl
        have cn1 : ∀ n, (wr.drewN n).cell? ⟨gt, 1, none⟩ = some (.int .u8 (lett y)) := fun _ => c1
        simp only [List.length_cons, List.length_nil] at htl hct ⊢
        subst htl
        have twx := tog_want hx (.inr (.inr rfl) : (4:Int) = 2 ∨ (4:Int) = 3 ∨ (4:Int) = 4)
        have twy := tog_want hy (.inr (.inr rfl) : (4:Int) = 2 ∨ (4:Int) = 3 ∨ (4:Int) = 4)
        cases h1x : oneB x 4
        · rw [h1x] at twx
          have tx : (togL (lett x) 116 == 116) = false := twx
          clear twx
          obtain ⟨rfl, rfl, rfl⟩ := three_of Fin.out (typOf_ok (T := 0) (ER := 9) (by decide) (by simp [kindE, h1x]))
          clear Fin
          go_wp2_with ((go_at_call 150; ((with_reducible refine (together_any _ _ _).mono ?_); rintro e w' ⟨rfl, rfl⟩)))
          exact bodyPost_ret (by simp [results, Try.results139, go_sem, letE, lett]) rfl ⟨rfl, hbs.out, hgx⟩
        · rw [h1x] at twx
          have tx : (togL (lett x) 116 == 116) = true := twx
          clear twx
          cases h1y : oneB y 4
          · rw [h1y] at twy
            have ty : (togL (lett y) 116 == 116) = false := twy
            clear twy
            obtain ⟨rfl, rfl, rfl⟩ := three_of Fin.out (typOf_ok (T := 0) (ER := 9) (by decide) (by simp [kindE, h1x, h1y]))
            clear Fin
            go_wp2_with ((go_at_call 150; ((with_reducible refine (together_any _ _ _).mono ?_); rintro e w' ⟨rfl, rfl⟩)))
            exact bodyPost_ret (by simp [results, Try.results139, go_sem, letE, lett]) rfl ⟨rfl, hbs.out, hgx⟩
          · rw [h1y] at twy
            have ty : (togL (lett y) 116 == 116) = true := twy
            clear twy
            obtain ⟨rfl, rfl, rfl⟩ := three_of Fin.out (typOf_ok (T := 4) (ER := 0) (by decide) (by simp [kindE, h1x, h1y]))
            clear Fin
            go_wp2_with ((go_at_call 150; ((with_reducible refine (together_any _ _ _).mono ?_); rintro e w' ⟨rfl, rfl⟩)))
            exact bodyPost_ret (by simp [results, Try.results139, go_sem, letE, lett]) rfl ⟨rfl, hbs.out, hgx⟩
      · obtain ⟨x, rfl⟩ : ∃ x, ts = [x] := len1 (by have : (ts.length : Int) = 1 := hlen; omega)
        have hx := Hty.out x (by simp)
        have c0 := hcell 0 x rfl
        have cn0 : ∀ n, (wr.drewN n).cell? ⟨gt, 0, none⟩ = some (.int .u8 (lett x)) := fun _ => c0
        simp only [List.length_cons, List.length_nil] at htl hct ⊢
        subst htl
        obtain ⟨rfl, rfl, rfl⟩ := three_of Fin.out (show typOf 16 (0, m', [x]) = (2, 0, m') by simp [typOf])
        clear Fin
        go_wp2
        exact bodyPost_ret (by simp [results, Try.results139, go_sem, letE, lett]) rfl ⟨rfl, hbs.out, hgx⟩
      · obtain ⟨x, y, z, rfl⟩ : ∃ x y z, ts = [x, y, z] := len3 (by have : (ts.length : Int) = 3 := hlen; omega)
        have hx := Hty.out x (by simp)
        have hy := Hty.out y (by simp)
        have hz := Hty.out z (by simp)
        have c0 := hcell 0 x rfl
        have cn0 : ∀ n, (wr.drewN n).cell? ⟨gt, 0, none⟩ = some (.int .u8 (lett x)) := fun _ => c0
        have c1 := hcell 1 y rfl
        have cn1 : ∀ n, (wr.drewN n).cell? ⟨gt, 1, none⟩ = some (.int .u8 (lett y)) := fun _ => c1
        have c2 := hcell 2 z rfl
        have cn2 : ∀ n, (wr.drewN n).cell? ⟨gt, 2, none⟩ = some (.int .u8 (lett z)) := fun _ => c2
        simp only [List.length_cons, List.length_nil] at htl hct ⊢
        subst htl
        have tt := tog_two hy hz
        have twx := tog_want hx (.inl rfl : (2:Int) = 2 ∨ (2:Int) = 3 ∨ (2:Int) = 4)
        cases h1 : oneB y z
        · rw [h1, if_neg (by simp)] at tt
          clear twx
          obtain ⟨rfl, rfl, rfl⟩ := three_of Fin.out (typOf_ok (T := 0) (ER := 9) (by decide) (by simp [kindE, h1]))
          clear Fin
          go_wp2
          go_quiet ((go_at_call 150; exact Calls.quiet_of_same (tog_q _ _ _)))
          go_wp2_with ((go_at_call 150; ((with_reducible refine (together_any _ _ _).mono ?_); rintro e w' ⟨rfl, rfl⟩)))
          exact bodyPost_ret (by simp [results, Try.results139, go_sem, letE, lett]) rfl ⟨rfl, hbs.out, hgx.drewN _⟩
        · rw [h1, if_pos rfl] at tt
          have tl : (lett (oneT y z) != 0) = true := by simp [lett_ne]
          cases h1x : oneB x 2
          · rw [h1x] at twx
            have tx : (togL (lett x) 98 == 98) = false := twx
            clear twx
            obtain ⟨rfl, rfl, rfl⟩ := three_of Fin.out (typOf_ok (T := 0) (ER := 9) (by decide) (by simp [kindE, h1, h1x]))
            clear Fin
            go_wp2
            go_quiet ((go_at_call 150; exact Calls.quiet_of_same (tog_q _ _ _)))
            go_wp2_with ((go_at_call 150; ((with_reducible refine (together_any _ _ _).mono ?_); rintro e w' ⟨rfl, rfl⟩)))
            exact bodyPost_ret (by simp [results, Try.results139, go_sem, letE, lett]) rfl ⟨rfl, hbs.out, hgx.drewN _⟩
          · rw [h1x] at twx
            have tx : (togL (lett x) 98 == 98) = true := twx
            clear twx
            obtain ⟨rfl, rfl, rfl⟩ := three_of Fin.out (typOf_ok (T := (oneT y z)) (ER := 0) (by decide) (by simp [kindE, h1, h1x]))
            clear Fin
            go_wp2
            go_quiet ((go_at_call 150; exact Calls.quiet_of_same (tog_q _ _ _)))
            go_wp2_with ((go_at_call 150; ((with_reducible refine (together_any _ _ _).mono ?_); rintro e w' ⟨rfl, rfl⟩)))
            exact bodyPost_ret (by simp [results, Try.results139, go_sem, letE, lett]) rfl ⟨rfl, hbs.out, hgx.drewN _⟩
      · obtain ⟨x, y, rfl⟩ : ∃ x y, ts = [x, y] := len2 (by have : (ts.length : Int) = 2 := hlen; omega)
        have hx := Hty.out x (by simp)
        have hy := Hty.out y (by simp)
        have c0 := hcell 0 x rfl
        have cn0 : ∀ n, (wr.drewN n).cell? ⟨gt, 0, none⟩ = some (.int .u8 (lett x)) := fun _ => c0
        have c1 := hcell 1 y rfl
        have cn1 : ∀ n, (wr.drewN n).cell? ⟨gt, 1, none⟩ = some (.int .u8 (lett y)) := fun _ => c1
        simp only [List.length_cons, List.length_nil] at htl hct ⊢
        subst htl
        have tt := tog_two hx hy
        cases h1 : oneB x y
        · rw [h1, if_neg (by simp)] at tt
          obtain ⟨rfl, rfl, rfl⟩ := three_of Fin.out (typOf_ok (T := 0) (ER := 9) (by decide) (by simp [kindE, h1]))
          clear Fin
          go_wp2
          go_quiet ((go_at_call 150; exact Calls.quiet_of_same (tog_q _ _ _)))
          go_wp2_with ((go_at_call 150; ((with_reducible refine (together_any _ _ _).mono ?_); rintro e w' ⟨rfl, rfl⟩)))
          exact bodyPost_ret (by simp [results, Try.results139, go_sem, letE, lett]) rfl ⟨rfl, hbs.out, hgx.drewN _⟩
        · rw [h1, if_pos rfl] at tt
          have tl : (lett (oneT x y) != 0) = true := by simp [lett_ne]
          obtain ⟨rfl, rfl, rfl⟩ := three_of Fin.out (typOf_ok (T := (oneT x y)) (ER := 0) (by decide) (by simp [kindE, h1]))
          clear Fin
          go_wp2
          go_quiet ((go_at_call 150; exact Calls.quiet_of_same (tog_q _ _ _)))
          go_wp2_with ((go_at_call 150; ((with_reducible refine (together_any _ _ _).mono ?_); rintro e w' ⟨rfl, rfl⟩)))
          exact bodyPost_ret (by simp [results, Try.results139, go_sem, letE, tt]) rfl ⟨rfl, hbs.out, hgx.drewN _⟩
end Go.Proofs.Ytpgpecdiajmgmaa

namespace Go.Proofs.Ytpgpecdiajmgmaa
open Go.RowKit Go.Calm
set_option linter.unusedSimpArgs false
set_option linter.unusedVariables false

theorem rtyp_any (cols : List Int) (Ac : Option Addr) (cc : Nat) (hall : cols.all colB = true) (hlen : cols.length ≤ 9223372036854775807) (e : E) : RTypC cols Ac cc e := by
  induction e with
  | leaf =>
    intro g deep m w0 w hE hcols hg0 hlt hb h0 h1 hd0 hd1
    unfold typE
    by_cases hm : 200 < m + 1 ∨ 20 < deep
    · rw [if_pos hm]; exact rtyp_much cols Ac cc .leaf g deep m w hb h0 h1 hm
    · rw [if_neg hm]
      exact rtyp_form cols Ac cc .leaf g deep m w hb h0 (by simp; omega) (by simp; omega) (Nat.zero_le _) (.inl (by decide))
  | mk k v c A n cap kid ih =>
    intro g deep m w0 w hE hcols hg0 hlt hb h0 h1 hd0 hd1
    have hn : n ≤ maxLen := by cases hE with | mk hn => exact hn
    by_cases hm : 200 < m + 1 ∨ 20 < deep
    · unfold typE
      rw [if_pos hm]; exact rtyp_much cols Ac cc (.mk k v c A n cap kid) g deep m w hb h0 h1 hm
    · have d1 : decide (200 < m + 1) = false := by simp; omega
      have d2 : decide (20 < deep) = false := by simp; omega
      by_cases hf : kidsN k < 0 ∨ ¬ kidsN k < 0 ∧ (n : Int) ≠ kidsN k
      · have e : typE cols (.mk k v c A n cap kid) deep m = (0, if kidsN k < 0 then 1 else 5, m + 1) := by
          unfold typE
          rw [if_neg hm]
          rcases hf with hf | ⟨hf, hf2⟩
          · rw [if_pos hf, if_pos hf]
          · rw [if_neg hf, if_pos hf2, if_neg hf]
        rw [e]
        have e2 : letE 0 (if kidsN k < 0 then 1 else 5) = 0 := by
          unfold letE
          rw [if_neg]
          split <;> decide
        simp only [e2]
        exact rtyp_form cols Ac cc (.mk k v c A n cap kid) g deep m w hb h0 d1 d2 hn hf
      · have hk0 : ¬ kidsN k < 0 := fun h => hf (.inl h)
        have hnk : (n : Int) = kidsN k := Classical.byContradiction fun h => hf (.inr ⟨hk0, h⟩)
        by_cases hz : kidsN k = 0
        · have hn0 : n = 0 := by omega
          subst hn0
          rcases kids_zero hz with rfl | rfl
          · have e : typE cols (.mk 1 v c A 0 cap kid) deep m = (v.k, wrongV v, m + 1) := by
              unfold typE
              rw [if_neg hm, if_neg hk0, if_neg (by omega)]
              simp [typKids]
            rw [e]
            exact rtyp_lit cols Ac cc (.mk 1 v c A 0 cap kid) g deep m w hb h0 d1 d2 rfl rfl
          · by_cases hc : c < 0 ∨ (cols.length : Int) ≤ c
            · have e : typE cols (.mk 2 v c A 0 cap kid) deep m = (0, 7, m + 1) := by
                unfold typE
                rw [if_neg hm, if_neg hk0, if_neg (by omega)]
                simp [typKids, hc]
              rw [e]
              exact rtyp_name cols Ac cc (.mk 2 v c A 0 cap kid) g deep m w hb h0 d1 d2 rfl rfl hc
            · have e : typE cols (.mk 2 v c A 0 cap kid) deep m = (cols.getD c.toNat 0, 0, m + 1) := by
                unfold typE
                rw [if_neg hm, if_neg hk0, if_neg (by omega)]
                simp only [typKids]
                rw [if_neg (by simp), if_neg (by decide), if_pos trivial, if_neg hc]
              rw [e]
              have e2 : letE (cols.getD c.toNat 0) 0 = lett (cols.getD c.toNat 0) := by simp [letE]
              simp only [e2]
              refine rtyp_col cols Ac cc (.mk 2 v c A 0 cap kid) g deep m w hb h0 d1 d2 rfl rfl ?_ ?_ hlen hall (hcols.grow hg0) (fun a ha => ?_)
              · show 0 ≤ c; omega
              · show c < (cols.length : Int); omega
              · have hl : 0 < cols.length := by omega
                obtain ⟨ga, oa, h1, h2⟩ := hcols 0 (cols[0]) (by simp [hl])
                rw [h1] at ha
                cases ha
                have : ga < w0.heap.size := Grow.lt h2
                simp only
                omega
        · rw [typE_kids cols k v c A n cap kid deep m hm (by omega) hnk]
          obtain ⟨T, ER, M, hT⟩ : ∃ T ER M, typOf k (typKids (fun i m' => typE cols (kid i) (deep + 1) m') n 0 (m + 1) []) = (T, ER, M) := ⟨_, _, _, rfl⟩
          rw [hT]
          exact rtyp_kids cols Ac cc hall k v c A n cap kid ih g deep m w0 w hE hcols hg0 hlt hb h0 d1 d2 hd0 (by omega) hnk T ER M hT

theorem lett_eqb {k T : Int} (h1 : 1 ≤ k) (h2 : k ≤ T) (hT : Ty T) : (lett k == lett T) = decide (k = T) := by
  have : k = 1 ∨ k = 2 ∨ k = 3 ∨ k = 4 := by unfold Ty at hT; omega
  rcases hT.cases with rfl | rfl | rfl | rfl <;> rcases this with rfl | rfl | rfl | rfl <;> first | rfl | omega

set_option maxRecDepth 100000 in
set_option maxHeartbeats 4000000 in
theorem typeof_any (cols : List Int) (Ac : Option Addr) (cc : Nat) (e : E) (w : World) (hlen : cols.length ≤ 9223372036854775807) (hcols : ISl w Ac cols) (hE : EX w e) :
    Calls Try.prog 127 #[.slice Ac cols.length cc, e.val] w fun en w' => en = .returned (.tuple #[.int .i64 (typeE cols e).1, .int .i64 (typeE cols e).2]) ∧ Grow w w' := by
  have HE := Lib.hid hE
  have Hcols := Lib.hid hcols
  clear hE hcols
  by_cases h16 : 16 < cols.length
  · have e1 : typeE cols e = (0, 5) := by simp [typeE, h16]
    rw [e1]; clear e1
    have d1 : decide (16 < (cols.length : Int)) = true := by simp; omega
    clear h16
    unfold E.val
    go_enter Try.func127, Try.ntmps127
    go_wp2
    exact bodyPost_ret (by simp [results, Try.results127, go_sem]) rfl ⟨rfl, (by repeat (first | (with_reducible exact Grow.refl _) | (with_reducible assumption) | (with_reducible refine Grow.set ?_ (by first | (simp; done) | (simp; omega)) _) | (with_reducible refine Grow.al ?_ _) | (with_reducible refine Grow.drew ?_) | (with_reducible refine Grow.drewN ?_ _) | (with_reducible refine Grow.trans ?_ (by assumption))))⟩
  · have d1 : decide (16 < (cols.length : Int)) = false := by simp; omega
    obtain ⟨T, ER, hT⟩ : ∃ T ER, typeE cols e = (T, ER) := ⟨_, _, rfl⟩
    rw [hT]
    have HT := Lib.hid hT
    have H16 := Lib.hid h16
    clear hT h16
    unfold E.val
    go_enter Try.func127, Try.ntmps127
    go_wp2
    refine wp_forget (fun W => Blk W w.heap.size 27 #[.int .i64 e.kind, .int .i64 e.v.k, .int .i64 e.v.n, .string e.v.s, .int .i64 e.col, .slice e.A e.n e.cap] ∧ Grow w W) ⟨Blk.new _ _ _, (by repeat (first | (with_reducible exact Grow.refl _) | (with_reducible assumption) | (with_reducible refine Grow.set ?_ (by first | (simp; done) | (simp; omega)) _) | (with_reducible refine Grow.al ?_ _) | (with_reducible refine Grow.drew ?_) | (with_reducible refine Grow.drewN ?_ _) | (with_reducible refine Grow.trans ?_ (by assumption))))⟩ ?_
    rintro W ⟨B, G⟩
    go_loopw [16] (fun i wr => ∃ k : Nat, k ≤ cols.length ∧ i = .int .i64 k ∧ (cols.take k).all colB = true ∧ wr = W) (fun i _ => cols.length - (intOf i).toNat)
    case atStart => exact ⟨0, Nat.zero_le _, rfl, rfl, rfl⟩
    case round =>
      obtain ⟨k, hk, rfl, hall, rfl⟩ := hrel
      have Hall := Lib.hid hall
      clear hall
      by_cases hlt : k < cols.length
      · obtain ⟨x, hxk⟩ : ∃ x, cols[k]? = some x := ⟨_, List.getElem?_eq_getElem hlt⟩
        obtain ⟨g, o, rfl, c1⟩ := (Hcols.out.grow G) k x hxk
        have Hxk := Lib.hid hxk
        clear hxk
        cases hr : colB x
        · have fin : typeE cols e = (0, 1) := by
            have := all_fails colB cols k x Hxk.out hr
            unfold typeE
            rw [if_neg H16.out, if_pos this]
          obtain ⟨rfl, rfl⟩ : T = 0 ∧ ER = 1 := by simpa using HT.out.symm.trans fin
          clear fin
          rcases colB_no hr with d2 | ⟨d2, d3⟩
          · go_wp2
            exact bodyPost_ret (by simp [results, Try.results127, go_sem]) rfl ⟨rfl, (by repeat (first | (with_reducible exact Grow.refl _) | (with_reducible assumption) | (with_reducible refine Grow.set ?_ (by first | (simp; done) | (simp; omega)) _) | (with_reducible refine Grow.al ?_ _) | (with_reducible refine Grow.drew ?_) | (with_reducible refine Grow.drewN ?_ _) | (with_reducible refine Grow.trans ?_ (by assumption))))⟩
          · go_wp2
            exact bodyPost_ret (by simp [results, Try.results127, go_sem]) rfl ⟨rfl, (by repeat (first | (with_reducible exact Grow.refl _) | (with_reducible assumption) | (with_reducible refine Grow.set ?_ (by first | (simp; done) | (simp; omega)) _) | (with_reducible refine Grow.al ?_ _) | (with_reducible refine Grow.drew ?_) | (with_reducible refine Grow.drewN ?_ _) | (with_reducible refine Grow.trans ?_ (by assumption))))⟩
        · have Hr := Lib.hid (all_take colB cols k x Hxk.out Hall.out hr)
          obtain ⟨d2, d3⟩ := colB_ok hr
          go_wp2
          go_roundw
          case rel => exact ⟨k + 1, by omega, by go_num, Hr.out, trivial⟩
          case measure => simp [intOf]; omega
      · have hall : cols.all colB = true := by
          have := Hall.out
          rwa [List.take_of_length_le (by omega)] at this
        obtain ⟨q1, q2, q3, hq⟩ : ∃ q1 q2 q3, typE cols e 1 0 = (q1, q2, q3) := ⟨_, _, _, rfl⟩
        have ct := fun W' (h1 : Grow wr W') hb => rtyp_any cols Ac cc hall hlen e wr.heap.size 1 0 wr W' (HE.out.grow G) (Hcols.out.grow G) h1 (Nat.le_refl _) hb (by omega) (by omega) (by omega) (by omega)
        have hqt := typE_ty cols hall e 1 0
        rw [hq] at ct hqt
        simp only at ct hqt
        have Gs := G.size
        obtain ⟨cb, fb⟩ := B.rules
        have lB := B.lt
        by_cases h2 : q2 = 0
        · have fin : typeE cols e = (q1, 0) := by
            unfold typeE
            rw [if_neg H16.out, if_neg (by simp [hall]), hq, if_neg (by simp [h2])]
          obtain ⟨rfl, rfl⟩ : T = q1 ∧ ER = 0 := by simpa using HT.out.symm.trans fin
          subst h2
          have Hqt := Lib.hid (hqt rfl)
          have e2 : letE T 0 = lett T := by simp [letE]
          rw [e2] at ct
          clear fin hq hall e2 hqt
          go_wp2_with (go_at_call 139; ((with_reducible refine (ct _ ((Grow.refl _).al _) (Blk.new _ _ _)).mono ?_); rintro en w2 ⟨rfl, hb2, hg2⟩))
          go_loopw [10] (fun t w3 => ∃ k : Int, 1 ≤ k ∧ k ≤ T ∧ t = .int .i64 k ∧ w3 = w2) (fun t _ => (5 - intOf t).toNat)
          case atStart => exact ⟨1, by omega, Hqt.out.1, rfl, rfl⟩
          case round =>
            obtain ⟨k, hk1, hk2, rfl, rfl⟩ := hrel
            have hT4 : T ≤ 4 := Hqt.out.2
            have d4 : decide (k ≤ 4) = true := by simp; omega
            have d5 := lett_eqb hk1 hk2 Hqt.out
            by_cases hkT : k = T
            · have d6 : (lett k == lett T) = true := by rw [d5]; simpa using hkT
              clear d5
              subst hkT
              go_wp2_with ((go_at_call 140; ((with_reducible refine (letter_any _ (by omega) (by omega) _).mono ?_); rintro e w' ⟨rfl, rfl⟩)))
              exact bodyPost_ret (by simp [results, Try.results127, go_sem]) rfl ⟨rfl, GX.base (G.al _) Gs hg2⟩
            · have d6 : (lett k == lett T) = false := by rw [d5]; simpa using hkT
              clear d5
              go_wp2_with ((go_at_call 140; ((with_reducible refine (letter_any _ (by omega) (by omega) _).mono ?_); rintro e w' ⟨rfl, rfl⟩)))
              go_roundw
              case rel => exact ⟨k + 1, by omega, by omega, by go_num, trivial⟩
              case measure => simp [intOf]; omega
        · have fin : typeE cols e = (0, q2) := by
            unfold typeE
            rw [if_neg H16.out, if_neg (by simp [hall]), hq, if_pos (by simp [h2])]
          have dq : (q2 != 0) = true := by simpa using h2
          obtain ⟨rfl, rfl⟩ : T = 0 ∧ ER = q2 := by simpa using HT.out.symm.trans fin
          clear fin hq hall h2 hqt
          go_wp2_with (go_at_call 139; ((with_reducible refine (ct _ ((Grow.refl _).al _) (Blk.new _ _ _)).mono ?_); rintro en w2 ⟨rfl, hb2, hg2⟩))
          exact bodyPost_ret (by simp [results, Try.results127, go_sem]) rfl ⟨rfl, GX.base (G.al _) Gs hg2⟩
end Go.Proofs.Ytpgpecdiajmgmaa
