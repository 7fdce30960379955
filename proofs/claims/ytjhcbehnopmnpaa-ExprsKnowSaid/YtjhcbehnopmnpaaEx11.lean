/-
  The reference's Look.Type: columns.
-/
import Derived.Test.YtjhcbehnopmnpaaEx10
import Derived.BigQuiet
import Derived.Deep.QuietTactic
namespace Go.Proofs.Ytjhcbehnopmnpaa
open Go.RowKit Go.Calm
set_option linter.unusedSimpArgs false
set_option linter.unusedVariables false

/-- a cell of another block stays -/
theorem GX.cell {g : Nat} {a b : World} (h : GX g a b) {k o : Nat} {v : Value} (hc : a.cell? ⟨k, o, none⟩ = some v) (hne : k ≠ g) : b.cell? ⟨k, o, none⟩ = some v := World.grownBy.cell h hc (by simpa using hne)
theorem letter_q (t : Int) (h1 : 0 ≤ t) (h2 : t ≤ 4) (w : World) : Calls Try.prog 110 #[.int .i64 t] w fun e w' => e = .returned (.int .u8 (lett t)) ∧ w' = w := (letter_any t h1 h2 w).mono fun _ _ ⟨h1, h2⟩ => ⟨h1, h2.symm⟩
theorem tog_q (a b : Int) (w : World) : Calls Try.prog 145 #[.int .u8 a, .int .u8 b] w fun e w' => e = .returned (.int .u8 (togL a b)) ∧ w' = w := (together_any a b w).mono fun _ _ ⟨h1, h2⟩ => ⟨h1, h2.symm⟩

set_option maxRecDepth 100000 in
set_option maxHeartbeats 4000000 in
theorem rtyp_name (cols : List Int) (Ac : Option Addr) (cc : Nat) (e : E) (g : Nat) (deep m : Int) (w : World) (hb : Blk w g 108 #[.slice Ac cols.length cc, .int .i64 m]) (h0 : 0 ≤ m) (d1 : decide (200 < m + 1) = false) (d2 : decide (20 < deep) = false) (hk : e.kind = 2) (hn : e.n = 0) (h : e.col < 0 ∨ (cols.length : Int) ≤ e.col) :
  Calls Try.prog 109 #[.pointer (some ⟨g, 0, none⟩), e.val, .int .i64 deep] w fun en w' =>
    en = .returned (.tuple #[.int .u8 0, .int .i64 7]) ∧ Blk w' g 108 #[.slice Ac cols.length cc, .int .i64 (m + 1)] ∧ GX g w w' := by
  have hgN := hb.lt
  have hgn : g ≠ w.heap.size := by omega
  obtain ⟨c, f⟩ := hb.rules
  have hm : m + 1 ≤ 200 := by simp at d1; omega
  have kn : kidsN 2 = 0 := rfl
  unfold E.val
  rw [hk, hn]
  have d : decide (e.col < 0) = true ∨ decide (e.col < 0) = false ∧ decide ((cols.length : Int) ≤ e.col) = true := by
    simp only [decide_eq_true_eq, decide_eq_false_iff_not]; omega
  clear h hk hn
  rcases d with d3 | ⟨d3, d4⟩
  · go_enter Try.func109, Try.ntmps109
    go_upto_region 9 with (go_at_call 144; ((with_reducible refine (rkids_any _ _).mono ?_); rintro en w' ⟨rfl, hg⟩; obtain ⟨hc, hf, hz⟩ := hg.rules))
    refine wp_forget (fun W => Blk W w.heap.size 47 #[.int .i64 2, .int .i64 e.v.k, .int .i64 e.v.n, .string e.v.s, .int .i64 e.col, .slice e.A 0 e.cap] ∧ Blk W g 108 #[.slice Ac cols.length cc, .int .i64 (m + 1)] ∧ GX g w W) ⟨(Blk.new' _ _ _ (by simp)).grow hg, ((hb.set 1 _).al _).grow hg, (((GX.refl g w).set 1 _).al _).grow hg⟩ ?_
    clear c f hb hg hc hf hz
    rintro W ⟨B, hb, hg⟩
    obtain ⟨cb, fb⟩ := B.rules
    obtain ⟨c, f⟩ := hb.rules
    have lB := B.lt
    have lb := hb.lt
    go_wp2
    refine wp_forget (fun W => Blk W w.heap.size 47 #[.int .i64 2, .int .i64 e.v.k, .int .i64 e.v.n, .string e.v.s, .int .i64 e.col, .slice e.A 0 e.cap] ∧ Blk W g 108 #[.slice Ac cols.length cc, .int .i64 (m + 1)] ∧ GX g w W) ⟨B.al _, hb.al _, hg.al _⟩ ?_
    clear cb fb c f lB lb B hb hg
    rintro W ⟨B, hb, hg⟩
    obtain ⟨cb, fb⟩ := B.rules
    obtain ⟨c, f⟩ := hb.rules
    refine wp_loop_rounds 1 ?_
    rw [rounds_succ]
    go_wp2
    go_quiet (fail)
    go_wp2
    exact bodyPost_ret (by simp [results, Try.results109, go_sem]) rfl ⟨rfl, hb, hg.drewN _⟩
  · go_enter Try.func109, Try.ntmps109
    go_upto_region 9 with (go_at_call 144; ((with_reducible refine (rkids_any _ _).mono ?_); rintro en w' ⟨rfl, hg⟩; obtain ⟨hc, hf, hz⟩ := hg.rules))
    refine wp_forget (fun W => Blk W w.heap.size 47 #[.int .i64 2, .int .i64 e.v.k, .int .i64 e.v.n, .string e.v.s, .int .i64 e.col, .slice e.A 0 e.cap] ∧ Blk W g 108 #[.slice Ac cols.length cc, .int .i64 (m + 1)] ∧ GX g w W) ⟨(Blk.new' _ _ _ (by simp)).grow hg, ((hb.set 1 _).al _).grow hg, (((GX.refl g w).set 1 _).al _).grow hg⟩ ?_
    clear c f hb hg hc hf hz
    rintro W ⟨B, hb, hg⟩
    obtain ⟨cb, fb⟩ := B.rules
    obtain ⟨c, f⟩ := hb.rules
    have lB := B.lt
    have lb := hb.lt
    go_wp2
    refine wp_forget (fun W => Blk W w.heap.size 47 #[.int .i64 2, .int .i64 e.v.k, .int .i64 e.v.n, .string e.v.s, .int .i64 e.col, .slice e.A 0 e.cap] ∧ Blk W g 108 #[.slice Ac cols.length cc, .int .i64 (m + 1)] ∧ GX g w W) ⟨B.al _, hb.al _, hg.al _⟩ ?_
    clear cb fb c f lB lb B hb hg
    rintro W ⟨B, hb, hg⟩
    obtain ⟨cb, fb⟩ := B.rules
    obtain ⟨c, f⟩ := hb.rules
    refine wp_loop_rounds 1 ?_
    rw [rounds_succ]
    go_wp2
    go_quiet (fail)
    go_wp2
    exact bodyPost_ret (by simp [results, Try.results109, go_sem]) rfl ⟨rfl, hb, hg.drewN _⟩

set_option maxRecDepth 100000 in
set_option maxHeartbeats 4000000 in
theorem rtyp_col (cols : List Int) (Ac : Option Addr) (cc : Nat) (e : E) (g : Nat) (deep m : Int) (w : World) (hb : Blk w g 108 #[.slice Ac cols.length cc, .int .i64 m]) (h0 : 0 ≤ m) (d1 : decide (200 < m + 1) = false) (d2 : decide (20 < deep) = false) (hk : e.kind = 2) (hn : e.n = 0) (hcol : 0 ≤ e.col) (hlt : e.col < (cols.length : Int)) (hlen : cols.length ≤ 9223372036854775807) (hall : cols.all colB = true) (hi : ISl w Ac cols) (hga : ∀ a : Addr, Ac = some a → a.block ≠ g) :
  Calls Try.prog 109 #[.pointer (some ⟨g, 0, none⟩), e.val, .int .i64 deep] w fun en w' =>
    en = .returned (.tuple #[.int .u8 (lett (cols.getD e.col.toNat 0)), .int .i64 0]) ∧ Blk w' g 108 #[.slice Ac cols.length cc, .int .i64 (m + 1)] ∧ GX g w w' := by
  have hgN := hb.lt
  have hgn : g ≠ w.heap.size := by omega
  obtain ⟨j, hj⟩ : ∃ j : Nat, e.col = j := ⟨e.col.toNat, by omega⟩
  have hjl : j < cols.length := by omega
  have hjv : cols[j]? = some (cols.getD e.col.toNat 0) := by rw [hj]; simp [hjl]
  obtain ⟨ga, oa, rfl, ca⟩ := hi j _ hjv
  have hne : ga ≠ g := hga _ rfl
  have hty : 0 ≤ cols.getD e.col.toNat 0 ∧ cols.getD e.col.toNat 0 ≤ 4 := by
    have := List.all_eq_true.1 hall _ (List.mem_of_getElem? hjv)
    simp only [colB, Bool.and_eq_true, decide_eq_true_eq] at this
    omega
  generalize cols.getD e.col.toNat 0 = t at *
  have hgaN : ga < w.heap.size := Grow.lt ca
  obtain ⟨c, f⟩ := hb.rules
  have hm : m + 1 ≤ 200 := by simp at d1; omega
  have kn : kidsN 2 = 0 := rfl
  unfold E.val
  rw [hk, hn, hj]
  have d3 : decide ((j : Int) < 0) = false := by simp
  have d4 : decide ((cols.length : Int) ≤ (j : Int)) = false := by simp; omega
  clear hk hn hj hjv hlt hcol hi hga hall
  go_enter Try.func109, Try.ntmps109
  go_upto_region 9 with (go_at_call 144; ((with_reducible refine (rkids_any _ _).mono ?_); rintro en w' ⟨rfl, hg⟩; obtain ⟨hc, hf, hz⟩ := hg.rules))
  refine wp_forget (fun W => W.cell? ⟨ga, oa + j, none⟩ = some (.int .i64 t) ∧ Blk W w.heap.size 47 #[.int .i64 2, .int .i64 e.v.k, .int .i64 e.v.n, .string e.v.s, .int .i64 j, .slice e.A 0 e.cap] ∧ Blk W g 108 #[.slice (some ⟨ga, oa, none⟩) cols.length cc, .int .i64 (m + 1)] ∧ GX g w W) ⟨?_, (Blk.new' _ _ _ (by simp)).grow hg, ((hb.set 1 _).al _).grow hg, (((GX.refl g w).set 1 _).al _).grow hg⟩ ?_
  · exact GX.cell ((((GX.refl g w).set 1 _).al _).grow hg) ca hne
  clear c f hb hg hc hf hz ca
  rintro W ⟨ca, B, hb, hg⟩
  obtain ⟨cb, fb⟩ := B.rules
  obtain ⟨c, f⟩ := hb.rules
  have lB := B.lt
  have lb := hb.lt
  go_wp2
  refine wp_forget (fun W => W.cell? ⟨ga, oa + j, none⟩ = some (.int .i64 t) ∧ Blk W w.heap.size 47 #[.int .i64 2, .int .i64 e.v.k, .int .i64 e.v.n, .string e.v.s, .int .i64 j, .slice e.A 0 e.cap] ∧ Blk W g 108 #[.slice (some ⟨ga, oa, none⟩) cols.length cc, .int .i64 (m + 1)] ∧ GX g w W) ⟨(GX.refl g _).al _ |>.cell ca hne, B.al _, hb.al _, hg.al _⟩ ?_
  clear cb fb c f lB lb B hb hg ca
  rintro W ⟨ca, B, hb, hg⟩
  obtain ⟨cb, fb⟩ := B.rules
  obtain ⟨c, f⟩ := hb.rules
  refine wp_loop_rounds 1 ?_
  rw [rounds_succ]
  go_wp2
  go_quiet (fail)
  go_wp2
  refine wp_forget (fun W => W.cell? ⟨ga, oa + j, none⟩ = some (.int .i64 t) ∧ Blk W w.heap.size 47 #[.int .i64 2, .int .i64 e.v.k, .int .i64 e.v.n, .string e.v.s, .int .i64 j, .slice e.A 0 e.cap] ∧ Blk W g 108 #[.slice (some ⟨ga, oa, none⟩) cols.length cc, .int .i64 (m + 1)] ∧ GX g w W) ⟨ca, B, hb, hg.drewN _⟩ ?_
  clear cb fb c f B hb hg ca
  rintro W ⟨ca, B, hb, hg⟩
  obtain ⟨cb, fb⟩ := B.rules
  obtain ⟨c, f⟩ := hb.rules
  have lq := fun W => letter_q t hty.1 hty.2 W
  go_quiet ((go_at_call 110; exact Calls.quiet_of_same (lq _)))
  go_wp2
  exact bodyPost_ret (by simp [results, Try.results109, go_sem]) rfl ⟨rfl, hb, hg.drewN _⟩
end Go.Proofs.Ytjhcbehnopmnpaa
