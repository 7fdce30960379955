/-
  looker.typ.
-/
import Derived.Test.YtjhcbehnopmnpaaEx4
import Derived.Test.YtjhcbehnopmnpaaGx
import Derived.Deep.DeepCutAuto
import Derived.BigQuiet
import Derived.Deep.QuietTactic
namespace Go.Proofs.Ytjhcbehnopmnpaa
open Go.RowKit Go.Calm
set_option linter.unusedSimpArgs false
set_option linter.unusedVariables false

def TypC (cols : List Int) (Ac : Option Addr) (cc : Nat) (e : E) : Prop := ∀ (gx ox g : Nat) (deep m : Int) (w0 w : World), EX w0 e → ECells w0 gx ox e → ISl w0 Ac cols → Grow w0 w → w0.heap.size ≤ g →
  Blk w g 102 #[.slice Ac cols.length cc, .int .i64 m] → 0 ≤ m → m ≤ 200 → 1 ≤ deep → deep ≤ 21 →
  Calls Try.prog 108 #[.pointer (some ⟨g, 0, none⟩), .pointer (some ⟨gx, ox, none⟩), .int .i64 deep] w fun en w' =>
    en = .returned (.tuple #[.int .i64 (typE cols e deep m).1, .int .i64 (typE cols e deep m).2.1]) ∧ Blk w' g 102 #[.slice Ac cols.length cc, .int .i64 (typE cols e deep m).2.2] ∧ GX g w w'

set_option maxRecDepth 100000 in
set_option maxHeartbeats 4000000 in
theorem typ_much (cols : List Int) (Ac : Option Addr) (cc : Nat) (gx ox g : Nat) (deep m : Int) (w : World) (hb : Blk w g 102 #[.slice Ac cols.length cc, .int .i64 m]) (h0 : 0 ≤ m) (h1 : m ≤ 200) (h : 200 < m + 1 ∨ 20 < deep) :
  Calls Try.prog 108 #[.pointer (some ⟨g, 0, none⟩), .pointer (some ⟨gx, ox, none⟩), .int .i64 deep] w fun en w' =>
    en = .returned (.tuple #[.int .i64 0, .int .i64 4]) ∧ Blk w' g 102 #[.slice Ac cols.length cc, .int .i64 (m + 1)] ∧ GX g w w' := by
  obtain ⟨c, f⟩ := hb.rules
  have d : (decide (200 < m + 1) = true) ∨ (decide (200 < m + 1) = false ∧ decide (20 < deep) = true) := by
    simp only [decide_eq_true_eq, decide_eq_false_iff_not]; omega
  clear h
  rcases d with d1 | ⟨d1, d2⟩
  · go_enter Try.func108, Try.ntmps108
    go_wp2
    exact bodyPost_ret (by simp [results, Try.results108, go_sem]) rfl ⟨rfl, hb.set 1 _, (GX.refl g w).set 1 _⟩
  · go_enter Try.func108, Try.ntmps108
    go_wp2
    exact bodyPost_ret (by simp [results, Try.results108, go_sem]) rfl ⟨rfl, hb.set 1 _, (GX.refl g w).set 1 _⟩
/-- a kind that there is not, or too many kids, or too few -/
theorem typ_form (cols : List Int) (Ac : Option Addr) (cc : Nat) (e : E) (gx ox g : Nat) (deep m : Int) (w : World) (hb : Blk w g 102 #[.slice Ac cols.length cc, .int .i64 m]) (hne : gx ≠ g) (hx : ECells w gx ox e) (hn : e.n ≤ maxLen) (h0 : 0 ≤ m) (d1 : decide (200 < m + 1) = false) (d2 : decide (20 < deep) = false)
    (h : kidsN e.kind < 0 ∨ ¬ kidsN e.kind < 0 ∧ (e.n : Int) ≠ kidsN e.kind) :
  Calls Try.prog 108 #[.pointer (some ⟨g, 0, none⟩), .pointer (some ⟨gx, ox, none⟩), .int .i64 deep] w fun en w' =>
    en = .returned (.tuple #[.int .i64 0, .int .i64 (if kidsN e.kind < 0 then 1 else 5)]) ∧ Blk w' g 102 #[.slice Ac cols.length cc, .int .i64 (m + 1)] ∧ GX g w w' := by
  obtain ⟨c, f⟩ := hb.rules
  obtain ⟨c0, c1, c2, c3, c4, c5⟩ := hx
  have hm : m + 1 ≤ 200 := by simp at d1; omega
  have d : (decide (kidsN e.kind < 0) = true) ∨ (decide (kidsN e.kind < 0) = false ∧ ((e.n : Int) != kidsN e.kind) = true) := by
    simp only [decide_eq_true_eq, decide_eq_false_iff_not, bne_iff_ne]; omega
  clear h
  rcases d with d3 | ⟨d3, d4⟩
  · have e1 : (if kidsN e.kind < 0 then (1 : Int) else 5) = 1 := if_pos (by simpa using d3)
    rw [e1]; clear e1
    go_enter Try.func108, Try.ntmps108
    go_wp2_with ((go_at_call 142; ((with_reducible refine (kids_any _ _).mono ?_); rintro e w' ⟨rfl, rfl⟩)))
    exact bodyPost_ret (by simp [results, Try.results108, go_sem]) rfl ⟨rfl, hb.set 1 _, (GX.refl g w).set 1 _⟩
  · have e1 : (if kidsN e.kind < 0 then (1 : Int) else 5) = 5 := if_neg (by simpa using d3)
    rw [e1]; clear e1
    go_enter Try.func108, Try.ntmps108
    go_wp2_with ((go_at_call 142; ((with_reducible refine (kids_any _ _).mono ?_); rintro e w' ⟨rfl, rfl⟩)))
    exact bodyPost_ret (by simp [results, Try.results108, go_sem]) rfl ⟨rfl, hb.set 1 _, (GX.refl g w).set 1 _⟩
/-- an expression's cells, in a world that has grown but for another block -/
theorem ECells.gx {w w' : World} {g gx ox : Nat} {e : E} (h : GX g w w') (hne : gx ≠ g) (hc : ECells w gx ox e) : ECells w' gx ox e :=
  ⟨h.cell hc.c0 (by simpa using hne), h.cell hc.c1 (by simpa using hne), h.cell hc.c2 (by simpa using hne), h.cell hc.c3 (by simpa using hne), h.cell hc.c4 (by simpa using hne), h.cell hc.c5 (by simpa using hne)⟩

set_option maxRecDepth 100000 in
set_option maxHeartbeats 4000000 in
theorem typ_lit (cols : List Int) (Ac : Option Addr) (cc : Nat) (e : E) (gx ox g : Nat) (deep m : Int) (w : World) (hb : Blk w g 102 #[.slice Ac cols.length cc, .int .i64 m]) (hne : gx ≠ g) (hx : ECells w gx ox e) (h0 : 0 ≤ m) (d1 : decide (200 < m + 1) = false) (d2 : decide (20 < deep) = false) (hk : e.kind = 1) (hn : e.n = 0) :
  Calls Try.prog 108 #[.pointer (some ⟨g, 0, none⟩), .pointer (some ⟨gx, ox, none⟩), .int .i64 deep] w fun en w' =>
    en = .returned (.tuple #[.int .i64 e.v.k, .int .i64 (wrongV e.v)]) ∧ Blk w' g 102 #[.slice Ac cols.length cc, .int .i64 (m + 1)] ∧ GX g w w' := by
  obtain ⟨c, f⟩ := hb.rules
  have hx0 := Lib.hid hx
  obtain ⟨c0, c1, c2, c3, c4, c5⟩ := hx
  have hm : m + 1 ≤ 200 := by simp at d1; omega
  have kn : kidsN 1 = 0 := rfl
  rw [hk] at c0
  rw [hn] at c5
  clear hk hn
  go_enter Try.func108, Try.ntmps108
  go_wp2_with ((go_at_call 142; ((with_reducible refine (kids_any _ _).mono ?_); rintro e w' ⟨rfl, rfl⟩)))
  refine wp_loop_rounds 1 ?_
  rw [rounds_succ]
  go_wp2
  refine wp_forget (fun W => ECells W gx ox e ∧ Blk W g 102 #[.slice Ac cols.length cc, .int .i64 (m + 1)] ∧ GX g w W) ⟨hx0.out.gx ((GX.refl g w).set 1 _) hne, hb.set 1 _, (GX.refl g w).set 1 _⟩ ?_
  clear c f c0 c1 c2 c3 c4 c5 hb hx0
  rintro W ⟨hx, hb, hg⟩
  apply wp_region_calm 12 (by kernel_rfl) (by kernel_rfl)
  case h' =>
    intro Q0 hQ0
    simp only [List.take_succ_cons, List.take_zero]
    repeat (
      first
        | (apply calm_p rfl; case h1 => (intro w1 hw1 hF K hK; obtain ⟨c0, c1, c2, c3, c4, c5⟩ := hx.grow hw1; go_simp; first | exact hK _ (Grow.refl _) | (go_at_call 41; ((with_reducible refine (wrong_any e.v _).mono ?_); rintro e w' ⟨rfl, hg⟩; exact ⟨_, rfl, hK _ hg⟩))))
        | (apply calm_y rfl rfl rfl; case h1 => (intro w1 hw1 hF K hK; obtain ⟨c0, c1, c2, c3, c4, c5⟩ := hx.grow hw1; go_simp; first | exact hK _ (Grow.refl _) | (go_at_call 41; ((with_reducible refine (wrong_any e.v _).mono ?_); rintro e w' ⟨rfl, hg⟩; exact ⟨_, rfl, hK _ hg⟩))))
        | apply calm_n rfl rfl rfl rfl
      intro K hK
      go_simp
      apply hK
      clear hK K)
    refine calm_nil ?_
    intro w1 hw1 hF
    apply hQ0
    clear hQ0
    simp only [List.drop_succ_cons, List.drop_zero]
    clear hF
    go_wp2
    exact bodyPost_ret (by simp [results, Try.results108, go_sem]) rfl ⟨rfl, hb.grow hw1, hg.grow hw1⟩
  case hp' => trivial
set_option maxRecDepth 100000 in
set_option maxHeartbeats 4000000 in
theorem typ_name (cols : List Int) (Ac : Option Addr) (cc : Nat) (e : E) (gx ox g : Nat) (deep m : Int) (w : World) (hb : Blk w g 102 #[.slice Ac cols.length cc, .int .i64 m]) (hne : gx ≠ g) (hx : ECells w gx ox e) (h0 : 0 ≤ m) (d1 : decide (200 < m + 1) = false) (d2 : decide (20 < deep) = false) (hk : e.kind = 2) (hn : e.n = 0) (h : e.col < 0 ∨ (cols.length : Int) ≤ e.col) :
  Calls Try.prog 108 #[.pointer (some ⟨g, 0, none⟩), .pointer (some ⟨gx, ox, none⟩), .int .i64 deep] w fun en w' =>
    en = .returned (.tuple #[.int .i64 0, .int .i64 7]) ∧ Blk w' g 102 #[.slice Ac cols.length cc, .int .i64 (m + 1)] ∧ GX g w w' := by
  obtain ⟨c, f⟩ := hb.rules
  obtain ⟨c0, c1, c2, c3, c4, c5⟩ := hx
  have hm : m + 1 ≤ 200 := by simp at d1; omega
  have kn : kidsN 2 = 0 := rfl
  rw [hk] at c0
  rw [hn] at c5
  have d : decide (e.col < 0) = true ∨ decide (e.col < 0) = false ∧ decide ((cols.length : Int) ≤ e.col) = true := by
    simp only [decide_eq_true_eq, decide_eq_false_iff_not]; omega
  clear h hk hn
  rcases d with d3 | ⟨d3, d4⟩
  · go_enter Try.func108, Try.ntmps108
    go_wp2_with ((go_at_call 142; ((with_reducible refine (kids_any _ _).mono ?_); rintro e w' ⟨rfl, rfl⟩)))
    refine wp_loop_rounds 1 ?_
    rw [rounds_succ]
    go_wp2
    go_quiet (fail)
    go_wp2
    exact bodyPost_ret (by simp [results, Try.results108, go_sem]) rfl ⟨rfl, hb.set 1 _, ((GX.refl g w).set 1 _).drewN _⟩
  · go_enter Try.func108, Try.ntmps108
    go_wp2_with ((go_at_call 142; ((with_reducible refine (kids_any _ _).mono ?_); rintro e w' ⟨rfl, rfl⟩)))
    refine wp_loop_rounds 1 ?_
    rw [rounds_succ]
    go_wp2
    go_quiet (fail)
    go_wp2
    exact bodyPost_ret (by simp [results, Try.results108, go_sem]) rfl ⟨rfl, hb.set 1 _, ((GX.refl g w).set 1 _).drewN _⟩

set_option maxRecDepth 100000 in
set_option maxHeartbeats 4000000 in
theorem typ_col (cols : List Int) (Ac : Option Addr) (cc : Nat) (e : E) (gx ox g : Nat) (deep m : Int) (w : World) (hb : Blk w g 102 #[.slice Ac cols.length cc, .int .i64 m]) (hne : gx ≠ g) (hx : ECells w gx ox e) (h0 : 0 ≤ m) (d1 : decide (200 < m + 1) = false) (d2 : decide (20 < deep) = false) (hk : e.kind = 2) (hn : e.n = 0) (hcol : 0 ≤ e.col) (hlt : e.col < (cols.length : Int)) (hlen : cols.length ≤ 9223372036854775807) (hi : ISl w Ac cols) (hg : ∀ a : Addr, Ac = some a → a.block ≠ g) :
  Calls Try.prog 108 #[.pointer (some ⟨g, 0, none⟩), .pointer (some ⟨gx, ox, none⟩), .int .i64 deep] w fun en w' =>
    en = .returned (.tuple #[.int .i64 (cols.getD e.col.toNat 0), .int .i64 0]) ∧ Blk w' g 102 #[.slice Ac cols.length cc, .int .i64 (m + 1)] ∧ GX g w w' := by
  obtain ⟨j, hj⟩ : ∃ j : Nat, e.col = j := ⟨e.col.toNat, by omega⟩
  have hjl : j < cols.length := by omega
  have hjv : cols[j]? = some (cols.getD e.col.toNat 0) := by rw [hj]; simp [hjl]
  obtain ⟨ga, oa, rfl, ca⟩ := hi j _ hjv
  have hga : ga ≠ g := hg _ rfl
  generalize cols.getD e.col.toNat 0 = t at *
  obtain ⟨c, f⟩ := hb.rules
  obtain ⟨c0, c1, c2, c3, c4, c5⟩ := hx
  have hm : m + 1 ≤ 200 := by simp at d1; omega
  have kn : kidsN 2 = 0 := rfl
  rw [hk] at c0
  rw [hn] at c5
  rw [hj] at c4
  have d3 : decide ((j : Int) < 0) = false := by simp
  have d4 : decide ((cols.length : Int) ≤ (j : Int)) = false := by simp; omega
  clear hk hn hj hjv hlt hcol hi hg
  go_enter Try.func108, Try.ntmps108
  go_wp2_with ((go_at_call 142; ((with_reducible refine (kids_any _ _).mono ?_); rintro e w' ⟨rfl, rfl⟩)))
  refine wp_loop_rounds 1 ?_
  rw [rounds_succ]
  go_wp2
  go_quiet (fail)
  go_wp2
  go_quiet (fail)
  go_wp2
  exact bodyPost_ret (by simp [results, Try.results108, go_sem]) rfl ⟨rfl, hb.set 1 _, (((GX.refl g w).set 1 _).drewN _).drewN _⟩
end Go.Proofs.Ytjhcbehnopmnpaa
