/-
  Expressions put together in memory.
-/
import Derived.Test.YtjhcbehnopmnpaaEvT
namespace Go.Proofs.Ytjhcbehnopmnpaa
open Go.RowKit Go.Calm
set_option linter.unusedSimpArgs false
set_option linter.unusedVariables false

theorem vb_z : VB zV := ⟨⟨by decide, by decide⟩, ⟨by decide, by decide⟩, Nat.zero_le _⟩
theorem ex_one {w : World} {g : Nat} {k : Int} {t : TypeId} (a : E) (hb : Blk w g t #[.int .i64 a.kind, .int .i64 a.v.k, .int .i64 a.v.n, .string a.v.s, .int .i64 a.col, .slice a.A a.n a.cap]) (ha : EX w a) (hk : inI64 k) : EX w (oneK k a (some ⟨g, 0, none⟩)) := by
  refine .mk (by decide) (fun i hi => ⟨g, 0, rfl, ?_⟩) (fun i hi => ha) vb_z ⟨hk, ⟨by decide, by decide⟩⟩
  obtain rfl : i = 0 := by omega
  exact ⟨hb.cells rfl, hb.cells rfl, hb.cells rfl, hb.cells rfl, hb.cells rfl, hb.cells rfl⟩
theorem ex_two {w : World} {g : Nat} {k : Int} {t : TypeId} (a b : E) (hb : Blk w g t #[.int .i64 a.kind, .int .i64 a.v.k, .int .i64 a.v.n, .string a.v.s, .int .i64 a.col, .slice a.A a.n a.cap, .int .i64 b.kind, .int .i64 b.v.k, .int .i64 b.v.n, .string b.v.s, .int .i64 b.col, .slice b.A b.n b.cap]) (ha : EX w a) (hb' : EX w b) (hk : inI64 k) : EX w (twoK k a b (some ⟨g, 0, none⟩)) := by
  refine .mk (by decide) (fun i hi => ⟨g, 0, rfl, ?_⟩) (fun i hi => ?_) vb_z ⟨hk, ⟨by decide, by decide⟩⟩
  · match i, hi with
    | 0, _ => exact ⟨hb.cells rfl, hb.cells rfl, hb.cells rfl, hb.cells rfl, hb.cells rfl, hb.cells rfl⟩
    | 1, _ => exact ⟨hb.cells rfl, hb.cells rfl, hb.cells rfl, hb.cells rfl, hb.cells rfl, hb.cells rfl⟩
  · split
    · exact ha
    · exact hb'
theorem ex_three {w : World} {g : Nat} {k : Int} {t : TypeId} (a b c : E) (hb : Blk w g t #[.int .i64 a.kind, .int .i64 a.v.k, .int .i64 a.v.n, .string a.v.s, .int .i64 a.col, .slice a.A a.n a.cap, .int .i64 b.kind, .int .i64 b.v.k, .int .i64 b.v.n, .string b.v.s, .int .i64 b.col, .slice b.A b.n b.cap, .int .i64 c.kind, .int .i64 c.v.k, .int .i64 c.v.n, .string c.v.s, .int .i64 c.col, .slice c.A c.n c.cap]) (ha : EX w a) (hb' : EX w b) (hc : EX w c) (hk : inI64 k) : EX w (threeK k a b c (some ⟨g, 0, none⟩)) := by
  refine .mk (by decide) (fun i hi => ⟨g, 0, rfl, ?_⟩) (fun i hi => ?_) vb_z ⟨hk, ⟨by decide, by decide⟩⟩
  · match i, hi with
    | 0, _ => exact ⟨hb.cells rfl, hb.cells rfl, hb.cells rfl, hb.cells rfl, hb.cells rfl, hb.cells rfl⟩
    | 1, _ => exact ⟨hb.cells rfl, hb.cells rfl, hb.cells rfl, hb.cells rfl, hb.cells rfl, hb.cells rfl⟩
    | 2, _ => exact ⟨hb.cells rfl, hb.cells rfl, hb.cells rfl, hb.cells rfl, hb.cells rfl, hb.cells rfl⟩
  · repeat' split
    all_goals assumption

set_option maxRecDepth 100000 in
set_option maxHeartbeats 4000000 in
theorem two_any (k : Int) (hk : inI64 k) (a b : E) (w : World) (ha : EX w a) (hb : EX w b) : Calls Try.prog 61 #[.int .i64 k, a.val, b.val] w fun en w' => ∃ A, en = .returned (twoK k a b A).val ∧ EX w' (twoK k a b A) ∧ Grow w w' := by
  unfold E.val
  go_enter Try.func61, Try.ntmps61
  go_wp2
  refine bodyPost_ret (v := (twoK k a b (some ⟨w.heap.size + 1 + 1 + 1, 0, none⟩)).val) (by simp [results, Try.results61, go_sem, twoK, E.val, E.kind, E.v, E.col, E.A, E.n, E.cap, zV]) rfl ⟨some ⟨w.heap.size + 1 + 1 + 1, 0, none⟩, rfl, ?_, (by repeat (first | (with_reducible exact Grow.refl _) | (with_reducible assumption) | (with_reducible refine Grow.set ?_ (by first | (simp; done) | (simp; omega)) _) | (with_reducible refine Grow.al ?_ _) | (with_reducible refine Grow.drew ?_) | (with_reducible refine Grow.drewN ?_ _) | (with_reducible refine Grow.trans ?_ (by assumption))))⟩
  refine ex_two (t := 47) a b ?_ (ha.grow (by repeat (first | (with_reducible exact Grow.refl _) | (with_reducible assumption) | (with_reducible refine Grow.set ?_ (by first | (simp; done) | (simp; omega)) _) | (with_reducible refine Grow.al ?_ _) | (with_reducible refine Grow.drew ?_) | (with_reducible refine Grow.drewN ?_ _) | (with_reducible refine Grow.trans ?_ (by assumption))))) (hb.grow (by repeat (first | (with_reducible exact Grow.refl _) | (with_reducible assumption) | (with_reducible refine Grow.set ?_ (by first | (simp; done) | (simp; omega)) _) | (with_reducible refine Grow.al ?_ _) | (with_reducible refine Grow.drew ?_) | (with_reducible refine Grow.drewN ?_ _) | (with_reducible refine Grow.trans ?_ (by assumption))))) hk
  repeat (first | exact Blk.new' _ _ _ (by simp) | refine Blk.far ?_ (by simp) _ | refine Blk.al ?_ _)

def colK (j : Int) : E := .mk 2 zV j none 0 0 (fun _ => .leaf)
theorem ex_col (w : World) (j : Int) (hj : inI64 j) : EX w (colK j) := .mk (Nat.zero_le _) (fun i hi => absurd hi (Nat.not_lt_zero _)) (fun i hi => absurd hi (Nat.not_lt_zero _)) vb_z ⟨⟨by decide, by decide⟩, hj⟩
set_option maxRecDepth 100000 in
theorem col_any (j : Int) (w : World) : Calls Try.prog 113 #[.int .i64 j] w fun en w' => en = .returned (colK j).val ∧ Grow w w' := by
  go_enter Try.func113, Try.ntmps113
  go_wp2
  exact bodyPost_ret (v := (colK j).val) (by simp [results, Try.results113, go_sem, colK, E.val, E.kind, E.v, E.col, E.A, E.n, E.cap, zV]) rfl ⟨rfl, (by repeat (first | (with_reducible exact Grow.refl _) | (with_reducible assumption) | (with_reducible refine Grow.set ?_ (by first | (simp; done) | (simp; omega)) _) | (with_reducible refine Grow.al ?_ _) | (with_reducible refine Grow.drew ?_) | (with_reducible refine Grow.drewN ?_ _) | (with_reducible refine Grow.trans ?_ (by assumption))))⟩
set_option maxRecDepth 100000 in
theorem num3_any (n : Int) (w : World) : Calls Try.prog 114 #[.int .i64 n] w fun e w' => e = .returned (numV n).val ∧ Grow w w' := by
  go_enter Try.func114, Try.ntmps114
  go_wp2
  exact bodyPost_ret (by simp [results, Try.results114, go_sem, numV]) rfl ⟨rfl, (by repeat (first | (with_reducible exact Grow.refl _) | (with_reducible assumption) | (with_reducible refine Grow.set ?_ (by first | (simp; done) | (simp; omega)) _) | (with_reducible refine Grow.al ?_ _) | (with_reducible refine Grow.drew ?_) | (with_reducible refine Grow.drewN ?_ _) | (with_reducible refine Grow.trans ?_ (by assumption))))⟩

theorem alive_val (A : Option Addr) : evalE [3, 3] [numV 2, numV 3] (twoK 12 (colK 0) (colK 1) A) = (numV 5, 0) := by
  have r2 := rv_num 2 (by omega) (by omega)
  have r3 := rv_num 3 (by omega) (by omega)
  have w0 : ∀ j : Int, 0 ≤ j → j < 2 → wt [3, 3] (colK j) 3 := fun j h0 h1 => by
    have hj : j = 0 ∨ j = 1 := by omega
    rcases hj with rfl | rfl
    · exact ⟨by decide, by decide, [], rfl, fun i hi => absurd hi (Nat.not_lt_zero _), by simp [tyK]⟩
    · exact ⟨by decide, by decide, [], rfl, fun i hi => absurd hi (Nat.not_lt_zero _), by simp [tyK]⟩
  have hok : Okay [3, 3] (twoK 12 (colK 0) (colK 1) A) 3 := by
    refine ⟨by decide, by decide, (wt_two (by rfl)).2 ⟨3, 3, w0 0 (by omega) (by omega), w0 1 (by omega) (by omega), rfl⟩, (d_two _ _ _ _ _).2 ⟨by omega, ?_, ?_⟩, ?_⟩
    · exact ⟨by omega, fun i hi => absurd hi (Nat.not_lt_zero _)⟩
    · exact ⟨by omega, fun i hi => absurd hi (Nat.not_lt_zero _)⟩
    · rw [sz_two]; simp [colK, szE, sumK]
  have hf : fitsE [3, 3] [numV 2, numV 3] = 0 := by
    refine (fits_iff _ _).2 ⟨rfl, fun i v hv => ?_⟩
    match i, hv with
    | 0, hv => simp at hv; subst hv; exact ⟨r2, .inr rfl⟩
    | 1, hv => simp at hv; subst hv; exact ⟨r3, .inr rfl⟩
    | i + 2, hv => simp at hv
  rw [hok.eval _ hf, of_two (by omega) (by omega)]
  have e : opV 12 (ofE [numV 2, numV 3] (colK 0)) (ofE [numV 2, numV 3] (colK 1)) (ofE [numV 2, numV 3] (colK 1)) = reckonV 43 (bare (numV 2)) (bare (numV 3)) := rfl
  rw [e]
  have e2 : bare (numV 2) = numV 2 := rfl
  have e3 : bare (numV 3) = numV 3 := rfl
  rw [e2, e3, alive_facts.1]

end Go.Proofs.Ytjhcbehnopmnpaa
