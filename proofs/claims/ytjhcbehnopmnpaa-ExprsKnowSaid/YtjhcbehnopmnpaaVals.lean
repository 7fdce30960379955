/-
  The functions of package vals, and of chapter 1's reference, each by a contract.
-/
import Derived.Test.YtjhcbehnopmnpaaProg
import Derived.Test.YtjhcbehnopmnpaaCalm
import Derived.Test.YtjhcbehnopmnpaaPlain
import Derived.WalkKit
import Derived.WalkSpells
import Derived.WalkLawsBesides
import Derived.Lib.Bytealg
import Derived.Handy
namespace Go.Proofs.Ytjhcbehnopmnpaa
open Go.RowKit Go.Calm

structure V where
  k : Int
  n : Int
  s : ByteArray
@[go_sem] abbrev V.val (v : V) : Value := .agg #[.int .i64 v.k, .int .i64 v.n, .string v.s]
abbrev es : ByteArray := ⟨#[]⟩
def nullV : V := ⟨1, 0, es⟩
def bare (v : V) : V := if v.k = 1 then ⟨1, 0, es⟩ else if v.k = 4 then ⟨4, 0, v.s⟩ else ⟨v.k, v.n, es⟩

theorem null (w : World) : Calls Try.prog 38 #[] w fun e w' => e = .returned (V.val ⟨1, 0, es⟩) ∧ Grow w w' := by
  go_enter Try.func38, Try.ntmps38
  go_wp2
  exact bodyPost_ret (by simp [results, Try.results38, go_sem]) rfl ⟨rfl, (Grow.refl _).al _⟩

theorem bare_any (v : V) (w : World) : Calls Try.prog 35 #[v.val] w fun e w' => e = .returned (bare v).val ∧ Grow w w' := by
  unfold V.val
  by_cases h1 : v.k = 1
  · have hd1 : (v.k == 1) = true := by simpa using h1
    have e1 : bare v = ⟨1, 0, es⟩ := by simp [bare, h1]
    rw [e1]; clear e1 h1
    go_enter Try.func35, Try.ntmps35
    go_wp2_with (go_at_call 38; refine (null _).mono ?_; rintro e w' ⟨rfl, hg⟩; obtain ⟨hc, hf, _⟩ := hg.rules)
    exact bodyPost_ret (by simp [results, Try.results35, go_sem, hc]) rfl ⟨rfl, (((((Grow.refl _).al _).al _).trans hg).set (by simp) _).set (by simp) _ |>.set (by simp) _⟩
  · have hd1 : (v.k == 1) = false := by simpa using h1
    by_cases h4 : v.k = 4
    · have hd4 : (v.k == 4) = true := by simpa using h4
      have e1 : bare v = ⟨4, 0, v.s⟩ := by simp [bare, h4]
      rw [e1]; clear e1 h1 h4
      go_enter Try.func35, Try.ntmps35
      go_wp2
      exact bodyPost_ret (by simp [results, Try.results35, go_sem]) rfl ⟨rfl, ((Grow.refl _).al _).al _⟩
    · have hd4 : (v.k == 4) = false := by simpa using h4
      have e1 : bare v = ⟨v.k, v.n, es⟩ := by simp [bare, h1, h4]
      rw [e1]; clear e1 h1 h4
      go_enter Try.func35, Try.ntmps35
      go_wp2
      exact bodyPost_ret (by simp [results, Try.results35, go_sem]) rfl ⟨rfl, ((Grow.refl _).al _).al _⟩

def cmpI (x y : Int) : Int := if x < y then -1 else if y < x then 1 else 0
theorem nan (x : Int) (w : World) : Calls Try.prog 139 #[.int .i64 x] w fun e w' => e = .returned (.bool false) ∧ w = w' := by
  go_enter Try.func139, Try.ntmps139
  go_wp2
  go_ret
  exact ⟨by simp, rfl⟩
theorem nan64 (x : Int) (w : World) : Calls Try.prog 140 #[.int .i64 x] w fun e w' => e = .returned (.bool false) ∧ w = w' := by
  go_enter Try.func140, Try.ntmps140
  go_wp2
  go_ret
  exact ⟨by simp, rfl⟩
theorem cmp_int (x y : Int) (w : World) : Calls Try.prog 96 #[.int .i64 x, .int .i64 y] w fun e w' => e = .returned (.int .i64 (cmpI x y)) ∧ w = w' := by
  unfold cmpI
  go_enter Try.func96, Try.ntmps96
  go_wp2_with (go_at_call 139; refine (nan _ _).mono ?_; rintro e w' ⟨rfl, rfl⟩)
  all_goals go_ret
  all_goals (refine ⟨?_, rfl⟩; simp [*]; try omega)
theorem cmp_int64 (x y : Int) (w : World) : Calls Try.prog 102 #[.int .i64 x, .int .i64 y] w fun e w' => e = .returned (.int .i64 (cmpI x y)) ∧ w = w' := by
  unfold cmpI
  go_enter Try.func102, Try.ntmps102
  go_wp2_with (go_at_call 140; refine (nan64 _ _).mono ?_; rintro e w' ⟨rfl, rfl⟩)
  all_goals go_ret
  all_goals (refine ⟨?_, rfl⟩; simp [*]; try omega)

/-- The first that is not nought, of three. -/
def or3 (x y z : Int) : Int := if x ≠ 0 then x else if y ≠ 0 then y else z
theorem or_three (x y z : Int) (g c : Nat) (w : World) (h0 : w.cell? ⟨g, 0, none⟩ = some (.int .i64 x)) (h1 : w.cell? ⟨g, 1, none⟩ = some (.int .i64 y)) (h2 : w.cell? ⟨g, 2, none⟩ = some (.int .i64 z)) :
    Calls Try.prog 101 #[.slice (some ⟨g, 0, none⟩) 3 c] w fun e w' => e = .returned (.int .i64 (or3 x y z)) ∧ w = w' := by
  unfold or3
  by_cases hx : x = 0
  · have dx : (x != 0) = false := by simpa using hx
    rw [if_neg (by simpa using hx)]; clear hx
    by_cases hy : y = 0
    · have dy : (y != 0) = false := by simpa using hy
      rw [if_neg (by simpa using hy)]; clear hy
      by_cases hz : z = 0
      · have dz : (z != 0) = false := by simpa using hz
        subst hz
        go_enter Try.func101, Try.ntmps101
        go_wp2
        refine wp_loop_rounds 4 ?_
        iterate 4 (rw [rounds_succ]; go_wp2)
        go_ret
        exact ⟨rfl, rfl⟩
      · have dz : (z != 0) = true := by simpa using hz
        clear hz
        go_enter Try.func101, Try.ntmps101
        go_wp2
        refine wp_loop_rounds 3 ?_
        iterate 3 (rw [rounds_succ]; go_wp2)
        go_ret
        exact ⟨rfl, rfl⟩
    · have dy : (y != 0) = true := by simpa using hy
      rw [if_pos (by simpa using hy)]; clear hy
      go_enter Try.func101, Try.ntmps101
      go_wp2
      refine wp_loop_rounds 3 ?_
      iterate 2 (rw [rounds_succ]; go_wp2)
      go_ret
      exact ⟨rfl, rfl⟩
  · have dx : (x != 0) = true := by simpa using hx
    rw [if_pos (by simpa using hx)]; clear hx
    go_enter Try.func101, Try.ntmps101
    go_wp2
    refine wp_loop_rounds 3 ?_
    iterate 1 (rw [rounds_succ]; go_wp2)
    go_ret
    exact ⟨rfl, rfl⟩

set_option maxRecDepth 100000 in
theorem cmp_bytes (a b : ByteArray) (w : World) : Calls Try.prog 141 #[.string a, .string b] w fun e w' => e = .returned (.int .i64 (cmpS a b)) ∧ w = w' := by
  unfold cmpS
  go_enter Try.func141, Try.ntmps141
  go_wp2
  rw [run_callFunc_extern Try.func154 (by kernel_rfl) (by kernel_rfl) (by kernel_rfl) (e := Extern.BytealgCompare.compare) (by kernel_rfl), Lib.run_compareString]
  simp only [Result.andThen]
  rw [Oper.upon_value]
  go_wp2
  go_ret
  exact ⟨rfl, rfl⟩
theorem cmp_str (a b : ByteArray) (w : World) : Calls Try.prog 103 #[.string a, .string b] w fun e w' => e = .returned (.int .i64 (cmpS a b)) ∧ w = w' := by
  go_enter Try.func103, Try.ntmps103
  go_wp2_with (go_at_call 141; refine (cmp_bytes _ _ _).mono ?_; rintro e w' ⟨rfl, rfl⟩)
  go_ret
  exact ⟨rfl, rfl⟩

def cmpV (a b : V) : Int := or3 (cmpI (bare a).k (bare b).k) (cmpI (bare a).n (bare b).n) (cmpS (bare a).s (bare b).s)
set_option maxRecDepth 100000 in
theorem compare_any (a b : V) (w : World) : Calls Try.prog 34 #[a.val, b.val] w fun e w' => e = .returned (.int .i64 (cmpV a b)) ∧ Grow w w' := by
  unfold V.val
  go_enter Try.func34, Try.ntmps34
  go_wp2
  refine wp_forget (fun W => Blk W w.heap.size 29 #[.int .i64 a.k, .int .i64 a.n, .string a.s] ∧ Blk W (w.heap.size + 1) 29 #[.int .i64 b.k, .int .i64 b.n, .string b.s] ∧ Grow w W) ⟨(Blk.new _ _ _).al _, Blk.new' _ _ _ (by simp), ((Grow.refl _).al _).al _⟩ ?_
  rintro W ⟨A1, A2, G1⟩
  apply wp_region_calm 4 (by kernel_rfl) (by kernel_rfl)
  case h' =>
    intro Q0 hQ0
    simp only [List.take_succ_cons, List.take_zero]
    repeat (
      apply calm_fix
      case h1 =>
        intro w1 hw1 hF K hK
        obtain ⟨c1, f1⟩ := (Blk.grow A1 hw1).rules
        obtain ⟨c2, f2⟩ := (Blk.grow A2 hw1).rules
        go_simp
        first
          | exact hK _ (Grow.refl _)
          | (go_at_call 35; (with_reducible refine (bare_any _ _).mono ?_); rintro e w' ⟨rfl, hg⟩; exact ⟨_, rfl, hK _ hg⟩)
      intro K hK
      go_simp
      apply hK
      clear hK K)
    refine calm_nil ?_
    intro w1 hw1 hF
    clear hF
    have B1 := Blk.grow A1 hw1
    have B2 := Blk.grow A2 hw1
    obtain ⟨c1, f1⟩ := B1.rules
    obtain ⟨c2, f2⟩ := B2.rules
    apply hQ0
    clear hQ0
    simp only [List.drop_succ_cons, List.drop_zero]
    go_wp2
    clear c1 f1 c2 f2
    refine wp_forget (fun W => Blk W w.heap.size 29 #[.int .i64 (bare a).k, .int .i64 (bare a).n, .string (bare a).s] ∧ Blk W (w.heap.size + 1) 29 #[.int .i64 (bare b).k, .int .i64 (bare b).n, .string (bare b).s] ∧ Grow w W)
      ⟨(((((B1.set 0 _).set 1 _).set 2 _).far (by simp) _).far (by simp) _).far (by simp) _, (((((B2.far (by simp) _).far (by simp) _).far (by simp) _).set 0 _).set 1 _).set 2 _, ((((((G1.trans (hw1)).set (by simp) _).set (by simp) _).set (by simp) _).set (by simp) _).set (by simp) _).set (by simp) _⟩ ?_
    clear G1 A1 A2 B1 B2 hw1 w1 Q0 W
    rintro W ⟨A1, A2, G1⟩
    apply wp_region_calm 18 (by kernel_rfl) (by kernel_rfl)
    case h' =>
      intro Q0 hQ0
      simp only [List.take_succ_cons, List.take_zero]
      repeat (
        apply calm_fix
        case h1 =>
          intro w1 hw1 hF K hK
          obtain ⟨c1, f1⟩ := (Blk.grow A1 hw1).rules
          obtain ⟨c2, f2⟩ := (Blk.grow A2 hw1).rules
          go_simp
          first
            | exact hK _ (Grow.refl _)
            | (go_at_call 96; (with_reducible refine (cmp_int _ _ _).mono ?_); rintro e w' ⟨rfl, rfl⟩; exact ⟨_, rfl, hK _ (Grow.refl _)⟩)
            | (go_at_call 102; (with_reducible refine (cmp_int64 _ _ _).mono ?_); rintro e w' ⟨rfl, rfl⟩; exact ⟨_, rfl, hK _ (Grow.refl _)⟩)
            | (go_at_call 103; (with_reducible refine (cmp_str _ _ _).mono ?_); rintro e w' ⟨rfl, rfl⟩; exact ⟨_, rfl, hK _ (Grow.refl _)⟩)
        intro K hK
        go_simp
        apply hK
        clear hK K)
      apply calm_free (D := fun v w => ∃ g, v = .slice (some ⟨g, 0, none⟩) 3 3 ∧ Blk w g 3 #[.int .i64 (cmpI (bare a).k (bare b).k), .int .i64 (cmpI (bare a).n (bare b).n), .int .i64 (cmpS (bare a).s (bare b).s)])
      case h1 =>
        intro w1 hw1 hF K hK
        go_simp
        exact hK _ _ ((Grow.refl _).al _) ⟨_, rfl, Blk.new _ _ _⟩
      intro v K hK
      go_simp
      apply hK
      clear hK K
      apply calm_fix
      case h1 =>
        intro w1 hw1 hF K hK
        obtain ⟨g, rfl, hg⟩ := hF _ (List.mem_cons_self ..) ⟨_, rfl, by simp [Oper.looksAt, Op.operands, Call.operands]⟩
        go_simp
        go_at_call 101
        (with_reducible refine (or_three _ _ _ _ _ _ (hg.cells rfl) (hg.cells rfl) (hg.cells rfl)).mono ?_)
        rintro e w' ⟨rfl, rfl⟩
        exact ⟨_, rfl, hK _ (Grow.refl _)⟩
      intro K hK
      go_simp
      apply hK
      clear hK K
      apply calm_fix
      case h1 =>
        intro w1 hw1 hF K hK
        go_simp
        exact hK _ (Grow.refl _)
      intro K hK
      go_simp
      apply hK
      clear hK K
      refine calm_nil ?_
      intro w1 hw1 hF
      clear hF
      apply hQ0
      clear hQ0
      simp only [List.drop_succ_cons, List.drop_zero]
      go_wp2
      go_ret
      exact ⟨rfl, G1.trans hw1⟩
    case hp' => exact ⟨fun v w w' hg ⟨g, e, hb⟩ => ⟨g, e, hb.grow hg⟩, trivial⟩
  case hp' => trivial
end Go.Proofs.Ytjhcbehnopmnpaa
