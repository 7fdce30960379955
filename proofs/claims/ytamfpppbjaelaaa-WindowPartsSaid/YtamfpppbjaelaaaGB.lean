/-
  Joined texts of this claim: Vals, Vals2, Vals3, Sl, Rows1, Ord, Read. What each proves its own head says; no condition beside those that each theorem names.
-/
import Derived.Test.YtamfpppbjaelaaaProg
import Derived.Test.YtamfpppbjaelaaaGA
import Derived.WalkKit
import Derived.WalkSpells
import Derived.WalkLawsBesides
import Derived.Lib.Bytealg
import Derived.Handy
import Derived.BigGuardPart
import Derived.Lib.Hide
import Derived.Test.YtamfpppbjaelaaaRows
import Derived.ProofKit
import Derived.OpenShut
set_option maxRecDepth 100000
set_option maxHeartbeats 1000000
namespace Go.Proofs.Ytamfpppbjaelaaa
open Go.RowKit Go.Calm
structure V where
  k : Int
  n : Int
  s : ByteArray
@[go_sem] abbrev V.val (v : V) : Value := .agg #[.int .i64 v.k, .int .i64 v.n, .string v.s]
abbrev es : ByteArray := ⟨#[]⟩
def bare (v : V) : V := if v.k = 1 then ⟨1, 0, es⟩ else if v.k = 4 then ⟨4, 0, v.s⟩ else ⟨v.k, v.n, es⟩

theorem null (w : World) : Calls Try.prog 47 #[] w fun e w' => e = .returned (V.val ⟨1, 0, es⟩) ∧ Grow w w' := by
  go_enter Try.func47, Try.ntmps47
  go_wp2
  exact bodyPost_ret (by simp [results, Try.results47, go_sem]) rfl ⟨rfl, (Grow.refl _).al _⟩

theorem bare_any (v : V) (w : World) : Calls Try.prog 52 #[v.val] w fun e w' => e = .returned (bare v).val ∧ Grow w w' := by
  unfold V.val
  by_cases h1 : v.k = 1
  · have hd1 : (v.k == 1) = true := by simpa using h1
    have e1 : bare v = ⟨1, 0, es⟩ := by simp [bare, h1]
    rw [e1]; clear e1 h1
    go_enter Try.func52, Try.ntmps52
    go_wp2_with (go_at_call 47; refine (null _).mono ?_; rintro e w' ⟨rfl, hg⟩; obtain ⟨hc, hf, _⟩ := hg.rules)
    exact bodyPost_ret (by simp [results, Try.results52, go_sem, hc]) rfl ⟨rfl, (((((Grow.refl _).al _).al _).trans hg).set (by simp) _).set (by simp) _ |>.set (by simp) _⟩
  · have hd1 : (v.k == 1) = false := by simpa using h1
    by_cases h4 : v.k = 4
    · have hd4 : (v.k == 4) = true := by simpa using h4
      have e1 : bare v = ⟨4, 0, v.s⟩ := by simp [bare, h4]
      rw [e1]; clear e1 h1 h4
      go_enter Try.func52, Try.ntmps52
      go_wp2
      exact bodyPost_ret (by simp [results, Try.results52, go_sem]) rfl ⟨rfl, ((Grow.refl _).al _).al _⟩
    · have hd4 : (v.k == 4) = false := by simpa using h4
      have e1 : bare v = ⟨v.k, v.n, es⟩ := by simp [bare, h1, h4]
      rw [e1]; clear e1 h1 h4
      go_enter Try.func52, Try.ntmps52
      go_wp2
      exact bodyPost_ret (by simp [results, Try.results52, go_sem]) rfl ⟨rfl, ((Grow.refl _).al _).al _⟩

def cmpI (x y : Int) : Int := if x < y then -1 else if y < x then 1 else 0
theorem nan (x : Int) (w : World) : Calls Try.prog 74 #[.int .i64 x] w fun e w' => e = .returned (.bool false) ∧ w = w' := by
  go_enter Try.func74, Try.ntmps74
  go_wp2
  go_ret
  exact ⟨by simp, rfl⟩
theorem nan64 (x : Int) (w : World) : Calls Try.prog 88 #[.int .i64 x] w fun e w' => e = .returned (.bool false) ∧ w = w' := by
  go_enter Try.func88, Try.ntmps88
  go_wp2
  go_ret
  exact ⟨by simp, rfl⟩
theorem cmp_int (x y : Int) (w : World) : Calls Try.prog 44 #[.int .i64 x, .int .i64 y] w fun e w' => e = .returned (.int .i64 (cmpI x y)) ∧ w = w' := by
  unfold cmpI
  go_enter Try.func44, Try.ntmps44
  go_wp2_with (go_at_call 74; refine (nan _ _).mono ?_; rintro e w' ⟨rfl, rfl⟩)
  all_goals go_ret
  all_goals (refine ⟨?_, rfl⟩; simp [*]; try omega)
theorem cmp_int64 (x y : Int) (w : World) : Calls Try.prog 72 #[.int .i64 x, .int .i64 y] w fun e w' => e = .returned (.int .i64 (cmpI x y)) ∧ w = w' := by
  unfold cmpI
  go_enter Try.func72, Try.ntmps72
  go_wp2_with (go_at_call 88; refine (nan64 _ _).mono ?_; rintro e w' ⟨rfl, rfl⟩)
  all_goals go_ret
  all_goals (refine ⟨?_, rfl⟩; simp [*]; try omega)

def or3 (x y z : Int) : Int := if x ≠ 0 then x else if y ≠ 0 then y else z
theorem or_three (x y z : Int) (g c : Nat) (w : World) (h0 : w.cell? ⟨g, 0, none⟩ = some (.int .i64 x)) (h1 : w.cell? ⟨g, 1, none⟩ = some (.int .i64 y)) (h2 : w.cell? ⟨g, 2, none⟩ = some (.int .i64 z)) :
    Calls Try.prog 71 #[.slice (some ⟨g, 0, none⟩) 3 c] w fun e w' => e = .returned (.int .i64 (or3 x y z)) ∧ w = w' := by
  unfold or3
  by_cases hx : x = 0
  · have dx : (x != 0) = false := by simpa using hx
    rw [if_neg (by simpa using hx)]; clear hx
    by_cases hy : y = 0
    · have dy : (y != 0) = false := by simpa using hy
      rw [if_neg (by simpa using hy)]; clear hy
      by_cases hz : z = 0
      · have dz : (z != 0) = false := by simpa using hz
        subst hz
        go_enter Try.func71, Try.ntmps71
        go_wp2
        refine wp_loop_rounds 4 ?_
        iterate 4 (rw [rounds_succ]; go_wp2)
        go_ret
        exact ⟨rfl, rfl⟩
      · have dz : (z != 0) = true := by simpa using hz
        clear hz
        go_enter Try.func71, Try.ntmps71
        go_wp2
        refine wp_loop_rounds 3 ?_
        iterate 3 (rw [rounds_succ]; go_wp2)
        go_ret
        exact ⟨rfl, rfl⟩
    · have dy : (y != 0) = true := by simpa using hy
      rw [if_pos (by simpa using hy)]; clear hy
      go_enter Try.func71, Try.ntmps71
      go_wp2
      refine wp_loop_rounds 3 ?_
      iterate 2 (rw [rounds_succ]; go_wp2)
      go_ret
      exact ⟨rfl, rfl⟩
  · have dx : (x != 0) = true := by simpa using hx
    rw [if_pos (by simpa using hx)]; clear hx
    go_enter Try.func71, Try.ntmps71
    go_wp2
    refine wp_loop_rounds 3 ?_
    iterate 1 (rw [rounds_succ]; go_wp2)
    go_ret
    exact ⟨rfl, rfl⟩

theorem cmp_bytes (a b : ByteArray) (w : World) : Calls Try.prog 89 #[.string a, .string b] w fun e w' => e = .returned (.int .i64 (cmpS a b)) ∧ w = w' := by
  unfold cmpS
  go_enter Try.func89, Try.ntmps89
  go_wp2
  rw [run_callFunc_extern Try.func98 (by kernel_rfl) (by kernel_rfl) (by kernel_rfl) (e := Extern.BytealgCompare.compare) (by kernel_rfl), Lib.run_compareString]
  simp only [Result.andThen]
  rw [Oper.upon_value]
  go_wp2
  go_ret
  exact ⟨rfl, rfl⟩
theorem cmp_str (a b : ByteArray) (w : World) : Calls Try.prog 73 #[.string a, .string b] w fun e w' => e = .returned (.int .i64 (cmpS a b)) ∧ w = w' := by
  go_enter Try.func73, Try.ntmps73
  go_wp2_with (go_at_call 89; refine (cmp_bytes _ _ _).mono ?_; rintro e w' ⟨rfl, rfl⟩)
  go_ret
  exact ⟨rfl, rfl⟩

def cmpV (a b : V) : Int := or3 (cmpI (bare a).k (bare b).k) (cmpI (bare a).n (bare b).n) (cmpS (bare a).s (bare b).s)
theorem compare_any (a b : V) (w : World) : Calls Try.prog 43 #[a.val, b.val] w fun e w' => e = .returned (.int .i64 (cmpV a b)) ∧ Grow w w' := by
  unfold V.val
  go_enter Try.func43, Try.ntmps43
  go_wp2
  refine wp_forget (fun W => Blk W w.heap.size 30 #[.int .i64 a.k, .int .i64 a.n, .string a.s] ∧ Blk W (w.heap.size + 1) 30 #[.int .i64 b.k, .int .i64 b.n, .string b.s] ∧ Grow w W) ⟨(Blk.new _ _ _).al _, Blk.new' _ _ _ (by simp), ((Grow.refl _).al _).al _⟩ ?_
  rintro W ⟨A1, A2, G1⟩
  apply wp_region_calm 4 (by kernel_rfl) (by kernel_rfl)
  case h' =>
    intro Q0 hQ0
    simp only [List.take_succ_cons, List.take_zero]
    repeat (
      apply calm_fix
      case h1 =>
        intro w1 hw1 hF K hK
        obtain ⟨c1, f1⟩ := (Blk.grow A1 hw1).rules
        obtain ⟨c2, f2⟩ := (Blk.grow A2 hw1).rules
        go_simp
        first
          | exact hK _ (Grow.refl _)
          | (go_at_call 52; (with_reducible refine (bare_any _ _).mono ?_); rintro e w' ⟨rfl, hg⟩; exact ⟨_, rfl, hK _ hg⟩)
      intro K hK
      go_simp
      apply hK
      clear hK K)
    refine calm_nil ?_
    intro w1 hw1 hF
    clear hF
    have B1 := Blk.grow A1 hw1
    have B2 := Blk.grow A2 hw1
    obtain ⟨c1, f1⟩ := B1.rules
    obtain ⟨c2, f2⟩ := B2.rules
    apply hQ0
    clear hQ0
    simp only [List.drop_succ_cons, List.drop_zero]
    go_wp2
    clear c1 f1 c2 f2
    refine wp_forget (fun W => Blk W w.heap.size 30 #[.int .i64 (bare a).k, .int .i64 (bare a).n, .string (bare a).s] ∧ Blk W (w.heap.size + 1) 30 #[.int .i64 (bare b).k, .int .i64 (bare b).n, .string (bare b).s] ∧ Grow w W)
      ⟨(((((B1.set 0 _).set 1 _).set 2 _).far (by simp) _).far (by simp) _).far (by simp) _, (((((B2.far (by simp) _).far (by simp) _).far (by simp) _).set 0 _).set 1 _).set 2 _, ((((((G1.trans (hw1)).set (by simp) _).set (by simp) _).set (by simp) _).set (by simp) _).set (by simp) _).set (by simp) _⟩ ?_
    clear G1 A1 A2 B1 B2 hw1 w1 Q0 W
    rintro W ⟨A1, A2, G1⟩
    apply wp_region_calm 18 (by kernel_rfl) (by kernel_rfl)
    case h' =>
      intro Q0 hQ0
      simp only [List.take_succ_cons, List.take_zero]
      repeat (
        apply calm_fix
        case h1 =>
          intro w1 hw1 hF K hK
          obtain ⟨c1, f1⟩ := (Blk.grow A1 hw1).rules
          obtain ⟨c2, f2⟩ := (Blk.grow A2 hw1).rules
          go_simp
          first
            | exact hK _ (Grow.refl _)
            | (go_at_call 44; (with_reducible refine (cmp_int _ _ _).mono ?_); rintro e w' ⟨rfl, rfl⟩; exact ⟨_, rfl, hK _ (Grow.refl _)⟩)
            | (go_at_call 72; (with_reducible refine (cmp_int64 _ _ _).mono ?_); rintro e w' ⟨rfl, rfl⟩; exact ⟨_, rfl, hK _ (Grow.refl _)⟩)
            | (go_at_call 73; (with_reducible refine (cmp_str _ _ _).mono ?_); rintro e w' ⟨rfl, rfl⟩; exact ⟨_, rfl, hK _ (Grow.refl _)⟩)
        intro K hK
        go_simp
        apply hK
        clear hK K)
      apply calm_free (D := fun v w => ∃ g, v = .slice (some ⟨g, 0, none⟩) 3 3 ∧ Blk w g 3 #[.int .i64 (cmpI (bare a).k (bare b).k), .int .i64 (cmpI (bare a).n (bare b).n), .int .i64 (cmpS (bare a).s (bare b).s)])
      case h1 =>
        intro w1 hw1 hF K hK
        go_simp
        exact hK _ _ ((Grow.refl _).al _) ⟨_, rfl, Blk.new _ _ _⟩
      intro v K hK
      go_simp
      apply hK
      clear hK K
      apply calm_fix
      case h1 =>
        intro w1 hw1 hF K hK
        obtain ⟨g, rfl, hg⟩ := hF _ (List.mem_cons_self ..) ⟨_, rfl, by simp [Oper.looksAt, Op.operands, Call.operands]⟩
        go_simp
        go_at_call 71
        (with_reducible refine (or_three _ _ _ _ _ _ (hg.cells rfl) (hg.cells rfl) (hg.cells rfl)).mono ?_)
        rintro e w' ⟨rfl, rfl⟩
        exact ⟨_, rfl, hK _ (Grow.refl _)⟩
      intro K hK
      go_simp
      apply hK
      clear hK K
      apply calm_fix
      case h1 =>
        intro w1 hw1 hF K hK
        go_simp
        exact hK _ (Grow.refl _)
      intro K hK
      go_simp
      apply hK
      clear hK K
      refine calm_nil ?_
      intro w1 hw1 hF
      clear hF
      apply hQ0
      clear hQ0
      simp only [List.drop_succ_cons, List.drop_zero]
      go_wp2
      go_ret
      exact ⟨rfl, G1.trans hw1⟩
    case hp' => exact ⟨fun v w w' hg ⟨g, e, hb⟩ => ⟨g, e, hb.grow hg⟩, trivial⟩
  case hp' => trivial
def truth (b : Bool) : V := ⟨2, if b then 1 else 0, es⟩
theorem bool_any (b : Bool) (w : World) : Calls Try.prog 58 #[.bool b] w fun e w' => e = .returned (truth b).val ∧ Grow w w' := by
  cases b
  · go_enter Try.func58, Try.ntmps58
    go_wp2
    exact bodyPost_ret (by simp [results, Try.results58, go_sem, truth]) rfl ⟨rfl, growW⟩
  · go_enter Try.func58, Try.ntmps58
    go_wp2
    exact bodyPost_ret (by simp [results, Try.results58, go_sem, truth]) rfl ⟨rfl, growW⟩

def intV (n : Int) : V := if -1000000000000000 ≤ n ∧ n ≤ 1000000000000000 then ⟨3, n, es⟩ else ⟨1, 0, es⟩
theorem int_any (n : Int) (w : World) : Calls Try.prog 46 #[.int .i64 n] w fun e w' => e = .returned (intV n).val ∧ Grow w w' := by
  by_cases h1 : 1000000000000000 < n
  · have e1 : intV n = ⟨1, 0, es⟩ := by unfold intV; rw [if_neg (by omega)]
    rw [e1]; clear e1
    go_enter Try.func46, Try.ntmps46
    go_wp2_with ((go_at_call 47; ((with_reducible refine (null _).mono ?_); rintro e w' ⟨rfl, hg⟩; obtain ⟨hc, hf, hz⟩ := hg.rules)))
    exact bodyPost_ret (by simp [results, Try.results46, go_sem, hc]) rfl ⟨rfl, growW⟩
  · by_cases h2 : n < -1000000000000000
    · have e1 : intV n = ⟨1, 0, es⟩ := by unfold intV; rw [if_neg (by omega)]
      rw [e1]; clear e1
      go_enter Try.func46, Try.ntmps46
      go_wp2_with ((go_at_call 47; ((with_reducible refine (null _).mono ?_); rintro e w' ⟨rfl, hg⟩; obtain ⟨hc, hf, hz⟩ := hg.rules)))
      exact bodyPost_ret (by simp [results, Try.results46, go_sem, hc]) rfl ⟨rfl, growW⟩
    · have e1 : intV n = ⟨3, n, es⟩ := by unfold intV; rw [if_pos (by omega)]
      rw [e1]; clear e1
      go_enter Try.func46, Try.ntmps46
      go_wp2
      exact bodyPost_ret (by simp [results, Try.results46, go_sem]) rfl ⟨rfl, growW⟩

def rankV (v : V) : Int := if v.k = 2 then 2 * v.n else 1
def RB (v : V) : Prop := v.k = 2 → 0 ≤ v.n ∧ v.n ≤ 1
theorem rank_any (v : V) (h : RB v) (w : World) : Calls Try.prog 50 #[v.val] w fun e w' => e = .returned (.int .i64 (rankV v)) ∧ Grow w w' := by
  unfold V.val
  by_cases h1 : v.k = 2
  · have hd1 : (v.k != 2) = false := by simpa using h1
    have e1 : rankV v = 2 * v.n := by simp [rankV, h1]
    obtain ⟨h0, h2⟩ := h h1
    rw [e1]; clear e1 h1
    go_enter Try.func50, Try.ntmps50
    go_wp2
    go_ret
    exact ⟨rfl, (Grow.refl _).al _⟩
  · have hd1 : (v.k != 2) = true := by simpa using h1
    have e1 : rankV v = 1 := by simp [rankV, h1]
    rw [e1]; clear e1 h1
    go_enter Try.func50, Try.ntmps50
    go_wp2
    go_ret
    exact ⟨rfl, (Grow.refl _).al _⟩

def rankedV (n : Int) : V := if n = 1 then ⟨1, 0, es⟩ else truth (n == 2)
theorem ranked_any (n : Int) (w : World) : Calls Try.prog 79 #[.int .i64 n] w fun e w' => e = .returned (rankedV n).val ∧ Grow w w' := by
  by_cases h1 : n = 1
  · have hd1 : (n == 1) = true := by simpa using h1
    have e1 : rankedV n = ⟨1, 0, es⟩ := by simp [rankedV, h1]
    rw [e1]; clear e1 h1
    go_enter Try.func79, Try.ntmps79
    go_wp2_with ((go_at_call 47; ((with_reducible refine (null _).mono ?_); rintro e w' ⟨rfl, hg⟩; obtain ⟨hc, hf, hz⟩ := hg.rules)))
    exact bodyPost_ret (by simp [results, Try.results79, go_sem, hc]) rfl ⟨rfl, growW⟩
  · have hd1 : (n == 1) = false := by simpa using h1
    have e1 : rankedV n = truth (n == 2) := by simp [rankedV, h1]
    rw [e1]; clear e1 h1
    go_enter Try.func79, Try.ntmps79
    go_wp2_with ((go_at_call 58; ((with_reducible refine (bool_any _ _).mono ?_); rintro e w' ⟨rfl, hg⟩; obtain ⟨hc, hf, hz⟩ := hg.rules)))
    exact bodyPost_ret (by simp [results, Try.results79, go_sem, hc]) rfl ⟨rfl, growW⟩

def alikeB (a b : V) : Bool := decide (a.k = b.k ∧ a.k ≠ 1)
theorem alike_any (a b : V) (w : World) : Calls Try.prog 92 #[a.val, b.val] w fun e w' => e = .returned (.bool (alikeB a b)) ∧ Grow w w' := by
  unfold V.val
  by_cases h1 : a.k = b.k
  · have hd1 : (a.k == b.k) = true := by simpa using h1
    by_cases h2 : b.k = 1
    · have hd2 : (b.k != 1) = false := by simpa using h2
      have hd3 : (a.k != 1) = false := by simpa [h1] using h2
      have e1 : alikeB a b = false := by simp [alikeB, h1, h2]
      rw [e1]; clear e1 h1 h2
      go_enter Try.func92, Try.ntmps92
      go_wp2
      go_ret
      exact ⟨rfl, growW⟩
    · have hd2 : (b.k != 1) = true := by simpa using h2
      have hd3 : (a.k != 1) = true := by simpa [h1] using h2
      have e1 : alikeB a b = true := by simp [alikeB, h1, h2]
      rw [e1]; clear e1 h1 h2
      go_enter Try.func92, Try.ntmps92
      go_wp2
      go_ret
      exact ⟨rfl, growW⟩
  · have hd1 : (a.k == b.k) = false := by simpa using h1
    have e1 : alikeB a b = false := by simp [alikeB, h1]
    rw [e1]; clear e1 h1
    go_enter Try.func92, Try.ntmps92
    go_wp2
    go_ret
    exact ⟨rfl, growW⟩

theorem true_any (v : V) (h : RB v) (w : World) : Calls Try.prog 29 #[v.val] w fun e w' => e = .returned (.bool (rankV v == 2)) ∧ Grow w w' := by
  unfold V.val
  go_enter Try.func29, Try.ntmps29
  go_wp2_with ((go_at_call 50; ((with_reducible refine (rank_any v h _).mono ?_); rintro e w' ⟨rfl, hg⟩; obtain ⟨hc, hf, hz⟩ := hg.rules)))
  go_ret
  exact ⟨rfl, ((Grow.refl _).al _).trans hg⟩

theorem rank_bd (v : V) (h : RB v) : 0 ≤ rankV v ∧ rankV v ≤ 2 := by
  unfold rankV
  split
  · rename_i hk; have := h hk; omega
  · omega
theorem not_any (v : V) (h : RB v) (w : World) : Calls Try.prog 53 #[v.val] w fun e w' => e = .returned (rankedV (2 - rankV v)).val ∧ Grow w w' := by
  obtain ⟨hr1, hr2⟩ := rank_bd v h
  unfold V.val
  go_enter Try.func53, Try.ntmps53
  go_wp2_with (first | (go_at_call 50; ((with_reducible refine (rank_any v h _).mono ?_); rintro e w' ⟨rfl, hg⟩; obtain ⟨hc, hf, hz⟩ := hg.rules)) | (go_at_call 79; ((with_reducible refine (ranked_any _ _).mono ?_); rintro e w2' ⟨rfl, hg2⟩; replace hg := hg.trans hg2; clear hg2 hc hf hz; obtain ⟨hc, hf, hz⟩ := hg.rules)))
  exact bodyPost_ret (by simp [results, Try.results53, go_sem, hc]) rfl ⟨rfl, growW⟩

def minI (x y : Int) : Int := if y < x then y else x
def maxI (x y : Int) : Int := if x < y then y else x
def andV (a b : V) : V := rankedV (minI (rankV a) (rankV b))
def orV (a b : V) : V := rankedV (maxI (rankV a) (rankV b))
def notV (a : V) : V := rankedV (2 - rankV a)

theorem and_any (a b : V) (ha : RB a) (hb : RB b) (w : World) : Calls Try.prog 54 #[a.val, b.val] w fun e w' => e = .returned (andV a b).val ∧ Grow w w' := by
  obtain ⟨ra1, ra2⟩ := rank_bd a ha
  obtain ⟨rb1, rb2⟩ := rank_bd b hb
  unfold V.val
  have em : (if rankV b < rankV a then rankV b else rankV a) = minI (rankV a) (rankV b) := rfl
  go_enter Try.func54, Try.ntmps54
  go_wp2
  refine wp_forget (fun W => Blk W w.heap.size 30 #[.int .i64 a.k, .int .i64 a.n, .string a.s] ∧ Blk W (w.heap.size + 1) 30 #[.int .i64 b.k, .int .i64 b.n, .string b.s] ∧ Blk W (w.heap.size + 2) 30 #[.int .i64 0, .int .i64 0, .string es] ∧ Grow w W)
    ⟨((Blk.new _ _ _).al _).al _, (Blk.new' _ _ _ (by simp)).al _, Blk.new' _ _ _ (by simp), (((Grow.refl _).al _).al _).al _⟩ ?_
  rintro W ⟨A1, A2, A3, G1⟩
  apply wp_region_calm 6 (by kernel_rfl) (by kernel_rfl)
  case h' =>
    intro Q0 hQ0
    simp only [List.take_succ_cons, List.take_zero]
    repeat ((first | ((first | apply calm_p rfl | apply calm_y rfl rfl rfl); case h1 => (intro w1 hw1 hF K hK; obtain ⟨c1, f1⟩ := (Blk.grow A1 hw1).rules; obtain ⟨c2, f2⟩ := (Blk.grow A2 hw1).rules; go_simp; first | exact hK _ (Grow.refl _) | (go_at_call 50; ((with_reducible refine (rank_any a ha _).mono ?_); rintro e w' ⟨rfl, hg⟩; exact ⟨_, rfl, hK _ hg⟩)) | (go_at_call 50; ((with_reducible refine (rank_any b hb _).mono ?_); rintro e w' ⟨rfl, hg⟩; exact ⟨_, rfl, hK _ hg⟩)) | (go_at_call 79; ((with_reducible refine (ranked_any _ _).mono ?_); rintro e w' ⟨rfl, hg⟩; exact ⟨_, rfl, hK _ hg⟩)))) | apply calm_n rfl rfl rfl rfl); intro K hK; go_simp; apply hK; clear hK K)
    refine calm_nil ?_
    intro w1 hw1 hF
    apply hQ0
    clear hQ0
    simp only [List.drop_succ_cons, List.drop_zero]
    clear hF
    obtain ⟨c3, f3⟩ := (Blk.grow A3 hw1).rules
    go_wp2
    exact bodyPost_ret (by simp [results, Try.results54, go_sem, c3, andV]) rfl ⟨rfl, growW⟩
  case hp' => trivial

theorem or_any (a b : V) (ha : RB a) (hb : RB b) (w : World) : Calls Try.prog 55 #[a.val, b.val] w fun e w' => e = .returned (orV a b).val ∧ Grow w w' := by
  obtain ⟨ra1, ra2⟩ := rank_bd a ha
  obtain ⟨rb1, rb2⟩ := rank_bd b hb
  unfold V.val
  have em : (if rankV a < rankV b then rankV b else rankV a) = maxI (rankV a) (rankV b) := rfl
  go_enter Try.func55, Try.ntmps55
  go_wp2
  refine wp_forget (fun W => Blk W w.heap.size 30 #[.int .i64 a.k, .int .i64 a.n, .string a.s] ∧ Blk W (w.heap.size + 1) 30 #[.int .i64 b.k, .int .i64 b.n, .string b.s] ∧ Blk W (w.heap.size + 2) 30 #[.int .i64 0, .int .i64 0, .string es] ∧ Grow w W)
    ⟨((Blk.new _ _ _).al _).al _, (Blk.new' _ _ _ (by simp)).al _, Blk.new' _ _ _ (by simp), (((Grow.refl _).al _).al _).al _⟩ ?_
  rintro W ⟨A1, A2, A3, G1⟩
  apply wp_region_calm 6 (by kernel_rfl) (by kernel_rfl)
  case h' =>
    intro Q0 hQ0
    simp only [List.take_succ_cons, List.take_zero]
    repeat ((first | ((first | apply calm_p rfl | apply calm_y rfl rfl rfl); case h1 => (intro w1 hw1 hF K hK; obtain ⟨c1, f1⟩ := (Blk.grow A1 hw1).rules; obtain ⟨c2, f2⟩ := (Blk.grow A2 hw1).rules; go_simp; first | exact hK _ (Grow.refl _) | (go_at_call 50; ((with_reducible refine (rank_any a ha _).mono ?_); rintro e w' ⟨rfl, hg⟩; exact ⟨_, rfl, hK _ hg⟩)) | (go_at_call 50; ((with_reducible refine (rank_any b hb _).mono ?_); rintro e w' ⟨rfl, hg⟩; exact ⟨_, rfl, hK _ hg⟩)) | (go_at_call 79; ((with_reducible refine (ranked_any _ _).mono ?_); rintro e w' ⟨rfl, hg⟩; exact ⟨_, rfl, hK _ hg⟩)))) | apply calm_n rfl rfl rfl rfl); intro K hK; go_simp; apply hK; clear hK K)
    refine calm_nil ?_
    intro w1 hw1 hF
    apply hQ0
    clear hQ0
    simp only [List.drop_succ_cons, List.drop_zero]
    clear hF
    obtain ⟨c3, f3⟩ := (Blk.grow A3 hw1).rules
    go_wp2
    exact bodyPost_ret (by simp [results, Try.results55, go_sem, c3, orV]) rfl ⟨rfl, growW⟩
  case hp' => trivial
end Go.Proofs.Ytamfpppbjaelaaa

namespace Go.Proofs.Ytamfpppbjaelaaa
open Go.RowKit Go.Calm
set_option linter.unusedSimpArgs false
set_option linter.unusedVariables false
theorem ret_int {k : IntKind} {a b : Int} {P : Prop} (h : a = b) (p : P) : Ending.returned (.int k a) = .returned (.int k b) ∧ P := ⟨by rw [h], p⟩
theorem ret_bool {a b : Bool} {P : Prop} (h : a = b) (p : P) : Ending.returned (.bool a) = .returned (.bool b) ∧ P := ⟨by rw [h], p⟩

def wrongV (v : V) : Int :=
  if v.k = 1 then 0
  else if v.k = 2 then (if v.n = 0 ∨ v.n = 1 then 0 else 3)
  else if v.k = 3 then (if -1000000000000000 ≤ v.n ∧ v.n ≤ 1000000000000000 then 0 else 3)
  else if v.k = 4 then (if v.s.size ≤ 60 then 0 else 4)
  else 1

theorem wrong_any (v : V) (w : World) : Calls Try.prog 68 #[v.val] w fun e w' => e = .returned (.int .i64 (wrongV v)) ∧ Grow w w' := by
  unfold V.val
  go_enter Try.func68, Try.ntmps68
  go_wp2
  all_goals
    go_ret
    refine ret_int ?_ growW
    (try simp only [beq_iff_eq, beq_eq_false_iff_ne, bne_iff_ne, ne_eq, bne_eq_false_iff_eq, Bool.not_eq_true', Bool.not_eq_false', decide_eq_true_eq, decide_eq_false_iff_not] at *)
    unfold wrongV
    repeat' split
    all_goals first | rfl | omega
theorem rnull_any (w : World) : Calls Try.prog 31 #[] w fun e w' => e = .returned (V.val ⟨1, 0, es⟩) ∧ Grow w w' := by
  go_enter Try.func31, Try.ntmps31
  go_wp2
  exact bodyPost_ret (by simp [results, Try.results31, go_sem]) rfl ⟨rfl, growW⟩
theorem truth_any (b : Bool) (w : World) : Calls Try.prog 32 #[.bool b] w fun e w' => e = .returned (truth b).val ∧ Grow w w' := by
  cases b
  · go_enter Try.func32, Try.ntmps32
    go_wp2
    exact bodyPost_ret (by simp [results, Try.results32, go_sem, truth]) rfl ⟨rfl, growW⟩
  · go_enter Try.func32, Try.ntmps32
    go_wp2
    exact bodyPost_ret (by simp [results, Try.results32, go_sem, truth]) rfl ⟨rfl, growW⟩

structure RV (v : V) : Prop where
  kind : v.k = 1 ∨ v.k = 2 ∨ v.k = 3 ∨ v.k = 4
  bool : v.k = 2 → v.n = 0 ∨ v.n = 1
  int : v.k = 3 → -1000000000000000 ≤ v.n ∧ v.n ≤ 1000000000000000
  text : v.k = 4 → v.s.size ≤ 60
theorem RV.of (v : V) : wrongV v = 0 ↔ RV v := by
  constructor
  · intro h
    unfold wrongV at h
    constructor
    · split at h
      · omega
      · split at h
        · omega
        · split at h
          · omega
          · split at h
            · omega
            · omega
    · intro hk
      simp only [hk] at h
      simp at h
      omega
    · intro hk
      simp only [hk] at h
      simp at h
      omega
    · intro hk
      simp only [hk] at h
      simp at h
      exact h
  · rintro ⟨h1, h2, h3, h4⟩
    unfold wrongV
    repeat' split
    all_goals first | rfl | omega
theorem RV.rb {v : V} (h : RV v) : RB v := fun hk => by have := h.bool hk; omega

def isB (v : V) (b : Bool) : Bool := decide (v.k = 2) && (decide (v.n = 1) == b)
theorem is_any (v : V) (b : Bool) (w : World) : Calls Try.prog 11 #[v.val, .bool b] w fun e w' => e = .returned (.bool (isB v b)) ∧ Grow w w' := by
  unfold V.val
  cases b
  · go_enter Try.func11, Try.ntmps11
    go_wp2
    all_goals
      go_ret
      refine ret_bool ?_ growW
      simp [isB, *]; try (rw [Bool.eq_iff_iff]; simp)
  · go_enter Try.func11, Try.ntmps11
    go_wp2
    all_goals
      go_ret
      refine ret_bool ?_ growW
      simp [isB, *]; try (rw [Bool.eq_iff_iff]; simp)

def ordV (a b : V) : Int :=
  if a.k < b.k then -1 else if b.k < a.k then 1 else if a.k = 1 then 0
  else if a.k = 4 then cmpS a.s b.s
  else (if a.n < b.n then -1 else if b.n < a.n then 1 else 0)
theorem order_any (a b : V) (w : World) : Calls Try.prog 33 #[a.val, b.val] w fun e w' => e = .returned (.int .i64 (ordV a b)) ∧ Grow w w' := by
  unfold V.val
  have hl := cmpS_less a.s b.s
  have he := cmpS_beq a.s b.s
  have hr := cmpS_range a.s b.s
  go_enter Try.func33, Try.ntmps33
  go_wp2
  all_goals
    go_ret
    refine ret_int ?_ growW
    (try simp only [beq_iff_eq, beq_eq_false_iff_ne, bne_iff_ne, ne_eq, bne_eq_false_iff_eq, Bool.not_eq_true', Bool.not_eq_false', decide_eq_true_eq, decide_eq_false_iff_not] at *)
    unfold ordV
    repeat' split
    all_goals first | rfl | omega

def eqV (a b : V) : V := if alikeB a b then truth (cmpV a b == 0) else ⟨1, 0, es⟩
def lessV (a b : V) : V := if alikeB a b then truth (decide (cmpV a b < 0)) else ⟨1, 0, es⟩

theorem eq_any (a b : V) (w : World) : Calls Try.prog 80 #[a.val, b.val] w fun e w' => e = .returned (eqV a b).val ∧ Grow w w' := by
  cases hal : alikeB a b
  · have e : eqV a b = ⟨1, 0, es⟩ := by simp [eqV, hal]
    rw [e]; clear e
    unfold V.val
    go_enter Try.func80, Try.ntmps80
    go_wp2_with (first | (go_at_call 92; ((with_reducible refine (alike_any a b _).mono ?_); rintro e w' ⟨rfl, hg⟩; obtain ⟨hc, hf, hz⟩ := hg.rules)) | (go_at_call 47; ((with_reducible refine (null _).mono ?_); rintro e w2' ⟨rfl, hg2⟩; replace hg := hg.trans hg2; clear hg2 hc hf hz; obtain ⟨hc, hf, hz⟩ := hg.rules)))
    exact bodyPost_ret (by simp [results, Try.results80, go_sem, hc]) rfl ⟨rfl, growW⟩
  · have e : eqV a b = truth (cmpV a b == 0) := by simp [eqV, hal]
    rw [e]; clear e
    unfold V.val
    go_enter Try.func80, Try.ntmps80
    go_wp2_with (first | (go_at_call 92; ((with_reducible refine (alike_any a b _).mono ?_); rintro e w' ⟨rfl, hg⟩; obtain ⟨hc, hf, hz⟩ := hg.rules)) | (go_at_call 43; ((with_reducible refine (compare_any a b _).mono ?_); rintro e w2' ⟨rfl, hg2⟩; replace hg := hg.trans hg2; clear hg2 hc hf hz; obtain ⟨hc, hf, hz⟩ := hg.rules)) | (go_at_call 58; ((with_reducible refine (bool_any _ _).mono ?_); rintro e w2' ⟨rfl, hg2⟩; replace hg := hg.trans hg2; clear hg2 hc hf hz; obtain ⟨hc, hf, hz⟩ := hg.rules)))
    exact bodyPost_ret (by simp [results, Try.results80, go_sem, hc]) rfl ⟨rfl, growW⟩
theorem less_any (a b : V) (w : World) : Calls Try.prog 81 #[a.val, b.val] w fun e w' => e = .returned (lessV a b).val ∧ Grow w w' := by
  cases hal : alikeB a b
  · have e : lessV a b = ⟨1, 0, es⟩ := by simp [lessV, hal]
    rw [e]; clear e
    unfold V.val
    go_enter Try.func81, Try.ntmps81
    go_wp2_with (first | (go_at_call 92; ((with_reducible refine (alike_any a b _).mono ?_); rintro e w' ⟨rfl, hg⟩; obtain ⟨hc, hf, hz⟩ := hg.rules)) | (go_at_call 47; ((with_reducible refine (null _).mono ?_); rintro e w2' ⟨rfl, hg2⟩; replace hg := hg.trans hg2; clear hg2 hc hf hz; obtain ⟨hc, hf, hz⟩ := hg.rules)))
    exact bodyPost_ret (by simp [results, Try.results81, go_sem, hc]) rfl ⟨rfl, growW⟩
  · have e : lessV a b = truth (decide (cmpV a b < 0)) := by simp [lessV, hal]
    rw [e]; clear e
    unfold V.val
    go_enter Try.func81, Try.ntmps81
    go_wp2_with (first | (go_at_call 92; ((with_reducible refine (alike_any a b _).mono ?_); rintro e w' ⟨rfl, hg⟩; obtain ⟨hc, hf, hz⟩ := hg.rules)) | (go_at_call 43; ((with_reducible refine (compare_any a b _).mono ?_); rintro e w2' ⟨rfl, hg2⟩; replace hg := hg.trans hg2; clear hg2 hc hf hz; obtain ⟨hc, hf, hz⟩ := hg.rules)) | (go_at_call 58; ((with_reducible refine (bool_any _ _).mono ?_); rintro e w2' ⟨rfl, hg2⟩; replace hg := hg.trans hg2; clear hg2 hc hf hz; obtain ⟨hc, hf, hz⟩ := hg.rules)))
    exact bodyPost_ret (by simp [results, Try.results81, go_sem, hc]) rfl ⟨rfl, growW⟩

theorem req_any (a b : V) (hab : cmpV a b = ordV a b) (w : World) : Calls Try.prog 12 #[a.val, b.val] w fun e w' => e = .returned (eqV a b).val ∧ Grow w w' := by
  by_cases h1 : a.k = b.k
  · have hd1 : (a.k != b.k) = false := by simpa using h1
    by_cases h2 : a.k = 1
    · have hd2 : (a.k == 1) = true := by simpa using h2
      have e : eqV a b = ⟨1, 0, es⟩ := by simp [eqV, alikeB, h2]
      rw [e]; clear e h1 h2 hab
      unfold V.val
      go_enter Try.func12, Try.ntmps12
      go_wp2_with (first | (go_at_call 31; ((with_reducible refine (rnull_any _).mono ?_); rintro e w' ⟨rfl, hg⟩; obtain ⟨hc, hf, hz⟩ := hg.rules)))
      exact bodyPost_ret (by simp [results, Try.results12, go_sem, hc]) rfl ⟨rfl, growW⟩
    · have hd2 : (a.k == 1) = false := by simpa using h2
      have e : eqV a b = truth (ordV a b == 0) := by simp [eqV, alikeB, h1, hab]; intro h; omega
      rw [e]; clear e h1 h2 hab
      unfold V.val
      go_enter Try.func12, Try.ntmps12
      go_wp2_with (first | (go_at_call 33; ((with_reducible refine (order_any a b _).mono ?_); rintro e w' ⟨rfl, hg⟩; obtain ⟨hc, hf, hz⟩ := hg.rules)) | (go_at_call 32; ((with_reducible refine (truth_any _ _).mono ?_); rintro e w2' ⟨rfl, hg2⟩; replace hg := hg.trans hg2; clear hg2 hc hf hz; obtain ⟨hc, hf, hz⟩ := hg.rules)))
      exact bodyPost_ret (by simp [results, Try.results12, go_sem, hc]) rfl ⟨rfl, growW⟩
  · have hd1 : (a.k != b.k) = true := by simpa using h1
    have e : eqV a b = ⟨1, 0, es⟩ := by simp [eqV, alikeB, h1]
    rw [e]; clear e h1 hab
    unfold V.val
    go_enter Try.func12, Try.ntmps12
    go_wp2_with (first | (go_at_call 31; ((with_reducible refine (rnull_any _).mono ?_); rintro e w' ⟨rfl, hg⟩; obtain ⟨hc, hf, hz⟩ := hg.rules)))
    exact bodyPost_ret (by simp [results, Try.results12, go_sem, hc]) rfl ⟨rfl, growW⟩
def VCells (w : World) (g o : Nat) (v : V) : Prop := w.cell? ⟨g, o, none⟩ = some (.int .i64 v.k) ∧ w.cell? ⟨g, o + 1, none⟩ = some (.int .i64 v.n) ∧ w.cell? ⟨g, o + 2, none⟩ = some (.string v.s)
def VSl (w : World) (A : Option Addr) (xs : List V) : Prop := ∀ i x, xs[i]? = some x → ∃ g o, A = some ⟨g, o, none⟩ ∧ VCells w g (o + i * 3) x
theorem VCells.grow {w w' : World} {g o : Nat} {v : V} (h : VCells w g o v) (hg : Grow w w') : VCells w' g o v := ⟨hg.cell h.1, hg.cell h.2.1, hg.cell h.2.2⟩
theorem VSl.grow {w w' : World} {A : Option Addr} {xs : List V} (h : VSl w A xs) (hg : Grow w w') : VSl w' A xs := fun i x hx => by
  obtain ⟨g, o, hA, hc⟩ := h i x hx
  exact ⟨g, o, hA, hc.grow hg⟩
def rowsG (f : V → V → Int) : List V → List V → Int
  | [], [] => 0
  | [], _ :: _ => -1
  | _ :: _, [] => 1
  | a :: l, b :: m => if f a b = 0 then rowsG f l m else f a b

theorem rowsG_cons (f : V → V → Int) (xs ys : List V) (k : Nat) (x y : V) (hx : xs[k]? = some x) (hy : ys[k]? = some y) :
    rowsG f (xs.drop k) (ys.drop k) = if f x y = 0 then rowsG f (xs.drop (k + 1)) (ys.drop (k + 1)) else f x y := by
  obtain ⟨h1, e1⟩ := List.getElem?_eq_some_iff.1 hx
  obtain ⟨h2, e2⟩ := List.getElem?_eq_some_iff.1 hy
  rw [List.drop_eq_getElem_cons h1, List.drop_eq_getElem_cons h2, e1, e2]
  rfl
theorem rowsG_long (f : V → V → Int) (xs ys : List V) (k : Nat) (hx : k < xs.length) (hy : ys.length = k) : rowsG f (xs.drop k) (ys.drop k) = 1 := by
  rw [List.drop_eq_getElem_cons hx, List.drop_eq_nil_of_le (by omega : ys.length ≤ k)]
  rfl
theorem rowsG_end (f : V → V → Int) (xs ys : List V) (k : Nat) (hx : xs.length = k) (hy : k ≤ ys.length) : rowsG f (xs.drop k) (ys.drop k) = cmpI (xs.length : Int) (ys.length : Int) := by
  rw [List.drop_eq_nil_of_le (by omega : xs.length ≤ k)]
  unfold cmpI
  by_cases h : k < ys.length
  · rw [List.drop_eq_getElem_cons h, if_pos (by omega)]; rfl
  · rw [List.drop_eq_nil_of_le (by omega : ys.length ≤ k), if_neg (by omega), if_neg (by omega)]; rfl

theorem vrows_any (xs ys : List V) (A B : Option Addr) (c d : Nat) (w : World) (hlx : xs.length ≤ 9223372036854775807) (hly : ys.length ≤ 9223372036854775807) (hx : VSl w A xs) (hy : VSl w B ys) :
    Calls Try.prog 24 #[.slice A xs.length c, .slice B ys.length d] w fun e w' => e = .returned (.int .i64 (rowsG cmpV xs ys)) ∧ Grow w w' := by
  have Hx := Lib.hid hx
  have Hy := Lib.hid hy
  clear hx hy
  go_enter Try.func24, Try.ntmps24
  go_wp2
  go_loopw [10] (fun i wr => ∃ k : Nat, k ≤ xs.length ∧ k ≤ ys.length ∧ i = .int .i64 k ∧ rowsG cmpV xs ys = rowsG cmpV (xs.drop k) (ys.drop k) ∧ Grow w wr) (fun i _ => xs.length - (intOf i).toNat)
  case atStart => exact ⟨0, Nat.zero_le _, Nat.zero_le _, rfl, rfl, Grow.refl _⟩
  case round =>
    obtain ⟨k, hk, hk', rfl, heq, hg⟩ := hrel
    have Heq := Lib.hid heq
    clear heq
    by_cases hlt : k < xs.length
    · obtain ⟨x, hxk⟩ : ∃ x, xs[k]? = some x := ⟨_, List.getElem?_eq_getElem hlt⟩
      obtain ⟨g, o, rfl, hc1, hc2, hc3⟩ := Hx.out k x hxk
      have c1 := hg.cell hc1
      have c2 := hg.cell hc2
      have c3 := hg.cell hc3
      have Hxk := Lib.hid hxk
      clear hc1 hc2 hc3 hxk
      by_cases hlt2 : k < ys.length
      · have hne : ((k : Int) == (ys.length : Int)) = false := by rw [beq_eq_false_iff_ne]; omega
        obtain ⟨y, hyk⟩ : ∃ y, ys[k]? = some y := ⟨_, List.getElem?_eq_getElem hlt2⟩
        obtain ⟨g2, o2, rfl, hd1, hd2, hd3⟩ := Hy.out k y hyk
        have Hyk := Lib.hid hyk
        clear hyk
        go_wp2
        refine wp_forget (fun W => Blk W wr.heap.size 30 #[.int .i64 x.k, .int .i64 x.n, .string x.s] ∧ Grow w W) ⟨Blk.new _ _ _, hg.al _⟩ ?_
        rintro W ⟨A1, G1⟩
        have b0 : (0 : Int) ≤ (k : Int) := by omega
        have b1 : (k : Int) < (ys.length : Int) := by omega
        have Hd : Hid (VCells w g2 (o2 + k * 3) y) := Lib.hid ⟨hd1, hd2, hd3⟩
        clear c1 c2 c3 hd1 hd2 hd3
        apply wp_region_calm 7 (by kernel_rfl) (by kernel_rfl)
        case h' =>
          intro Q0 hQ0
          simp only [List.take_succ_cons, List.take_zero]
          repeat ((first | ((first | apply calm_p rfl | apply calm_y rfl rfl rfl); case h1 => (intro w1 hw1 hF K hK; obtain ⟨a1, f1⟩ := (Blk.grow A1 hw1).rules; obtain ⟨d1, d2, d3⟩ := Hd.out.grow (G1.trans hw1); go_simp; first | exact hK _ (Grow.refl _) | (go_at_call 43; ((with_reducible refine (compare_any x y _).mono ?_); rintro e w' ⟨rfl, hg⟩; exact ⟨_, rfl, hK _ hg⟩)))) | apply calm_n rfl rfl rfl rfl); intro K hK; go_simp; apply hK; clear hK K)
          refine calm_nil ?_
          intro w1 hw1 hF
          apply hQ0
          clear hQ0
          simp only [List.drop_succ_cons, List.drop_zero]
          clear hF
          have G2 := G1.trans hw1
          by_cases h0 : cmpV x y = 0
          · have d0 : (cmpV x y != 0) = false := by simpa using h0
            have H0 := Lib.hid h0
            clear h0
            go_wp2
            go_roundw
            case rel => exact ⟨k + 1, by omega, by omega, by go_num, by rw [Heq.out, rowsG_cons cmpV xs ys k x y Hxk.out Hyk.out, if_pos H0.out], G2⟩
            case measure => simp [intOf]; omega
          · have d0 : (cmpV x y != 0) = true := by simpa using h0
            have H0 := Lib.hid h0
            clear h0
            go_wp2
            go_ret
            exact ret_int (by rw [Heq.out, rowsG_cons cmpV xs ys k x y Hxk.out Hyk.out, if_neg H0.out]) G2
        case hp' => trivial
      · have hne : ((k : Int) == (ys.length : Int)) = true := by rw [beq_iff_eq]; omega
        go_wp2
        go_ret
        exact ret_int (by rw [Heq.out, rowsG_long cmpV xs ys k hlt (by omega)]) (hg.al _)
    · have Fin := Lib.hid (rowsG_end cmpV xs ys k (by omega) hk')
      go_wp2_with ((go_at_call 44; ((with_reducible refine (cmp_int _ _ _).mono ?_); rintro e w' ⟨rfl, rfl⟩)))
      go_ret
      exact ret_int (by rw [Heq.out, Fin.out]) hg

theorem bare_k (v : V) : (bare v).k = v.k := by
  unfold bare
  split
  · simp_all
  · split <;> simp_all
theorem cmp_ord (a b : V) (ha : RV a) (hb : RV b) : cmpV a b = ordV a b := by
  unfold cmpV ordV or3
  by_cases h1 : a.k < b.k
  · have := bare_k a
    have hb' := bare_k b
    simp [this, hb', cmpI, h1]
  · by_cases h2 : b.k < a.k
    · have := bare_k a
      have hb' := bare_k b
      simp [this, hb', cmpI, h1, h2]
    · have hk : a.k = b.k := by omega
      have hak := ha.kind
      by_cases h3 : b.k = 1
      · simp [bare, hk, h3, cmpI, cmpS_self]
      · by_cases h4 : b.k = 4
        · simp [bare, hk, h4, cmpI]
        · simp [bare, hk, h3, h4, cmpI, cmpS_self]
          intro h; exact h.symm
theorem ordV_swap (a b : V) : ordV b a = - ordV a b := by
  unfold ordV
  rcases Int.lt_trichotomy a.k b.k with h | h | h
  · rw [if_neg (by omega), if_pos h, if_pos h]; rfl
  · rw [h]
    simp only [Int.lt_irrefl, if_false]
    by_cases h1 : b.k = 1
    · simp [h1]
    · by_cases h4 : b.k = 4
      · simp [h4, cmpS_swap a.s b.s]
      · simp only [h1, h4, if_false]
        repeat' split
        all_goals omega
  · rw [if_pos h, if_neg (by omega), if_pos h]
theorem ordV_range (a b : V) : ordV a b = -1 ∨ ordV a b = 0 ∨ ordV a b = 1 := by
  unfold ordV
  have := cmpS_range a.s b.s
  repeat' split
  all_goals omega
theorem ordV_lt {a b : V} (h : a.k < b.k) : ordV a b = -1 := by unfold ordV; rw [if_pos h]
theorem ordV_gt {a b : V} (h : b.k < a.k) : ordV a b = 1 := by unfold ordV; rw [if_neg (by omega), if_pos h]
theorem ordV_same {a b : V} (h : a.k = b.k) : ordV a b = if a.k = 1 then 0 else if a.k = 4 then cmpS a.s b.s else if a.n < b.n then -1 else if b.n < a.n then 1 else 0 := by
  unfold ordV; rw [if_neg (by omega), if_neg (by omega)]
theorem ordV_trans (a b c : V) : ordV a b ≤ 0 → ordV b c ≤ 0 → ordV a c ≤ 0 := by
  intro h1 h2
  rcases Int.lt_trichotomy a.k b.k with h | h | h
  · rcases Int.lt_trichotomy b.k c.k with k | k | k
    · rw [ordV_lt (by omega)]; omega
    · rw [ordV_lt (by omega)]; omega
    · rw [ordV_gt k] at h2; omega
  · rcases Int.lt_trichotomy b.k c.k with k | k | k
    · rw [ordV_lt (by omega)]; omega
    · rw [ordV_same h] at h1
      rw [ordV_same k] at h2
      rw [ordV_same (h.trans k)]
      rw [h] at h1 ⊢
      by_cases e1 : b.k = 1
      · simp [e1]
      · by_cases e4 : b.k = 4
        · simp only [e4] at h1 h2 ⊢
          exact cmpS_trans a.s b.s c.s h1 h2
        · simp only [e1, e4, if_false] at h1 h2 ⊢
          repeat' split at h1
          all_goals repeat' split at h2
          all_goals repeat' split
          all_goals omega
    · rw [ordV_gt k] at h2; omega
  · rw [ordV_gt h] at h1; omega
theorem ordV_zero (a b : V) (ha : RV a) (hb : RV b) : ordV a b = 0 ↔ bare a = bare b := by
  have hak := ha.kind
  have hbk := hb.kind
  have he := cmpS_eq a.s b.s
  obtain ⟨ak, an, at_⟩ := a
  obtain ⟨bk, bn, bt⟩ := b
  simp only at *
  rcases hak with rfl | rfl | rfl | rfl <;> rcases hbk with rfl | rfl | rfl | rfl <;> simp [ordV, bare, he]
  all_goals
    repeat' split
    all_goals omega

theorem rowsG_range (f : V → V → Int) (hf : ∀ a b, f a b = -1 ∨ f a b = 0 ∨ f a b = 1) : ∀ xs ys : List V, rowsG f xs ys = -1 ∨ rowsG f xs ys = 0 ∨ rowsG f xs ys = 1
  | [], [] => by simp [rowsG]
  | [], _ :: _ => by simp [rowsG]
  | _ :: _, [] => by simp [rowsG]
  | a :: l, b :: m => by
    unfold rowsG
    split
    · exact rowsG_range f hf l m
    · exact hf a b
theorem rowsG_swap (f : V → V → Int) (hf : ∀ a b, f b a = - f a b) : ∀ xs ys : List V, rowsG f ys xs = - rowsG f xs ys
  | [], [] => by simp [rowsG]
  | [], _ :: _ => by simp [rowsG]
  | _ :: _, [] => by simp [rowsG]
  | a :: l, b :: m => by
    have ih := rowsG_swap f hf l m
    have h := hf a b
    unfold rowsG
    rw [h]
    by_cases h0 : f a b = 0
    · simp [h0, ih]
    · rw [if_neg (by omega), if_neg h0]
theorem rows_cmp_ord : ∀ xs ys : List V, (∀ x ∈ xs, RV x) → (∀ y ∈ ys, RV y) → rowsG cmpV xs ys = rowsG ordV xs ys
  | [], [], _, _ => rfl
  | [], _ :: _, _, _ => rfl
  | _ :: _, [], _, _ => rfl
  | a :: l, b :: m, h, k => by
    unfold rowsG
    rw [cmp_ord a b (h a (by simp)) (k b (by simp)), rows_cmp_ord l m (fun x hx => h x (by simp [hx])) (fun y hy => k y (by simp [hy]))]
end Go.Proofs.Ytamfpppbjaelaaa

namespace Go.Proofs.Ytamfpppbjaelaaa
open Go.ChangeShapes Go.WideShapes Go.ChangeAt Go.RowKit Go.Calm
set_option maxRecDepth 100000
set_option linter.unusedVariables false
set_option linter.unusedSimpArgs false
section
variable {H : Type} {enc : TypeId × Value → H} {P : Program}

theorem trodAll_stays (hl : laidOutB P = true) {W W' : World} (hb : Below W.heap.size W W') {sp : Nat → Bool} : ∀ {ts : List TypeId} {vs : List Value} {ds : List (DataW H)} {ps : List MemPlace},
    (∀ t ∈ ts, P.readableRec t = true ∧ t < P.types.size) → DataW.TrodAll enc P W 0 (fun _ => true) true ts vs ds ps → (∀ p ∈ ps, p.block < W.heap.size) → (∀ p ∈ ps, sp p.block = true) → DataW.TrodAll enc P W' 0 sp true ts vs ds ps
  | [], [], [], _, _, h, _, _ => h
  | t :: ts, v :: vs, d :: ds, ps, hr, ⟨p, q, h1, h2, e⟩, hlt, hs => by
    subst e
    refine ⟨p, q, WideElems.Trod_stays hl (hr t (by simp)).1 (hr t (by simp)).2 h1 (fun x hx => hb.same (hlt x (List.mem_append_left _ hx))) (fun x hx => hs x (List.mem_append_left _ hx)), ?_, rfl⟩
    exact trodAll_stays hl hb (fun t' ht' => hr t' (List.mem_cons_of_mem _ ht')) h2 (fun x hx => hlt x (List.mem_append_right _ hx)) (fun x hx => hs x (List.mem_append_right _ hx))

theorem law_post {f : Func} {s : ChangeSpec} {W W' : World} {args : Array Value} {ds : List (DataW H)} {before : List MemPlace}
    (hvars : s.vars = []) (hfn : s.fn H (ds ++ []) = { results := [.lit (.bool true)], args := ds, vars := [] }) (tb : TypeId) (hres : f.resultTypes = #[tb]) (hbool : P.underlying tb = some .bool)
    (hl : laidOutB P = true) (hr : ∀ t ∈ f.params.toList, P.readableRec t = true ∧ t < P.types.size)
    (hW : DataW.Whole enc P f.params.toList s.vars false W args.toList ds [] before) (hg : Grow W W') :
    s.post enc P f false true false false W args (.bool true) W' := by
  have hW' := hW
  obtain ⟨p, q, hA, hV, rfl, hfz, hnd⟩ := hW
  have hq : q = [] := by
    rw [hvars] at hV
    exact hV
  subst hq
  have hlt : ∀ x ∈ p ++ [], x.block < W.heap.size := fun x hx => hW'.lt x hx
  have hlt' : ∀ x ∈ p, x.block < W.heap.size := fun x hx => hlt x (by simpa using hx)
  have hb := hg.below
  refine ⟨ds, [], p ++ [], [], p, [], hW', ?_, ?_, ?_, ?_, fun h => by cases h⟩
  · rw [hfn, hres]
    exact trodAll_cons_mk (shut_bool hbool _) trodAll_mk0
  · rw [hfn]
    exact trodAll_stays hl hb hr hA hlt' (fun x hx => by simpa using hlt' x hx)
  · rw [hvars, hfn]; exact rfl
  · exact World.keptBut_mono (fun x hx => ⟨hx, .inr (by simpa using hx)⟩) (hb.frame (· ∈ p ++ []))
end

section
variable {H : Type} {enc : TypeId × Value → H} {w : World} {base : Nat} {spare : Nat → Bool} {held : Bool}

def inI64 (n : Int) : Prop := -9223372036854775808 ≤ n ∧ n ≤ 9223372036854775807
theorem wf_i64 {n : Int} (h : (Lit.int .i64 n).wf = true) : inI64 n := by
  simpa [Lit.wf, IntKind.min, IntKind.max, IntKind.signed, IntKind.bits, inI64] using h
structure VB (v : V) : Prop where
  k : inI64 v.k
  n : inI64 v.n
  s : v.s.size ≤ maxLen

theorem val_cells {fuel : Nat} {cs : List Value} {x : DataW H × List MemPlace} (h : DataW.trod enc Try.prog w base spare held fuel 30 cs = some x) :
    ∃ v : V, cs = [.int .i64 v.k, .int .i64 v.n, .string v.s] ∧ VB v := by
  obtain ⟨xs, n, _, _, hlen, hxl, hf⟩ := DataW.trod_struct Try.underlying30 h
  have h3 : cs.length = 3 := by rw [hlen]; kernel_rfl
  match cs, h3 with
  | [a, b, c], _ =>
    have f0 := hf 0 _ rfl
    have f1 := hf 1 _ rfl
    have f2 := hf 2 _ rfl
    have g : ∀ i, i < 3 → ∃ y, xs[i]? = some y := fun i hi => ⟨xs[i]'(by rw [hxl]; exact hi), List.getElem?_eq_getElem _⟩
    obtain ⟨y0, e0⟩ := g 0 (by omega)
    obtain ⟨y1, e1⟩ := g 1 (by omega)
    obtain ⟨y2, e2⟩ := g 2 (by omega)
    rw [e0] at f0
    rw [e1] at f1
    rw [e2] at f2
    obtain ⟨k, hk, _, wk⟩ := DataW.trod_int Try.underlying3 f0
    obtain ⟨m, hm, _, wm⟩ := DataW.trod_int Try.underlying2 f1
    obtain ⟨s, hs, _, ws⟩ := DataW.trod_string Try.underlying9 f2
    have c0 : Try.prog.cellsOf 3 = 1 := by kernel_rfl
    have c1 : Try.prog.cellsOf 2 = 1 := by kernel_rfl
    have c2 : Try.prog.cellsOf 9 = 1 := by kernel_rfl
    simp [c0] at hk
    simp [c1] at hm
    simp [c2] at hs
    exact ⟨⟨k, m, s⟩, by simp [hk, hm, hs], ⟨wf_i64 wk, wf_i64 wm, ws⟩⟩

theorem val_read {r : Reach} {b0 : Nat} {v : Value} {d : DataW H} {p : List MemPlace} (hv : Value.okWide Try.prog w r b0 30 v) (h : DataW.Trod enc Try.prog w base spare held 30 v d p) : ∃ x : V, v = x.val ∧ VB x := by
  obtain ⟨cs, rfl, _⟩ := okWide_struct Try.underlying30 hv
  obtain ⟨fuel, hf⟩ := h
  obtain ⟨x, hx, hb⟩ := val_cells hf
  refine ⟨x, ?_, hb⟩
  have : cs.toList = [.int .i64 x.k, .int .i64 x.n, .string x.s] := by simpa [Value.cells] using hx
  cases cs
  simp at this
  rw [this]

theorem spot_none {w : World} {a : Addr} {j : Nat} {v : Value} (h : w.cell? (a.add j) = some v) : a.spot = none ∨ j ≠ 0 := by
  by_cases hj : j = 0
  · subst hj
    left
    unfold Addr.add at h
    simp only [if_true] at h
    unfold World.cell? at h
    split at h
    · split at h
      · cases h
      · rename_i hs; simpa using hs
    · cases h
  · exact .inr hj

theorem add_flat {g o n : Nat} : (Addr.mk g o none).add n = ⟨g, o + n, none⟩ := by
  unfold Addr.add
  split
  · rename_i h; subst h; rfl
  · rfl

theorem slice_cells {t e : TypeId} {fuel c : Nat} {cs : List Value} {x : DataW H × List MemPlace} (ht : Try.prog.underlying t = some (.slice e)) (hc : Try.prog.cellsOf e = c) (hc0 : 0 < c) (h : DataW.trod enc Try.prog w base spare held fuel t cs = some x) :
    ∃ (A : Option Addr) (len cap n : Nat) (D : Nat → DataW H × List MemPlace), cs = [.slice A len cap] ∧ len ≤ maxLen ∧ len ≤ cap ∧ ∀ i, i < len → ∃ g o ys, A = some ⟨g, o, none⟩ ∧ ys.length = c ∧ (∀ j y, ys[j]? = some y → w.cell? ⟨g, o + i * c + j, none⟩ = some y) ∧ DataW.trod enc Try.prog w base spare held n e ys = some (D i) := by
  rcases DataW.trod_slice ht h with ⟨h0, _⟩ | ⟨a, len, cap, elems, rest, n, _, hcs, _, hb, hl, hm, hlen, hel, _, _⟩
  · exact ⟨none, 0, 0, 0, fun _ => (.nil, []), h0, Nat.zero_le _, Nat.le_refl _, fun i hi => by omega⟩
  · refine ⟨some a, len, cap, n, fun i => elems.getD i (.nil, []), hcs, by omega, hl, fun i hi => ?_⟩
    have get : ∀ i, i < len → ∃ ys, w.cells? base (a.add (i * c)) c = some ys ∧ DataW.trod enc Try.prog w base spare held n e ys = some (elems.getD i (.nil, [])) := fun i hi => by
      have h1 := hel i hi
      rw [hc] at h1
      have h2 : elems[i]? = some (elems.getD i (.nil, [])) := by simp [hlen, hi]
      rw [h2] at h1
      cases hcell : w.cells? base (a.add (i * c)) c with
      | none => rw [hcell] at h1; cases h1
      | some ys => rw [hcell] at h1; exact ⟨ys, rfl, h1⟩
    have hsp : a.spot = none := by
      obtain ⟨ys, hcell, _⟩ := get 0 (by omega)
      obtain ⟨_, hyl, hat⟩ := World.cells?_some hcell
      have h1 := hat 0 hc0
      have h2 : ys[0]? = some (ys[0]'(by omega)) := List.getElem?_eq_getElem _
      rw [h2, Nat.zero_mul] at h1
      have e : (a.add 0) = a := rfl
      rw [e] at h1
      rcases spot_none h1 with h3 | h3
      · exact h3
      · exact absurd rfl h3
    obtain ⟨g, o, sp⟩ := a
    simp only at hsp
    subst hsp
    obtain ⟨ys, hcell, hd⟩ := get i hi
    obtain ⟨_, hyl, hat⟩ := World.cells?_some hcell
    refine ⟨g, o, ys, rfl, hyl, fun j y hy => ?_, hd⟩
    have hj : j < c := by rw [← hyl]; exact (List.getElem?_eq_some_iff.1 hy).1
    have := hat j hj
    rw [hy, add_flat, add_flat] at this
    exact this

theorem vals_cells {fuel : Nat} {cs : List Value} {x : DataW H × List MemPlace} (h : DataW.trod enc Try.prog w base spare held fuel 37 cs = some x) :
    ∃ (A : Option Addr) (xs : List V) (cap : Nat), cs = [.slice A xs.length cap] ∧ VSl w A xs ∧ xs.length ≤ maxLen ∧ ∀ v ∈ xs, VB v := by
  obtain ⟨A, len, cap, n, D, hcs, hl, _, hi⟩ := slice_cells (c := 3) Try.underlying37 (by kernel_rfl) (by omega) h
  have pick : ∀ i, i < len → ∃ v : V, VB v ∧ ∃ g o, A = some ⟨g, o, none⟩ ∧ VCells w g (o + i * 3) v := fun i hlt => by
    obtain ⟨g, o, ys, hA, hyl, hat, hd⟩ := hi i hlt
    obtain ⟨v, hv, hb⟩ := val_cells hd
    subst hv
    exact ⟨v, hb, g, o, hA, hat 0 _ rfl, hat 1 _ rfl, hat 2 _ rfl⟩
  have build : ∀ m, m ≤ len → ∃ xs : List V, xs.length = m ∧ (∀ v ∈ xs, VB v) ∧ VSl w A xs := by
    intro m
    induction m with
    | zero => exact fun _ => ⟨[], rfl, by simp, fun i x hx => by simp at hx⟩
    | succ m ih =>
      intro hm
      obtain ⟨xs, hxl, hxb, hxs⟩ := ih (by omega)
      obtain ⟨v, hb, g, o, hA, hc⟩ := pick m (by omega)
      refine ⟨xs ++ [v], by simp [hxl], fun u hu => ?_, fun i x hx => ?_⟩
      · rcases List.mem_append.1 hu with h' | h'
        · exact hxb u h'
        · simp at h'; subst h'; exact hb
      · rcases Nat.lt_or_ge i xs.length with h' | h'
        · rw [List.getElem?_append_left h'] at hx
          exact hxs i x hx
        · rw [List.getElem?_append_right h'] at hx
          have : i - xs.length = 0 := by
            rcases Nat.eq_zero_or_pos (i - xs.length) with h0 | h0
            · exact h0
            · rw [List.getElem?_eq_none (by simp; omega)] at hx; cases hx
          rw [this] at hx
          simp at hx
          subst hx
          have hi' : i = m := by omega
          subst hi'
          exact ⟨g, o, hA, hc⟩
  obtain ⟨xs, hxl, hxb, hxs⟩ := build len (Nat.le_refl _)
  exact ⟨A, xs, cap, by rw [hcs, hxl], hxs, by omega, hxb⟩

end
end Go.Proofs.Ytamfpppbjaelaaa
