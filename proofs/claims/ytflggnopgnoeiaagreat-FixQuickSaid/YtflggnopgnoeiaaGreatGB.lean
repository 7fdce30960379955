/- Parts of a proof. No condition. -/
import Derived.Test.YtflggnopgnoeiaaGreatProg
import Derived.Test.YtflggnopgnoeiaaGreatGA
import Derived.WalkSpells
import Derived.WalkLawsBesides
import Derived.Handy
import Derived.BigGuardPart
import Derived.Test.YtflggnopgnoeiaaGreatRows
import Derived.ProofKit
import Derived.OpenShut
set_option maxRecDepth 100000
set_option maxHeartbeats 1000000
set_option maxRecDepth 100000
set_option linter.unusedSimpArgs false
set_option linter.unusedVariables false
namespace Go
variable {p : Prop}
theorem vf_ (h : p := by simp [results, Tryz.results79, go_sem, bare]) : p := h
theorem vh_ (h : p := by simp [results, Tryz.results121, go_sem, qj]) : p := h
theorem vi_ (h : p := by simp [results, Tryz.results150, go_sem, hc]) : p := h
theorem vj_ (h : p := by simp [results, Tryz.results152, go_sem, hc]) : p := h
theorem vk_ (h : p := by simp [results, Tryz.results153, go_sem, hc]) : p := h
theorem vq_ (h : p := by simp [results, Tryz.results72, go_sem, hc]) : p := h
theorem vB_ (h : p := by simp [results, Tryz.results115, go_sem]) : p := h
theorem uk_ (h : p := by rw [hxl]; exact hi) : p := h
theorem uw_ (h : p := by simpa using hx) : p := h
theorem uQ_ (h : p := by kernel_rfl) : p := h
theorem uR_ (h : p := by simp [hx]) : p := h
theorem uS_ (h : p := by simp [hy]) : p := h
theorem u1_ (h : p := by
 simp [intOf]; omega) : p := h
theorem u7_ (h : p := by
 intro m
 induction m with
 | zero => exact fun _ => ⟨[], rfl, by simp, fun i x hx => by simp at hx⟩
 | succ m ih =>
  intro hm; obtain ⟨xs, hxl, hxb, hxs⟩ := ih uX_; obtain ⟨v, hb, g, o, hA, hc⟩ := pick m uX_; refine ⟨xs ++ [v], by simp [hxl], fun u hu => ?_, fun i x hx => ?_⟩
  ·rcases List.mem_append.1 hu with h' | h'
   ·exact hxb u h'
   ·simp at h'; subst h'; exact hb
  ·rcases Nat.lt_or_ge i xs.length with h' | h'
   ·rw [List.getElem?_append_left h'] at hx; exact hxs i x hx
   ·rw [List.getElem?_append_right h'] at hx
    have : i - xs.length = 0 := by
     rcases Nat.eq_zero_or_pos (i - xs.length) with h0 | h0
     ·exact h0
     ·rw [List.getElem?_eq_none uN_] at hx; cases hx
    rw [this] at hx; simp at hx; subst hx; have hi' : i = m := by omega
    subst hi'; exact ⟨g, o, hA, hc⟩) : p := h
theorem wa_ (h : p := by
 intro w1 hw1 hF K hK; go_simp; exact hK _ _ ((za.refl _).al _) ⟨_, rfl, zb.new _ _ _⟩) : p := h
theorem we_ (h : p := by
 obtain ⟨ys, hcell, _⟩ := get 0 uX_; obtain ⟨_, hyl, hat⟩ := World.cells?_some hcell; have h1 := hat 0 hc0; have h2 : ys[0]? = some (ys[0]' uX_) := qQ_ _; rw [h2, Nat.zero_mul] at h1; have e : (a.add 0) = a := rfl; rw [e] at h1; rcases Wc h1 with h3 | h3
 ·exact h3
 ·exact absurd rfl h3) : p := h
theorem wh_ (h : p := by
 have h1 := hel i hi; rw [hc] at h1; have h2 : elems[i]? = some (elems.getD i (.nil, [])) := by simp [hlen, hi]
 rw [h2] at h1; cases hcell : w.cells? base (a.add (i * c)) c with
 | none => rw [hcell] at h1; cases h1
 | some ys => rw [hcell] at h1; exact ⟨ys, rfl, h1⟩) : p := h
theorem wB_ (h : p := by
 have e1 : xT n = ⟨1, 0, es⟩ := by unfold xT; rw [if_neg uX_]
 rw [e1]; clear e1; go_enter Tryz.func72, Tryz.ntmps72
 go_wp2_with ((go_at_call 73; ((with_reducible refine (Xj _).mono ?_); rintro e w' ⟨rfl, hg⟩; obtain ⟨hc, hf, hz⟩ := hg.rules)))
 exact qX_ vq_ rfl ⟨rfl, ze⟩) : p := h
theorem wP_ (h : p := by
 go_enter Tryz.func79, Tryz.ntmps79; go_wp2; exact qX_ vf_ rfl ⟨rfl, ze⟩) : p := h
theorem ya_ (h : p := by
 go_enter Tryz.func121, Tryz.ntmps121; go_wp2; exact qX_ vh_ rfl ⟨rfl, ze⟩) : p := h
theorem yD_ (h : p := by
 exact ⟨0, Nat.zero_le _, Nat.zero_le _, rfl, rfl, za.refl _⟩) : p := h
end Go
namespace Go.Proofs.YtflggnopgnoeiaaGreat
open Go.RowKit Go.Calm
structure V where
 k : Int
 n : Int
 s : ByteArray
@[go_sem] abbrev V.val (v : V) : Value := .agg #[.int .i64 v.k, .int .i64 v.n, .string v.s]
abbrev es : ByteArray := ⟨#[]⟩
def bare (v : V) : V := if v.k = 1 then ⟨1, 0, es⟩ else if v.k = 4 then ⟨4, 0, v.s⟩ else ⟨v.k, v.n, es⟩
theorem Xj (w : World) : Calls Tryz.prog 73 #[] w fun e w' => e = .returned (V.val ⟨1, 0, es⟩) /\ za w w' := by
 go_enter Tryz.func73, Tryz.ntmps73; go_wp2; exact qX_ (by simp [results, Tryz.results73, go_sem]) rfl ⟨rfl, (za.refl _).al _⟩
theorem ZX (v : V) (w : World) : Calls Tryz.prog 115 #[v.val] w fun e w' => e = .returned (bare v).val /\ za w w' := by
 unfold V.val
 by_cases h1 : v.k = 1
 ·have hd1 : (v.k == 1) = true := by simpa using h1
  have e1 : bare v = ⟨1, 0, es⟩ := by simp [bare, h1]
  rw [e1]; clear e1 h1; go_enter Tryz.func115, Tryz.ntmps115
  go_wp2_with (go_at_call 73; refine (Xj _).mono ?_; rintro e w' ⟨rfl, hg⟩; obtain ⟨hc, hf, _⟩ := hg.rules)
  exact qX_ (by simp [results, Tryz.results115, go_sem, hc]) rfl ⟨rfl, (((((za.refl _).al _).al _).trans hg).set uY_ _).set uY_ _ |>.set uY_ _⟩
 ·have hd1 : (v.k == 1) = false := by simpa using h1
  by_cases h4 : v.k = 4
  ·have hd4 : (v.k == 4) = true := by simpa using h4
   have e1 : bare v = ⟨4, 0, v.s⟩ := by simp [bare, h4]
   rw [e1]; clear e1 h1 h4; go_enter Tryz.func115, Tryz.ntmps115; go_wp2; exact qX_ vB_ rfl ⟨rfl, ((za.refl _).al _).al _⟩
  ·have hd4 : (v.k == 4) = false := by simpa using h4
   have e1 : bare v = ⟨v.k, v.n, es⟩ := by simp [bare, h1, h4]
   rw [e1]; clear e1 h1 h4; go_enter Tryz.func115, Tryz.ntmps115; go_wp2; exact qX_ vB_ rfl ⟨rfl, ((za.refl _).al _).al _⟩
def jV (x y : Int) : Int := if x < y then -1 else if y < x then 1 else 0
theorem nan (x : Int) (w : World) : Calls Tryz.prog 129 #[.int .i64 x] w fun e w' => e = .returned (.bool false) /\ w = w' := by
 go_enter Tryz.func129, Tryz.ntmps129; go_wp2; go_ret; exact ⟨by simp, rfl⟩
theorem zcd (x : Int) (w : World) : Calls Tryz.prog 155 #[.int .i64 x] w fun e w' => e = .returned (.bool false) /\ w = w' := by
 go_enter Tryz.func155, Tryz.ntmps155; go_wp2; go_ret; exact ⟨by simp, rfl⟩
theorem Tu (x y : Int) (w : World) : Calls Tryz.prog 70 #[.int .i64 x, .int .i64 y] w fun e w' => e = .returned (.int .i64 (jV x y)) /\ w = w' := by
 unfold jV; go_enter Tryz.func70, Tryz.ntmps70
 go_wp2_with (go_at_call 129; refine (nan _ _).mono ?_; rintro e w' ⟨rfl, rfl⟩)
 all_goals go_ret
 all_goals (refine ⟨?_, rfl⟩; simp [*]; try omega)
theorem UN (x y : Int) (w : World) : Calls Tryz.prog 127 #[.int .i64 x, .int .i64 y] w fun e w' => e = .returned (.int .i64 (jV x y)) /\ w = w' := by
 unfold jV; go_enter Tryz.func127, Tryz.ntmps127
 go_wp2_with (go_at_call 155; refine (zcd _ _).mono ?_; rintro e w' ⟨rfl, rfl⟩)
 all_goals go_ret
 all_goals (refine ⟨?_, rfl⟩; simp [*]; try omega)
def Ec (x y z : Int) : Int := if x ≠ 0 then x else if y ≠ 0 then y else z
theorem Ee (x y z : Int) (g c : Nat) (w : World) (h0 : w.cell? ⟨g, 0, none⟩ = some (.int .i64 x)) (h1 : w.cell? ⟨g, 1, none⟩ = some (.int .i64 y)) (h2 : w.cell? ⟨g, 2, none⟩ = some (.int .i64 z)) :
  Calls Tryz.prog 126 #[.slice (some ⟨g, 0, none⟩) 3 c] w fun e w' => e = .returned (.int .i64 (Ec x y z)) /\ w = w' := by
 unfold Ec
 by_cases hx : x = 0
 ·have dx : (x != 0) = false := by simpa using hx
  rw [if_neg uw_]; clear hx
  by_cases hy : y = 0
  ·have dy : (y != 0) = false := by simpa using hy
   rw [if_neg (by simpa using hy)]; clear hy
   by_cases hz : z = 0
   ·have dz : (z != 0) = false := by simpa using hz
    subst hz; go_enter Tryz.func126, Tryz.ntmps126; go_wp2; refine wp_loop_rounds 4 ?_
    iterate 4 (rw [rounds_succ]; go_wp2)
    go_ret; exact ⟨rfl, rfl⟩
   ·have dz : (z != 0) = true := by simpa using hz
    clear hz; go_enter Tryz.func126, Tryz.ntmps126; go_wp2; refine wp_loop_rounds 3 ?_
    iterate 3 (rw [rounds_succ]; go_wp2)
    go_ret; exact ⟨rfl, rfl⟩
  ·have dy : (y != 0) = true := by simpa using hy
   rw [if_pos (by simpa using hy)]; clear hy; go_enter Tryz.func126, Tryz.ntmps126; go_wp2; refine wp_loop_rounds 3 ?_
   iterate 2 (rw [rounds_succ]; go_wp2)
   go_ret; exact ⟨rfl, rfl⟩
 ·have dx : (x != 0) = true := by simpa using hx
  rw [if_pos uw_]; clear hx; go_enter Tryz.func126, Tryz.ntmps126; go_wp2; refine wp_loop_rounds 3 ?_
  iterate 1 (rw [rounds_succ]; go_wp2)
  go_ret; exact ⟨rfl, rfl⟩
theorem UL (a b : ByteArray) (w : World) : Calls Tryz.prog 156 #[.string a, .string b] w fun e w' => e = .returned (.int .i64 (kL a b)) /\ w = w' := by
 unfold kL; go_enter Tryz.func156, Tryz.ntmps156; go_wp2; rw [run_callFunc_extern Tryz.func186 uQ_ uQ_ uQ_ (e := Extern.BytealgCompare.compare) uQ_, Lib.run_compareString]; simp only [Result.andThen]; rw [Oper.upon_value]; go_wp2; go_ret; exact ⟨rfl, rfl⟩
theorem Gq (a b : ByteArray) (w : World) : Calls Tryz.prog 128 #[.string a, .string b] w fun e w' => e = .returned (.int .i64 (kL a b)) /\ w = w' := by
 go_enter Tryz.func128, Tryz.ntmps128
 go_wp2_with (go_at_call 156; refine (UL _ _ _).mono ?_; rintro e w' ⟨rfl, rfl⟩)
 go_ret; exact ⟨rfl, rfl⟩
def x4 (a b : V) : Int := Ec (jV (bare a).k (bare b).k) (jV (bare a).n (bare b).n) (kL (bare a).s (bare b).s)
theorem jF (a b : V) (w : World) : Calls Tryz.prog 69 #[a.val, b.val] w fun e w' => e = .returned (.int .i64 (x4 a b)) /\ za w w' := by
 unfold V.val; go_enter Tryz.func69, Tryz.ntmps69; go_wp2; refine zc (fun W => zb W w.heap.size 33 #[.int .i64 a.k, .int .i64 a.n, .string a.s] /\ zb W (w.heap.size + 1) 33 #[.int .i64 b.k, .int .i64 b.n, .string b.s] /\ za w W) ⟨(zb.new _ _ _).al _, zb.new' _ _ _ uY_, ((za.refl _).al _).al _⟩ ?_; rintro W ⟨A1, A2, G1⟩; apply wp_region_calm 4 uQ_ uQ_
 case h' =>
  intro Q0 hQ0; simp only [List.take_succ_cons, List.take_zero]
  repeat (
   apply qd
   case h1 =>
    intro w1 hw1 hF K hK; obtain ⟨c1, f1⟩ := (zb.grow A1 hw1).rules; obtain ⟨c2, f2⟩ := (zb.grow A2 hw1).rules; go_simp
    first
     | exact hK _ (za.refl _)
     | (go_at_call 115; (with_reducible refine (ZX _ _).mono ?_); rintro e w' ⟨rfl, hg⟩; exact ⟨_, rfl, hK _ hg⟩)
   intro K hK; go_simp; apply hK
   clear hK K)
  refine calm_nil ?_; intro w1 hw1 hF; clear hF; have B1 := zb.grow A1 hw1; have B2 := zb.grow A2 hw1; obtain ⟨c1, f1⟩ := B1.rules; obtain ⟨c2, f2⟩ := B2.rules; apply hQ0; clear hQ0; simp only [List.drop_succ_cons, List.drop_zero]; go_wp2; clear c1 f1 c2 f2
  refine zc (fun W => zb W w.heap.size 33 #[.int .i64 (bare a).k, .int .i64 (bare a).n, .string (bare a).s] /\ zb W (w.heap.size + 1) 33 #[.int .i64 (bare b).k, .int .i64 (bare b).n, .string (bare b).s] /\ za w W)
   ⟨(((((B1.set 0 _).set 1 _).set 2 _).far uY_ _).far uY_ _).far uY_ _, (((((B2.far uY_ _).far uY_ _).far uY_ _).set 0 _).set 1 _).set 2 _, ((((((G1.trans (hw1)).set uY_ _).set uY_ _).set uY_ _).set uY_ _).set uY_ _).set uY_ _⟩ ?_
  clear G1 A1 A2 B1 B2 hw1 w1 Q0 W; rintro W ⟨A1, A2, G1⟩; apply wp_region_calm 18 uQ_ uQ_
  case h' =>
   intro Q0 hQ0; simp only [List.take_succ_cons, List.take_zero]
   repeat (
    apply qd
    case h1 =>
     intro w1 hw1 hF K hK; obtain ⟨c1, f1⟩ := (zb.grow A1 hw1).rules; obtain ⟨c2, f2⟩ := (zb.grow A2 hw1).rules; go_simp
     first
      | exact hK _ (za.refl _)
      | (go_at_call 70; (with_reducible refine (Tu _ _ _).mono ?_); rintro e w' ⟨rfl, rfl⟩; exact ⟨_, rfl, hK _ (za.refl _)⟩)
      | (go_at_call 127; (with_reducible refine (UN _ _ _).mono ?_); rintro e w' ⟨rfl, rfl⟩; exact ⟨_, rfl, hK _ (za.refl _)⟩)
      | (go_at_call 128; (with_reducible refine (Gq _ _ _).mono ?_); rintro e w' ⟨rfl, rfl⟩; exact ⟨_, rfl, hK _ (za.refl _)⟩)
    intro K hK; go_simp; apply hK
    clear hK K)
   apply j5 (D := fun v w => ∃ g, v = .slice (some ⟨g, 0, none⟩) 3 3 /\ zb w g 3 #[.int .i64 (jV (bare a).k (bare b).k), .int .i64 (jV (bare a).n (bare b).n), .int .i64 (kL (bare a).s (bare b).s)])
   case h1 => exact wa_
   intro v K hK; go_simp; apply hK; clear hK K; apply qd
   case h1 =>
    intro w1 hw1 hF K hK; obtain ⟨g, rfl, hg⟩ := hF _ (List.mem_cons_self ..) ⟨_, rfl, by simp [Oper.looksAt, Op.operands, Call.operands]⟩; go_simp
    go_at_call 126
    (with_reducible refine (Ee _ _ _ _ _ _ (hg.cells rfl) (hg.cells rfl) (hg.cells rfl)).mono ?_)
    rintro e w' ⟨rfl, rfl⟩; exact ⟨_, rfl, hK _ (za.refl _)⟩
   intro K hK; go_simp; apply hK; clear hK K; apply qd
   case h1 =>
    intro w1 hw1 hF K hK; go_simp; exact hK _ (za.refl _)
   intro K hK; go_simp; apply hK; clear hK K; refine calm_nil ?_; intro w1 hw1 hF; clear hF; apply hQ0; clear hQ0; simp only [List.drop_succ_cons, List.drop_zero]; go_wp2; go_ret; exact ⟨rfl, G1.trans hw1⟩
  case hp' => exact ⟨fun v w w' hg ⟨g, e, hb⟩ => ⟨g, e, hb.grow hg⟩, trivial⟩
 case hp' => trivial
def qj (b : Bool) : V := ⟨2, if b then 1 else 0, es⟩
theorem Z8 (b : Bool) (w : World) : Calls Tryz.prog 121 #[.bool b] w fun e w' => e = .returned (qj b).val /\ za w w' := by
 cases b
 ·exact ya_
 ·exact ya_
def xT (n : Int) : V := if -1000000000000000 <= n /\ n <= 1000000000000000 then ⟨3, n, es⟩ else ⟨1, 0, es⟩
theorem XI (n : Int) (w : World) : Calls Tryz.prog 72 #[.int .i64 n] w fun e w' => e = .returned (xT n).val /\ za w w' := by
 by_cases h1 : 1000000000000000 < n
 ·exact wB_
 ·by_cases h2 : n < -1000000000000000
  ·exact wB_
  ·have e1 : xT n = ⟨3, n, es⟩ := by unfold xT; rw [if_pos uX_]
   rw [e1]; clear e1; go_enter Tryz.func72, Tryz.ntmps72; go_wp2; exact qX_ (by simp [results, Tryz.results72, go_sem]) rfl ⟨rfl, ze⟩
def yB (v : V) : Int := if v.k = 2 then 2 * v.n else 1
def RB (v : V) : Prop := v.k = 2 -> 0 <= v.n /\ v.n <= 1
theorem Xo (v : V) (h : RB v) (w : World) : Calls Tryz.prog 151 #[v.val] w fun e w' => e = .returned (.int .i64 (yB v)) /\ za w w' := by
 unfold V.val
 by_cases h1 : v.k = 2
 ·have hd1 : (v.k != 2) = false := by simpa using h1
  have e1 : yB v = 2 * v.n := by simp [yB, h1]
  obtain ⟨h0, h2⟩ := h h1; rw [e1]; clear e1 h1; go_enter Tryz.func151, Tryz.ntmps151; go_wp2; go_ret; exact ⟨rfl, (za.refl _).al _⟩
 ·have hd1 : (v.k != 2) = true := by simpa using h1
  have e1 : yB v = 1 := by simp [yB, h1]
  rw [e1]; clear e1 h1; go_enter Tryz.func151, Tryz.ntmps151; go_wp2; go_ret; exact ⟨rfl, (za.refl _).al _⟩
def xz (n : Int) : V := if n = 1 then ⟨1, 0, es⟩ else qj (n == 2)
theorem ZE (n : Int) (w : World) : Calls Tryz.prog 150 #[.int .i64 n] w fun e w' => e = .returned (xz n).val /\ za w w' := by
 by_cases h1 : n = 1
 ·have hd1 : (n == 1) = true := by simpa using h1
  have e1 : xz n = ⟨1, 0, es⟩ := by simp [xz, h1]
  rw [e1]; clear e1 h1; go_enter Tryz.func150, Tryz.ntmps150
  go_wp2_with ((go_at_call 73; ((with_reducible refine (Xj _).mono ?_); rintro e w' ⟨rfl, hg⟩; obtain ⟨hc, hf, hz⟩ := hg.rules)))
  exact qX_ vi_ rfl ⟨rfl, ze⟩
 ·have hd1 : (n == 1) = false := by simpa using h1
  have e1 : xz n = qj (n == 2) := by simp [xz, h1]
  rw [e1]; clear e1 h1; go_enter Tryz.func150, Tryz.ntmps150
  go_wp2_with ((go_at_call 121; ((with_reducible refine (Z8 _ _).mono ?_); rintro e w' ⟨rfl, hg⟩; obtain ⟨hc, hf, hz⟩ := hg.rules)))
  exact qX_ vi_ rfl ⟨rfl, ze⟩
def kt (a b : V) : Bool := decide (a.k = b.k /\ a.k ≠ 1)
theorem YH (a b : V) (w : World) : Calls Tryz.prog 184 #[a.val, b.val] w fun e w' => e = .returned (.bool (kt a b)) /\ za w w' := by
 unfold V.val
 by_cases h1 : a.k = b.k
 ·have hd1 : (a.k == b.k) = true := by simpa using h1
  by_cases h2 : b.k = 1
  ·have hd2 : (b.k != 1) = false := by simpa using h2
   have hd3 : (a.k != 1) = false := by simpa [h1] using h2
   have e1 : kt a b = false := by simp [kt, h1, h2]
   rw [e1]; clear e1 h1 h2; go_enter Tryz.func184, Tryz.ntmps184; go_wp2; go_ret; exact ⟨rfl, ze⟩
  ·have hd2 : (b.k != 1) = true := by simpa using h2
   have hd3 : (a.k != 1) = true := by simpa [h1] using h2
   have e1 : kt a b = true := by simp [kt, h1, h2]
   rw [e1]; clear e1 h1 h2; go_enter Tryz.func184, Tryz.ntmps184; go_wp2; go_ret; exact ⟨rfl, ze⟩
 ·have hd1 : (a.k == b.k) = false := by simpa using h1
  have e1 : kt a b = false := by simp [kt, h1]
  rw [e1]; clear e1 h1; go_enter Tryz.func184, Tryz.ntmps184; go_wp2; go_ret; exact ⟨rfl, ze⟩
theorem QD (v : V) (h : RB v) (w : World) : Calls Tryz.prog 122 #[v.val] w fun e w' => e = .returned (.bool (yB v == 2)) /\ za w w' := by
 unfold V.val; go_enter Tryz.func122, Tryz.ntmps122
 go_wp2_with ((go_at_call 151; ((with_reducible refine (Xo v h _).mono ?_); rintro e w' ⟨rfl, hg⟩; obtain ⟨hc, hf, hz⟩ := hg.rules)))
 go_ret; exact ⟨rfl, ((za.refl _).al _).trans hg⟩
theorem Qt (v : V) (h : RB v) : 0 <= yB v /\ yB v <= 2 := by
 unfold yB; split
 ·rename_i hk; have := h hk; omega
 ·omega
theorem Hg (v : V) (h : RB v) (w : World) : Calls Tryz.prog 116 #[v.val] w fun e w' => e = .returned (xz (2 - yB v)).val /\ za w w' := by
 obtain ⟨hr1, hr2⟩ := Qt v h; unfold V.val; go_enter Tryz.func116, Tryz.ntmps116
 go_wp2_with (first | (go_at_call 151; ((with_reducible refine (Xo v h _).mono ?_); rintro e w' ⟨rfl, hg⟩; obtain ⟨hc, hf, hz⟩ := hg.rules)) | (go_at_call 150; ((with_reducible refine (ZE _ _).mono ?_); rintro e w2' ⟨rfl, hg2⟩; replace hg := hg.trans hg2; clear hg2 hc hf hz; obtain ⟨hc, hf, hz⟩ := hg.rules)))
 exact qX_ (by simp [results, Tryz.results116, go_sem, hc]) rfl ⟨rfl, ze⟩
def zcb (x y : Int) : Int := if y < x then y else x
def zca (x y : Int) : Int := if x < y then y else x
def X7 (a b : V) : V := xz (zcb (yB a) (yB b))
def N2 (a b : V) : V := xz (zca (yB a) (yB b))
def kN (a : V) : V := xz (2 - yB a)
theorem Gh (a b : V) (ha : RB a) (hb : RB b) (w : World) : Calls Tryz.prog 117 #[a.val, b.val] w fun e w' => e = .returned (X7 a b).val /\ za w w' := by
 obtain ⟨ra1, ra2⟩ := Qt a ha; obtain ⟨rb1, rb2⟩ := Qt b hb; unfold V.val; have em : (if yB b < yB a then yB b else yB a) = zcb (yB a) (yB b) := rfl; go_enter Tryz.func117, Tryz.ntmps117; go_wp2
 refine zc (fun W => zb W w.heap.size 33 #[.int .i64 a.k, .int .i64 a.n, .string a.s] /\ zb W (w.heap.size + 1) 33 #[.int .i64 b.k, .int .i64 b.n, .string b.s] /\ zb W (w.heap.size + 2) 33 #[.int .i64 0, .int .i64 0, .string es] /\ za w W)
  ⟨((zb.new _ _ _).al _).al _, (zb.new' _ _ _ uY_).al _, zb.new' _ _ _ uY_, (((za.refl _).al _).al _).al _⟩ ?_
 rintro W ⟨A1, A2, A3, G1⟩; apply wp_region_calm 6 uQ_ uQ_
 case h' =>
  intro Q0 hQ0; simp only [List.take_succ_cons, List.take_zero]
  repeat ((first | ((first | apply calm_p rfl | apply zu rfl rfl rfl); case h1 => (intro w1 hw1 hF K hK; obtain ⟨c1, f1⟩ := (zb.grow A1 hw1).rules; obtain ⟨c2, f2⟩ := (zb.grow A2 hw1).rules; go_simp; first | exact hK _ (za.refl _) | (go_at_call 151; ((with_reducible refine (Xo a ha _).mono ?_); rintro e w' ⟨rfl, hg⟩; exact ⟨_, rfl, hK _ hg⟩)) | (go_at_call 151; ((with_reducible refine (Xo b hb _).mono ?_); rintro e w' ⟨rfl, hg⟩; exact ⟨_, rfl, hK _ hg⟩)) | (go_at_call 150; ((with_reducible refine (ZE _ _).mono ?_); rintro e w' ⟨rfl, hg⟩; exact ⟨_, rfl, hK _ hg⟩)))) | apply zw rfl rfl rfl rfl); intro K hK; go_simp; apply hK; clear hK K)
  refine calm_nil ?_; intro w1 hw1 hF; apply hQ0; clear hQ0; simp only [List.drop_succ_cons, List.drop_zero]; clear hF; obtain ⟨c3, f3⟩ := (zb.grow A3 hw1).rules; go_wp2; exact qX_ (by simp [results, Tryz.results117, go_sem, c3, X7]) rfl ⟨rfl, ze⟩
 case hp' => trivial
theorem zby (a b : V) (ha : RB a) (hb : RB b) (w : World) : Calls Tryz.prog 118 #[a.val, b.val] w fun e w' => e = .returned (N2 a b).val /\ za w w' := by
 obtain ⟨ra1, ra2⟩ := Qt a ha; obtain ⟨rb1, rb2⟩ := Qt b hb; unfold V.val; have em : (if yB a < yB b then yB b else yB a) = zca (yB a) (yB b) := rfl; go_enter Tryz.func118, Tryz.ntmps118; go_wp2
 refine zc (fun W => zb W w.heap.size 33 #[.int .i64 a.k, .int .i64 a.n, .string a.s] /\ zb W (w.heap.size + 1) 33 #[.int .i64 b.k, .int .i64 b.n, .string b.s] /\ zb W (w.heap.size + 2) 33 #[.int .i64 0, .int .i64 0, .string es] /\ za w W)
  ⟨((zb.new _ _ _).al _).al _, (zb.new' _ _ _ uY_).al _, zb.new' _ _ _ uY_, (((za.refl _).al _).al _).al _⟩ ?_
 rintro W ⟨A1, A2, A3, G1⟩; apply wp_region_calm 6 uQ_ uQ_
 case h' =>
  intro Q0 hQ0; simp only [List.take_succ_cons, List.take_zero]
  repeat ((first | ((first | apply calm_p rfl | apply zu rfl rfl rfl); case h1 => (intro w1 hw1 hF K hK; obtain ⟨c1, f1⟩ := (zb.grow A1 hw1).rules; obtain ⟨c2, f2⟩ := (zb.grow A2 hw1).rules; go_simp; first | exact hK _ (za.refl _) | (go_at_call 151; ((with_reducible refine (Xo a ha _).mono ?_); rintro e w' ⟨rfl, hg⟩; exact ⟨_, rfl, hK _ hg⟩)) | (go_at_call 151; ((with_reducible refine (Xo b hb _).mono ?_); rintro e w' ⟨rfl, hg⟩; exact ⟨_, rfl, hK _ hg⟩)) | (go_at_call 150; ((with_reducible refine (ZE _ _).mono ?_); rintro e w' ⟨rfl, hg⟩; exact ⟨_, rfl, hK _ hg⟩)))) | apply zw rfl rfl rfl rfl); intro K hK; go_simp; apply hK; clear hK K)
  refine calm_nil ?_; intro w1 hw1 hF; apply hQ0; clear hQ0; simp only [List.drop_succ_cons, List.drop_zero]; clear hF; obtain ⟨c3, f3⟩ := (zb.grow A3 hw1).rules; go_wp2; exact qX_ (by simp [results, Tryz.results118, go_sem, c3, N2]) rfl ⟨rfl, ze⟩
 case hp' => trivial
end Go.Proofs.YtflggnopgnoeiaaGreat
namespace Go.Proofs.YtflggnopgnoeiaaGreat
open Go.RowKit Go.Calm
theorem zk {k : IntKind} {a b : Int} {P : Prop} (h : a = b) (p : P) : Ending.returned (.int k a) = .returned (.int k b) /\ P := ⟨by rw [h], p⟩
theorem xn {a b : Bool} {P : Prop} (h : a = b) (p : P) : Ending.returned (.bool a) = .returned (.bool b) /\ P := ⟨by rw [h], p⟩
def zY (v : V) : Int :=
 if v.k = 1 then 0
 else if v.k = 2 then (if v.n = 0 \/ v.n = 1 then 0 else 3)
 else if v.k = 3 then (if -1000000000000000 <= v.n /\ v.n <= 1000000000000000 then 0 else 3)
 else if v.k = 4 then (if v.s.size <= 60 then 0 else 4)
 else 1
theorem jB (v : V) (w : World) : Calls Tryz.prog 113 #[v.val] w fun e w' => e = .returned (.int .i64 (zY v)) /\ za w w' := by
 unfold V.val; go_enter Tryz.func113, Tryz.ntmps113; go_wp2
 all_goals
  go_ret; refine zk ?_ ze
  (try simp only [beq_iff_eq, beq_eq_false_iff_ne, bne_iff_ne, ne_eq, bne_eq_false_iff_eq, Bool.not_eq_true', Bool.not_eq_false', decide_eq_true_eq, decide_eq_false_iff_not] at *)
  unfold zY
  repeat' split
  all_goals first | rfl | omega
theorem qi (v : V) (w : World) : Calls Tryz.prog 109 #[v.val] w fun e w' => e = .returned (.int .i64 (zY v)) /\ za w w' := by
 unfold V.val; go_enter Tryz.func109, Tryz.ntmps109; go_wp2
 all_goals
  go_ret; refine zk ?_ ze; unfold zY
  repeat' split
  all_goals first | rfl | omega
structure RV (v : V) : Prop where
 kind : v.k = 1 \/ v.k = 2 \/ v.k = 3 \/ v.k = 4
 bool : v.k = 2 -> v.n = 0 \/ v.n = 1
 int : v.k = 3 -> -1000000000000000 <= v.n /\ v.n <= 1000000000000000
 text : v.k = 4 -> v.s.size <= 60
theorem RV.of (v : V) : zY v = 0 ↔ RV v := by
 constructor
 ·intro h; unfold zY at h
  constructor
  ·split at h
   ·omega
   ·split at h
    ·omega
    ·split at h
     ·omega
     ·split at h
      ·omega
      ·omega
  ·intro hk; simp only [hk] at h; simp at h; omega
  ·intro hk; simp only [hk] at h; simp at h; omega
  ·intro hk; simp only [hk] at h; simp at h; exact h
 ·rintro ⟨h1, h2, h3, h4⟩; unfold zY
  repeat' split
  all_goals first | rfl | omega
theorem RV.rb {v : V} (h : RV v) : RB v := fun hk => by have := h.bool hk; omega
def GI (v : V) (b : Bool) : Bool := decide (v.k = 2) && (decide (v.n = 1) == b)
def zO (a b : V) : Int :=
 if a.k < b.k then -1 else if b.k < a.k then 1 else if a.k = 1 then 0
 else if a.k = 4 then kL a.s b.s
 else (if a.n < b.n then -1 else if b.n < a.n then 1 else 0)
theorem VA (a b : V) (w : World) : Calls Tryz.prog 63 #[a.val, b.val] w fun e w' => e = .returned (.int .i64 (zO a b)) /\ za w w' := by
 unfold V.val; have hl := UI a.s b.s; have he := Pn a.s b.s; have hr := Jr a.s b.s; go_enter Tryz.func63, Tryz.ntmps63; go_wp2
 all_goals
  go_ret; refine zk ?_ ze
  (try simp only [beq_iff_eq, beq_eq_false_iff_ne, bne_iff_ne, ne_eq, bne_eq_false_iff_eq, Bool.not_eq_true', Bool.not_eq_false', decide_eq_true_eq, decide_eq_false_iff_not] at *)
  unfold zO
  repeat' split
  all_goals first | rfl | omega
theorem VT (v : V) (hv : RV v) (w : World) : Calls Tryz.prog 79 #[v.val] w fun e w' => e = .returned (bare v).val /\ za w w' := by
 obtain ⟨k, n, s⟩ := v; have hk := hv.kind; unfold V.val; simp only at hk ⊢; rcases hk with rfl | rfl | rfl | rfl
 ·exact wP_
 ·exact wP_
 ·exact wP_
 ·exact wP_
def Nb (a b : V) : V := if kt a b then qj (x4 a b == 0) else ⟨1, 0, es⟩
def qH (a b : V) : V := if kt a b then qj (decide (x4 a b < 0)) else ⟨1, 0, es⟩
theorem De (a b : V) (w : World) : Calls Tryz.prog 152 #[a.val, b.val] w fun e w' => e = .returned (Nb a b).val /\ za w w' := by
 cases hal : kt a b
 ·have e : Nb a b = ⟨1, 0, es⟩ := by simp [Nb, hal]
  rw [e]; clear e; unfold V.val; go_enter Tryz.func152, Tryz.ntmps152
  go_wp2_with (first | (go_at_call 184; ((with_reducible refine (YH a b _).mono ?_); rintro e w' ⟨rfl, hg⟩; obtain ⟨hc, hf, hz⟩ := hg.rules)) | (go_at_call 73; ((with_reducible refine (Xj _).mono ?_); rintro e w2' ⟨rfl, hg2⟩; replace hg := hg.trans hg2; clear hg2 hc hf hz; obtain ⟨hc, hf, hz⟩ := hg.rules)))
  exact qX_ vj_ rfl ⟨rfl, ze⟩
 ·have e : Nb a b = qj (x4 a b == 0) := by simp [Nb, hal]
  rw [e]; clear e; unfold V.val; go_enter Tryz.func152, Tryz.ntmps152
  go_wp2_with (first | (go_at_call 184; ((with_reducible refine (YH a b _).mono ?_); rintro e w' ⟨rfl, hg⟩; obtain ⟨hc, hf, hz⟩ := hg.rules)) | (go_at_call 69; ((with_reducible refine (jF a b _).mono ?_); rintro e w2' ⟨rfl, hg2⟩; replace hg := hg.trans hg2; clear hg2 hc hf hz; obtain ⟨hc, hf, hz⟩ := hg.rules)) | (go_at_call 121; ((with_reducible refine (Z8 _ _).mono ?_); rintro e w2' ⟨rfl, hg2⟩; replace hg := hg.trans hg2; clear hg2 hc hf hz; obtain ⟨hc, hf, hz⟩ := hg.rules)))
  exact qX_ vj_ rfl ⟨rfl, ze⟩
theorem Ql (a b : V) (w : World) : Calls Tryz.prog 153 #[a.val, b.val] w fun e w' => e = .returned (qH a b).val /\ za w w' := by
 cases hal : kt a b
 ·have e : qH a b = ⟨1, 0, es⟩ := by simp [qH, hal]
  rw [e]; clear e; unfold V.val; go_enter Tryz.func153, Tryz.ntmps153
  go_wp2_with (first | (go_at_call 184; ((with_reducible refine (YH a b _).mono ?_); rintro e w' ⟨rfl, hg⟩; obtain ⟨hc, hf, hz⟩ := hg.rules)) | (go_at_call 73; ((with_reducible refine (Xj _).mono ?_); rintro e w2' ⟨rfl, hg2⟩; replace hg := hg.trans hg2; clear hg2 hc hf hz; obtain ⟨hc, hf, hz⟩ := hg.rules)))
  exact qX_ vk_ rfl ⟨rfl, ze⟩
 ·have e : qH a b = qj (decide (x4 a b < 0)) := by simp [qH, hal]
  rw [e]; clear e; unfold V.val; go_enter Tryz.func153, Tryz.ntmps153
  go_wp2_with (first | (go_at_call 184; ((with_reducible refine (YH a b _).mono ?_); rintro e w' ⟨rfl, hg⟩; obtain ⟨hc, hf, hz⟩ := hg.rules)) | (go_at_call 69; ((with_reducible refine (jF a b _).mono ?_); rintro e w2' ⟨rfl, hg2⟩; replace hg := hg.trans hg2; clear hg2 hc hf hz; obtain ⟨hc, hf, hz⟩ := hg.rules)) | (go_at_call 121; ((with_reducible refine (Z8 _ _).mono ?_); rintro e w2' ⟨rfl, hg2⟩; replace hg := hg.trans hg2; clear hg2 hc hf hz; obtain ⟨hc, hf, hz⟩ := hg.rules)))
  exact qX_ vk_ rfl ⟨rfl, ze⟩
def Yc (w : World) (g o : Nat) (v : V) : Prop := w.cell? ⟨g, o, none⟩ = some (.int .i64 v.k) /\ w.cell? ⟨g, o + 1, none⟩ = some (.int .i64 v.n) /\ w.cell? ⟨g, o + 2, none⟩ = some (.string v.s)
def xi (w : World) (A : Option Addr) (xs : List V) : Prop := ∀ i x, xs[i]? = some x -> ∃ g o, A = some ⟨g, o, none⟩ /\ Yc w g (o + i * 3) x
theorem Yc.grow {w w' : World} {g o : Nat} {v : V} (h : Yc w g o v) (hg : za w w') : Yc w' g o v := ⟨hg.cell h.1, hg.cell h.2.1, hg.cell h.2.2⟩
theorem xi.grow {w w' : World} {A : Option Addr} {xs : List V} (h : xi w A xs) (hg : za w w') : xi w' A xs := fun i x hx => by
 obtain ⟨g, o, hA, hc⟩ := h i x hx; exact ⟨g, o, hA, hc.grow hg⟩
def zv (f : V -> V -> Int) : List V -> List V -> Int
 | [], [] => 0
 | [], _ :: _ => -1
 | _ :: _, [] => 1
 | a :: l, b :: m => if f a b = 0 then zv f l m else f a b
theorem XP (f : V -> V -> Int) (xs ys : List V) (k : Nat) (x y : V) (hx : xs[k]? = some x) (hy : ys[k]? = some y) :
  zv f (xs.drop k) (ys.drop k) = if f x y = 0 then zv f (xs.drop (k + 1)) (ys.drop (k + 1)) else f x y := by
 obtain ⟨h1, e1⟩ := qQ9.1 hx; obtain ⟨h2, e2⟩ := qQ9.1 hy; rw [List.drop_eq_getElem_cons h1, List.drop_eq_getElem_cons h2, e1, e2]; rfl
theorem Kj (f : V -> V -> Int) (xs ys : List V) (k : Nat) (hx : k < xs.length) (hy : ys.length = k) : zv f (xs.drop k) (ys.drop k) = 1 := by
 rw [List.drop_eq_getElem_cons hx, List.drop_eq_nil_of_le (by omega : ys.length <= k)]; rfl
theorem Mx (f : V -> V -> Int) (xs ys : List V) (k : Nat) (hx : xs.length = k) (hy : k <= ys.length) : zv f (xs.drop k) (ys.drop k) = jV (xs.length : Int) (ys.length : Int) := by
 rw [List.drop_eq_nil_of_le (by omega : xs.length <= k)]; unfold jV
 by_cases h : k < ys.length
 ·rw [List.drop_eq_getElem_cons h, if_pos uX_]; rfl
 ·rw [List.drop_eq_nil_of_le (by omega : ys.length <= k), if_neg uX_, if_neg uX_]; rfl
theorem qY (xs ys : List V) (A B : Option Addr) (c d : Nat) (w : World) (hlx : xs.length <= 9223372036854775807) (hly : ys.length <= 9223372036854775807) (hx : xi w A xs) (hy : xi w B ys) :
  Calls Tryz.prog 27 #[.slice A xs.length c, .slice B ys.length d] w fun e w' => e = .returned (.int .i64 (zv x4 xs ys)) /\ za w w' := by
 have Hx := hh_ hx; have Hy := hh_ hy; clear hx hy; go_enter Tryz.func27, Tryz.ntmps27; go_wp2
 go_loopw [10] (fun i wr => ∃ k : Nat, k <= xs.length /\ k <= ys.length /\ i = .int .i64 k /\ zv x4 xs ys = zv x4 (xs.drop k) (ys.drop k) /\ za w wr) (fun i _ => xs.length - (intOf i).toNat)
 case atStart => exact yD_
 case round =>
  obtain ⟨k, hk, hk', rfl, heq, hg⟩ := hrel; have Heq := hh_ heq; clear heq
  by_cases hlt : k < xs.length
  ·obtain ⟨x, hxk⟩ : ∃ x, xs[k]? = some x := ⟨_, qQ_ hlt⟩
   obtain ⟨g, o, rfl, hc1, hc2, hc3⟩ := Hx.out k x hxk; have c1 := hg.cell hc1; have c2 := hg.cell hc2; have c3 := hg.cell hc3; have Hxk := hh_ hxk; clear hc1 hc2 hc3 hxk
   by_cases hlt2 : k < ys.length
   ·have hne : ((k : Int) == (ys.length : Int)) = false := by rw [beq_eq_false_iff_ne]; omega
    obtain ⟨y, hyk⟩ : ∃ y, ys[k]? = some y := ⟨_, qQ_ hlt2⟩
    obtain ⟨g2, o2, rfl, hd1, hd2, hd3⟩ := Hy.out k y hyk; have Hyk := hh_ hyk; clear hyk; go_wp2; refine zc (fun W => zb W wr.heap.size 33 #[.int .i64 x.k, .int .i64 x.n, .string x.s] /\ za w W) ⟨zb.new _ _ _, hg.al _⟩ ?_; rintro W ⟨A1, G1⟩; have b0 : (0 : Int) <= (k : Int) := by omega
    have b1 : (k : Int) < (ys.length : Int) := by omega
    have Hd : Hid (Yc w g2 (o2 + k * 3) y) := hh_ ⟨hd1, hd2, hd3⟩; clear c1 c2 c3 hd1 hd2 hd3; apply wp_region_calm 7 uQ_ uQ_
    case h' =>
     intro Q0 hQ0; simp only [List.take_succ_cons, List.take_zero]
     repeat ((first | ((first | apply calm_p rfl | apply zu rfl rfl rfl); case h1 => (intro w1 hw1 hF K hK; obtain ⟨a1, f1⟩ := (zb.grow A1 hw1).rules; obtain ⟨d1, d2, d3⟩ := Hd.out.grow (G1.trans hw1); go_simp; first | exact hK _ (za.refl _) | (go_at_call 69; ((with_reducible refine (jF x y _).mono ?_); rintro e w' ⟨rfl, hg⟩; exact ⟨_, rfl, hK _ hg⟩)))) | apply zw rfl rfl rfl rfl); intro K hK; go_simp; apply hK; clear hK K)
     refine calm_nil ?_; intro w1 hw1 hF; apply hQ0; clear hQ0; simp only [List.drop_succ_cons, List.drop_zero]; clear hF; have G2 := G1.trans hw1
     by_cases h0 : x4 x y = 0
     ·have d0 : (x4 x y != 0) = false := by simpa using h0
      have H0 := hh_ h0; clear h0; go_wp2; go_roundw
      case rel => exact ⟨k + 1, by omega, by omega, by go_num, by rw [Heq.out, XP x4 xs ys k x y Hxk.out Hyk.out, if_pos H0.out], G2⟩
      case measure => exact u1_
     ·have d0 : (x4 x y != 0) = true := by simpa using h0
      have H0 := hh_ h0; clear h0; go_wp2; go_ret; exact zk (by rw [Heq.out, XP x4 xs ys k x y Hxk.out Hyk.out, if_neg H0.out]) G2
    case hp' => trivial
   ·have hne : ((k : Int) == (ys.length : Int)) = true := by rw [beq_iff_eq]; omega
    go_wp2; go_ret; exact zk (by rw [Heq.out, Kj x4 xs ys k hlt uX_]) (hg.al _)
  ·have Fin := hh_ (Mx x4 xs ys k uX_ hk')
   go_wp2_with ((go_at_call 70; ((with_reducible refine (Tu _ _ _).mono ?_); rintro e w' ⟨rfl, rfl⟩)))
   go_ret; exact zk (by rw [Heq.out, Fin.out]) hg
theorem Q7 (xs ys : List V) (A B : Option Addr) (c d : Nat) (w : World) (hlx : xs.length <= 9223372036854775807) (hly : ys.length <= 9223372036854775807) (hx : xi w A xs) (hy : xi w B ys) :
  Calls Tryz.prog 20 #[.slice A xs.length c, .slice B ys.length d] w fun e w' => e = .returned (.int .i64 (zv zO xs ys)) /\ za w w' := by
 have Hx := hh_ hx; have Hy := hh_ hy; clear hx hy; go_enter Tryz.func20, Tryz.ntmps20; go_wp2
 go_loopw [5] (fun i wr => ∃ k : Nat, k <= xs.length /\ k <= ys.length /\ i = .int .i64 k /\ zv zO xs ys = zv zO (xs.drop k) (ys.drop k) /\ za w wr) (fun i _ => xs.length - (intOf i).toNat)
 case atStart => exact yD_
 case round =>
  obtain ⟨k, hk, hk', rfl, heq, hg⟩ := hrel; have Heq := hh_ heq; clear heq
  by_cases hlt : k < xs.length
  ·have hne1 : ((k : Int) == (xs.length : Int)) = false := by rw [beq_eq_false_iff_ne]; omega
   obtain ⟨x, hxk⟩ : ∃ x, xs[k]? = some x := ⟨_, qQ_ hlt⟩
   obtain ⟨g, o, rfl, hc1, hc2, hc3⟩ := Hx.out k x hxk; have Hxk := hh_ hxk; clear hxk
   by_cases hlt2 : k < ys.length
   ·have hne : ((k : Int) == (ys.length : Int)) = false := by rw [beq_eq_false_iff_ne]; omega
    obtain ⟨y, hyk⟩ : ∃ y, ys[k]? = some y := ⟨_, qQ_ hlt2⟩
    obtain ⟨g2, o2, rfl, hd1, hd2, hd3⟩ := Hy.out k y hyk; have Hyk := hh_ hyk; clear hyk; have Hc : Hid (Yc w g (o + k * 3) x) := hh_ ⟨hc1, hc2, hc3⟩; have Hd : Hid (Yc w g2 (o2 + k * 3) y) := hh_ ⟨hd1, hd2, hd3⟩; clear hc1 hc2 hc3 hd1 hd2 hd3; go_wp2; have b0 : (0 : Int) <= (k : Int) := by omega
    have b1 : (k : Int) < (ys.length : Int) := by omega
    have b2 : (k : Int) < (xs.length : Int) := by omega
    apply wp_region_calm 10 uQ_ uQ_
    case h' =>
     intro Q0 hQ0; simp only [List.take_succ_cons, List.take_zero]
     repeat ((first | ((first | apply calm_p rfl | apply zu rfl rfl rfl); case h1 => (intro w1 hw1 hF K hK; obtain ⟨c1, c2, c3⟩ := Hc.out.grow (hg.trans hw1); obtain ⟨d1, d2, d3⟩ := Hd.out.grow (hg.trans hw1); go_simp; first | exact hK _ (za.refl _) | (go_at_call 63; ((with_reducible refine (VA x y _).mono ?_); rintro e w' ⟨rfl, hg⟩; exact ⟨_, rfl, hK _ hg⟩)))) | apply zw rfl rfl rfl rfl); intro K hK; go_simp; apply hK; clear hK K)
     refine calm_nil ?_; intro w1 hw1 hF; apply hQ0; clear hQ0; simp only [List.drop_succ_cons, List.drop_zero]; clear hF; have G2 := hg.trans hw1
     by_cases h0 : zO x y = 0
     ·have d0 : (zO x y != 0) = false := by simpa using h0
      have H0 := hh_ h0; clear h0; go_wp2; go_roundw
      case rel => exact ⟨k + 1, by omega, by omega, by go_num, by rw [Heq.out, XP zO xs ys k x y Hxk.out Hyk.out, if_pos H0.out], G2⟩
      case measure => exact u1_
     ·have d0 : (zO x y != 0) = true := by simpa using h0
      have H0 := hh_ h0; clear h0; go_wp2; go_ret; exact zk (by rw [Heq.out, XP zO xs ys k x y Hxk.out Hyk.out, if_neg H0.out]) G2
    case hp' => trivial
   ·have hne : ((k : Int) == (ys.length : Int)) = true := by rw [beq_iff_eq]; omega
    go_wp2; go_ret; exact zk (by rw [Heq.out, Kj zO xs ys k hlt uX_]) hg
  ·have Fin := hh_ (Mx zO xs ys k uX_ hk'); have hne1 : ((k : Int) == (xs.length : Int)) = true := by rw [beq_iff_eq]; omega
   by_cases hlt2 : k < ys.length
   ·have hne : ((k : Int) == (ys.length : Int)) = false := by rw [beq_eq_false_iff_ne]; omega
    go_wp2; go_ret; exact zk (by rw [Heq.out, Fin.out]; unfold jV; rw [if_pos uX_]) hg
   ·have hne : ((k : Int) == (ys.length : Int)) = true := by rw [beq_iff_eq]; omega
    go_wp2; go_ret; exact zk (by rw [Heq.out, Fin.out]; unfold jV; rw [if_neg uX_, if_neg uX_]) hg
theorem Zl (v : V) : (bare v).k = v.k := by
 unfold bare; split
 ·simp_all
 ·split <;> simp_all
theorem M6 (a b : V) (ha : RV a) (hb : RV b) : x4 a b = zO a b := by
 unfold x4 zO Ec
 by_cases h1 : a.k < b.k
 ·have := Zl a; have hb' := Zl b; simp [this, hb', jV, h1]
 ·by_cases h2 : b.k < a.k
  ·have := Zl a; have hb' := Zl b; simp [this, hb', jV, h1, h2]
  ·have hk : a.k = b.k := by omega
   have hak := ha.kind
   by_cases h3 : b.k = 1
   ·simp [bare, hk, h3, jV, Lt]
   ·by_cases h4 : b.k = 4
    ·simp [bare, hk, h4, jV]
    ·simp [bare, hk, h3, h4, jV, Lt]; intro h; exact h.symm
theorem yq (a b : V) : zO b a = - zO a b := by
 unfold zO; rcases Int.lt_trichotomy a.k b.k with h | h | h
 ·rw [if_neg uX_, if_pos h, if_pos h]; rfl
 ·rw [h]; simp only [Int.lt_irrefl, if_false]
  by_cases h1 : b.k = 1
  ·simp [h1]
  ·by_cases h4 : b.k = 4
   ·simp [h4, UJ a.s b.s]
   ·simp only [h1, h4, if_false]
    repeat' split
    all_goals omega
 ·rw [if_pos h, if_neg uX_, if_pos h]
theorem kD (a b : V) : zO a b = -1 \/ zO a b = 0 \/ zO a b = 1 := by
 unfold zO; have := Jr a.s b.s
 repeat' split
 all_goals omega
theorem NB {a b : V} (h : a.k < b.k) : zO a b = -1 := by unfold zO; rw [if_pos h]
theorem NA {a b : V} (h : b.k < a.k) : zO a b = 1 := by unfold zO; rw [if_neg uX_, if_pos h]
theorem QX {a b : V} (h : a.k = b.k) : zO a b = if a.k = 1 then 0 else if a.k = 4 then kL a.s b.s else if a.n < b.n then -1 else if b.n < a.n then 1 else 0 := by
 unfold zO; rw [if_neg uX_, if_neg uX_]
theorem ZA (a b c : V) : zO a b <= 0 -> zO b c <= 0 -> zO a c <= 0 := by
 intro h1 h2; rcases Int.lt_trichotomy a.k b.k with h | h | h
 ·rcases Int.lt_trichotomy b.k c.k with k | k | k
  ·rw [NB uX_]; omega
  ·rw [NB uX_]; omega
  ·rw [NA k] at h2; omega
 ·rcases Int.lt_trichotomy b.k c.k with k | k | k
  ·rw [NB uX_]; omega
  ·rw [QX h] at h1; rw [QX k] at h2; rw [QX (h.trans k)]; rw [h] at h1 ⊢
   by_cases e1 : b.k = 1
   ·simp [e1]
   ·by_cases e4 : b.k = 4
    ·simp only [e4] at h1 h2 ⊢; exact R6 a.s b.s c.s h1 h2
    ·simp only [e1, e4, if_false] at h1 h2 ⊢
     repeat' split at h1
     all_goals repeat' split at h2
     all_goals repeat' split
     all_goals omega
  ·rw [NA k] at h2; omega
 ·rw [NA h] at h1; omega
theorem Vz (a b : V) (ha : RV a) (hb : RV b) : zO a b = 0 ↔ bare a = bare b := by
 have hak := ha.kind; have hbk := hb.kind; have he := Tt a.s b.s; obtain ⟨ak, an, at_⟩ := a; obtain ⟨bk, bn, bt⟩ := b; simp only at *; rcases hak with rfl | rfl | rfl | rfl <;> rcases hbk with rfl | rfl | rfl | rfl <;> simp [zO, bare, he]
 all_goals
  repeat' split
  all_goals omega
theorem Yr (f : V -> V -> Int) (hf : ∀ a b, f a b = -1 \/ f a b = 0 \/ f a b = 1) : ∀ xs ys : List V, zv f xs ys = -1 \/ zv f xs ys = 0 \/ zv f xs ys = 1
 | [], [] => by simp [zv]
 | [], _ :: _ => by simp [zv]
 | _ :: _, [] => by simp [zv]
 | a :: l, b :: m => by
  unfold zv; split
  ·exact Yr f hf l m
  ·exact hf a b
theorem yo (f : V -> V -> Int) (hf : ∀ a b, f b a = - f a b) : ∀ xs ys : List V, zv f ys xs = - zv f xs ys
 | [], [] => by simp [zv]
 | [], _ :: _ => by simp [zv]
 | _ :: _, [] => by simp [zv]
 | a :: l, b :: m => by
  have ih := yo f hf l m; have h := hf a b; unfold zv; rw [h]
  by_cases h0 : f a b = 0
  ·simp [h0, ih]
  ·rw [if_neg uX_, if_neg h0]
theorem yg : ∀ xs ys : List V, (∀ x ∈ xs, RV x) -> (∀ y ∈ ys, RV y) -> zv x4 xs ys = zv zO xs ys
 | [], [], _, _ => rfl
 | [], _ :: _, _, _ => rfl
 | _ :: _, [], _, _ => rfl
 | a :: l, b :: m, h, k => by
  unfold zv; rw [M6 a b (h a uY_) (k b uY_), yg l m (fun x hx => h x uR_) (fun y hy => k y uS_)]
end Go.Proofs.YtflggnopgnoeiaaGreat
namespace Go.Proofs.YtflggnopgnoeiaaGreat
open Go.ChangeShapes Go.WideShapes Go.ChangeAt Go.RowKit Go.Calm
set_option maxRecDepth 100000
section
variable {H : Type} {enc : TypeId × Value -> H} {P : Program}
theorem Zi (hl : laidOutB P = true) {W W' : World} (hb : Below W.heap.size W W') {sp : Nat -> Bool} : ∀ {ts : List TypeId} {vs : List Value} {ds : List (DataW H)} {ps : List MemPlace},
  (∀ t ∈ ts, P.readableRec t = true /\ t < P.types.size) -> DataW.TrodAll enc P W 0 (fun _ => true) true ts vs ds ps -> (∀ p ∈ ps, p.block < W.heap.size) -> (∀ p ∈ ps, sp p.block = true) -> DataW.TrodAll enc P W' 0 sp true ts vs ds ps
 | [], [], [], _, _, h, _, _ => h
 | t :: ts, v :: vs, d :: ds, ps, hr, ⟨p, q, h1, h2, e⟩, hlt, hs => by
  subst e; refine ⟨p, q, WideElems.Trod_stays hl (hr t uY_).1 (hr t uY_).2 h1 (fun x hx => hb.same (hlt x (List.mem_append_left _ hx))) (fun x hx => hs x (List.mem_append_left _ hx)), ?_, rfl⟩; exact Zi hl hb (fun t' ht' => hr t' (List.mem_cons_of_mem _ ht')) h2 (fun x hx => hlt x (List.mem_append_right _ hx)) (fun x hx => hs x (List.mem_append_right _ hx))
theorem PQ {f : Func} {s : ChangeSpec} {W W' : World} {args : Array Value} {ds : List (DataW H)} {before : List MemPlace}
  (hvars : s.vars = []) (hfn : s.fn H (ds ++ []) = { results := [.lit (.bool true)], args := ds, vars := [] }) (tb : TypeId) (hres : f.resultTypes = #[tb]) (hbool : P.underlying tb = some .bool)
  (hl : laidOutB P = true) (hr : ∀ t ∈ f.params.toList, P.readableRec t = true /\ t < P.types.size)
  (hW : DataW.Whole enc P f.params.toList s.vars false W args.toList ds [] before) (hg : za W W') :
  s.post enc P f false true false false W args (.bool true) W' := by
 have hW' := hW; obtain ⟨p, q, hA, hV, rfl, hfz, hnd⟩ := hW
 have hq : q = [] := by
  rw [hvars] at hV; exact hV
 subst hq; have hlt : ∀ x ∈ p ++ [], x.block < W.heap.size := fun x hx => hW'.lt x hx
 have hlt' : ∀ x ∈ p, x.block < W.heap.size := fun x hx => hlt x uw_
 have hb := hg.below; refine ⟨ds, [], p ++ [], [], p, [], hW', ?_, ?_, ?_, ?_, fun h => by cases h⟩
 ·rw [hfn, hres]; exact trodAll_cons_mk (shut_bool hbool _) trodAll_mk0
 ·rw [hfn]; exact Zi hl hb hr hA hlt' (fun x hx => by simpa using hlt' x hx)
 ·rw [hvars, hfn]; exact rfl
 ·exact World.keptBut_mono (fun x hx => ⟨hx, .inr uw_⟩) (hb.frame (· ∈ p ++ []))
end
section
variable {H : Type} {enc : TypeId × Value -> H} {w : World} {base : Nat} {spare : Nat -> Bool} {held : Bool}
def x7 (n : Int) : Prop := -9223372036854775808 <= n /\ n <= 9223372036854775807
theorem YD {n : Int} (h : (Lit.int .i64 n).wf = true) : x7 n := by
 simpa [Lit.wf, IntKind.min, IntKind.max, IntKind.signed, IntKind.bits, x7] using h
structure VB (v : V) : Prop where
 k : x7 v.k
 n : x7 v.n
 s : v.s.size <= maxLen
theorem MP {fuel : Nat} {cs : List Value} {x : DataW H × List MemPlace} (h : DataW.trod enc Tryz.prog w base spare held fuel 33 cs = some x) :
  ∃ v : V, cs = [.int .i64 v.k, .int .i64 v.n, .string v.s] /\ VB v := by
 obtain ⟨xs, n, _, _, hlen, hxl, hf⟩ := DataW.trod_struct Tryz.underlying33 h; have h3 : cs.length = 3 := by rw [hlen]; kernel_rfl
 match cs, h3 with
 | [a, b, c], _ =>
  have f0 := hf 0 _ rfl; have f1 := hf 1 _ rfl; have f2 := hf 2 _ rfl; have g : ∀ i, i < 3 -> ∃ y, xs[i]? = some y := fun i hi => ⟨xs[i]' uk_, qQ_ _⟩
  obtain ⟨y0, e0⟩ := g 0 uX_; obtain ⟨y1, e1⟩ := g 1 uX_; obtain ⟨y2, e2⟩ := g 2 uX_; rw [e0] at f0; rw [e1] at f1; rw [e2] at f2; obtain ⟨k, hk, _, wk⟩ := DataW.trod_int Tryz.underlying3 f0; obtain ⟨m, hm, _, wm⟩ := DataW.trod_int Tryz.underlying2 f1; obtain ⟨s, hs, _, ws⟩ := DataW.trod_string Tryz.underlying9 f2; have c0 : Tryz.prog.cellsOf 3 = 1 := by kernel_rfl
  have c1 : Tryz.prog.cellsOf 2 = 1 := by kernel_rfl
  have c2 : Tryz.prog.cellsOf 9 = 1 := by kernel_rfl
  simp [c0] at hk; simp [c1] at hm; simp [c2] at hs; exact ⟨⟨k, m, s⟩, by simp [hk, hm, hs], ⟨YD wk, YD wm, ws⟩⟩
theorem Wc {w : World} {a : Addr} {j : Nat} {v : Value} (h : w.cell? (a.add j) = some v) : a.spot = none \/ j ≠ 0 := by
 by_cases hj : j = 0
 ·subst hj; left; unfold Addr.add at h; simp only [if_true] at h; unfold World.cell? at h; split at h
  ·split at h
   ·cases h
   ·rename_i hs; simpa using hs
  ·cases h
 ·exact .inr hj
theorem Xe {g o n : Nat} : (Addr.mk g o none).add n = ⟨g, o + n, none⟩ := by
 unfold Addr.add; split
 ·rename_i h; subst h; rfl
 ·rfl
theorem qX {t e : TypeId} {fuel c : Nat} {cs : List Value} {x : DataW H × List MemPlace} (ht : Tryz.prog.underlying t = some (.slice e)) (hc : Tryz.prog.cellsOf e = c) (hc0 : 0 < c) (h : DataW.trod enc Tryz.prog w base spare held fuel t cs = some x) :
  ∃ (A : Option Addr) (len cap n : Nat) (D : Nat -> DataW H × List MemPlace), cs = [.slice A len cap] /\ len <= maxLen /\ len <= cap /\ ∀ i, i < len -> ∃ g o ys, A = some ⟨g, o, none⟩ /\ ys.length = c /\ (∀ j y, ys[j]? = some y -> w.cell? ⟨g, o + i * c + j, none⟩ = some y) /\ DataW.trod enc Tryz.prog w base spare held n e ys = some (D i) := by
 rcases DataW.trod_slice ht h with ⟨h0, _⟩ | ⟨a, len, cap, elems, rest, n, _, hcs, _, hb, hl, hm, hlen, hel, _, _⟩
 ·exact ⟨none, 0, 0, 0, fun _ => (.nil, []), h0, Nat.zero_le _, Nat.le_refl _, fun i hi => by omega⟩
 ·refine ⟨some a, len, cap, n, fun i => elems.getD i (.nil, []), hcs, by omega, hl, fun i hi => ?_⟩
  have get : ∀ i, i < len -> ∃ ys, w.cells? base (a.add (i * c)) c = some ys /\ DataW.trod enc Tryz.prog w base spare held n e ys = some (elems.getD i (.nil, [])) := fun i hi => wh_
  have hsp : a.spot = none := we_
  obtain ⟨g, o, sp⟩ := a; simp only at hsp; subst hsp; obtain ⟨ys, hcell, hd⟩ := get i hi; obtain ⟨_, hyl, hat⟩ := World.cells?_some hcell; refine ⟨g, o, ys, rfl, hyl, fun j y hy => ?_, hd⟩; have hj : j < c := by rw [<- hyl]; exact (qQ9.1 hy).1
  have := hat j hj; rw [hy, Xe, Xe] at this; exact this
theorem Te {fuel : Nat} {cs : List Value} {x : DataW H × List MemPlace} (h : DataW.trod enc Tryz.prog w base spare held fuel 51 cs = some x) :
  ∃ (A : Option Addr) (xs : List V) (cap : Nat), cs = [.slice A xs.length cap] /\ xi w A xs /\ xs.length <= maxLen /\ ∀ v ∈ xs, VB v := by
 obtain ⟨A, len, cap, n, D, hcs, hl, _, hi⟩ := qX (c := 3) Tryz.underlying51 uQ_ uX_ h
 have pick : ∀ i, i < len -> ∃ v : V, VB v /\ ∃ g o, A = some ⟨g, o, none⟩ /\ Yc w g (o + i * 3) v := fun i hlt => by
  obtain ⟨g, o, ys, hA, hyl, hat, hd⟩ := hi i hlt; obtain ⟨v, hv, hb⟩ := MP hd; subst hv; exact ⟨v, hb, g, o, hA, hat 0 _ rfl, hat 1 _ rfl, hat 2 _ rfl⟩
 have build : ∀ m, m <= len -> ∃ xs : List V, xs.length = m /\ (∀ v ∈ xs, VB v) /\ xi w A xs := u7_
 obtain ⟨xs, hxl, hxb, hxs⟩ := build len (Nat.le_refl _); exact ⟨A, xs, cap, by rw [hcs, hxl], hxs, by omega, hxb⟩
end
