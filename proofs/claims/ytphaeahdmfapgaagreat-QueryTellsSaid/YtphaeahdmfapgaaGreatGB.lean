/- Parts of a proof. No condition. -/
import Derived.Test.YtphaeahdmfapgaaGreatProg
import Derived.Test.YtphaeahdmfapgaaGreatGA
import Derived.WalkSpells
import Derived.WalkLawsBesides
import Derived.Handy
import Derived.BigGuardPart
import Derived.Test.YtphaeahdmfapgaaGreatRows
import Derived.ProofKit
import Derived.OpenShut
set_option maxRecDepth 100000
set_option maxHeartbeats 1000000
set_option maxRecDepth 100000
set_option linter.unusedSimpArgs false
set_option linter.unusedVariables false
namespace Go
variable {p : Prop}
theorem vf_ (h : p := by simp [results, Tryz.results140, go_sem, bare]) : p := h
theorem vo_ (h : p := by simp [results, Tryz.results128, go_sem, yB]) : p := h
theorem vp_ (h : p := by simp [results, Tryz.results155, go_sem, hc]) : p := h
theorem vq_ (h : p := by simp [results, Tryz.results154, go_sem, hc]) : p := h
theorem vr_ (h : p := by simp [results, Tryz.results163, go_sem, yB]) : p := h
theorem vs_ (h : p := by simp [results, Tryz.results156, go_sem, hc]) : p := h
theorem vt_ (h : p := by simp [results, Tryz.results157, go_sem, hc]) : p := h
theorem vO_ (h : p := by simp [results, Tryz.results118, go_sem]) : p := h
theorem uv_ (h : p := by rw [hxl]; exact hi) : p := h
theorem uH_ (h : p := by simpa using hx) : p := h
theorem uY_ (h : p := by kernel_rfl) : p := h
theorem uZ_ (h : p := by simp [hx]) : p := h
theorem u0_ (h : p := by simp [hy]) : p := h
theorem wa_ (h : p := by
 simp [intOf]; omega) : p := h
theorem wg_ (h : p := by
 intro m
 induction m with
 | zero => exact fun _ => ⟨[], rfl, by simp, fun i x hx => by simp at hx⟩
 | succ m ih =>
  intro hm; obtain ⟨xs, hxl, hxb, hxs⟩ := ih u4_; obtain ⟨v, hb, g, o, hA, hc⟩ := pick m u4_; refine ⟨xs ++ [v], by simp [hxl], fun u hu => ?_, fun i x hx => ?_⟩
  ·rcases List.mem_append.1 hu with h' | h'
   ·exact hxb u h'
   ·simp at h'; subst h'; exact hb
  ·rcases Nat.lt_or_ge i xs.length with h' | h'
   ·rw [List.getElem?_append_left h'] at hx; exact hxs i x hx
   ·rw [List.getElem?_append_right h'] at hx
    have : i - xs.length = 0 := by
     rcases Nat.eq_zero_or_pos (i - xs.length) with h0 | h0
     ·exact h0
     ·rw [List.getElem?_eq_none uV_] at hx; cases hx
    rw [this] at hx; simp at hx; subst hx; have hi' : i = m := by omega
    subst hi'; exact ⟨g, o, hA, hc⟩) : p := h
theorem wl_ (h : p := by
 obtain ⟨ys, hcell, _⟩ := get 0 u4_; obtain ⟨_, hyl, hat⟩ := World.cells?_some hcell; have h1 := hat 0 hc0; have h2 : ys[0]? = some (ys[0]' u4_) := qQ_ _; rw [h2, Nat.zero_mul] at h1; have e : (a.add 0) = a := rfl; rw [e] at h1; rcases Qj h1 with h3 | h3
 ·exact h3
 ·exact absurd rfl h3) : p := h
theorem ws_ (h : p := by
 have h1 := hel i hi; rw [hc] at h1; have h2 : elems[i]? = some (elems.getD i (.nil, [])) := by simp [hlen, hi]
 rw [h2] at h1; cases hcell : w.cells? base (a.add (i * c)) c with
 | none => rw [hcell] at h1; cases h1
 | some ys => rw [hcell] at h1; exact ⟨ys, rfl, h1⟩) : p := h
theorem ww_ (h : p := by
 intro w1 hw1 hF K hK; go_simp; exact hK _ _ ((za.refl _).al _) ⟨_, rfl, zc.new _ _ _⟩) : p := h
theorem wV_ (h : p := by
 have e1 : yp n = ⟨1, 0, es⟩ := by unfold yp; rw [if_neg u4_]
 rw [e1]; clear e1; go_enter Tryz.func155, Tryz.ntmps155
 go_wp2_with ((go_at_call 122; ((with_reducible refine (kJ _).mono ?_); rintro e w' ⟨rfl, hg⟩; obtain ⟨hc, hf, hz⟩ := hg.rules)))
 exact qX_ vp_ rfl ⟨rfl, zd⟩) : p := h
theorem w3_ (h : p := by
 go_enter Tryz.func140, Tryz.ntmps140; go_wp2; exact qX_ vf_ rfl ⟨rfl, zd⟩) : p := h
theorem xC_ (h : p := by
 go_enter Tryz.func141, Tryz.ntmps141; go_wp2
 all_goals
  go_ret; refine yG ?_ zd; simp [L4, *]; try (rw [Bool.eq_iff_iff]; simp)) : p := h
theorem yi_ (h : p := by
 go_enter Tryz.func128, Tryz.ntmps128; go_wp2; exact qX_ vo_ rfl ⟨rfl, zd⟩) : p := h
theorem yj_ (h : p := by
 go_enter Tryz.func163, Tryz.ntmps163; go_wp2; exact qX_ vr_ rfl ⟨rfl, zd⟩) : p := h
theorem yG_ (h : p := by
 exact ⟨0, Nat.zero_le _, Nat.zero_le _, rfl, rfl, za.refl _⟩) : p := h
end Go
namespace Go.Proofs.YtphaeahdmfapgaaGreat
open Go.RowKit Go.Calm
structure V where
 k : Int
 n : Int
 s : ByteArray
@[go_sem] abbrev V.val (v : V) : Value := .agg #[.int .i64 v.k, .int .i64 v.n, .string v.s]
abbrev es : ByteArray := ⟨#[]⟩
def bare (v : V) : V := if v.k = 1 then ⟨1, 0, es⟩ else if v.k = 4 then ⟨4, 0, v.s⟩ else ⟨v.k, v.n, es⟩
theorem kJ (w : World) : Calls Tryz.prog 122 #[] w fun e w' => e = .returned (V.val ⟨1, 0, es⟩) /\ za w w' := by
 go_enter Tryz.func122, Tryz.ntmps122; go_wp2; exact qX_ (by simp [results, Tryz.results122, go_sem]) rfl ⟨rfl, (za.refl _).al _⟩
theorem Y9 (v : V) (w : World) : Calls Tryz.prog 118 #[v.val] w fun e w' => e = .returned (bare v).val /\ za w w' := by
 unfold V.val
 by_cases h1 : v.k = 1
 ·have hd1 : (v.k == 1) = true := by simpa using h1
  have e1 : bare v = ⟨1, 0, es⟩ := by simp [bare, h1]
  rw [e1]; clear e1 h1; go_enter Tryz.func118, Tryz.ntmps118
  go_wp2_with (go_at_call 122; refine (kJ _).mono ?_; rintro e w' ⟨rfl, hg⟩; obtain ⟨hc, hf, _⟩ := hg.rules)
  exact qX_ (by simp [results, Tryz.results118, go_sem, hc]) rfl ⟨rfl, (((((za.refl _).al _).al _).trans hg).set u5_ _).set u5_ _ |>.set u5_ _⟩
 ·have hd1 : (v.k == 1) = false := by simpa using h1
  by_cases h4 : v.k = 4
  ·have hd4 : (v.k == 4) = true := by simpa using h4
   have e1 : bare v = ⟨4, 0, v.s⟩ := by simp [bare, h4]
   rw [e1]; clear e1 h1 h4; go_enter Tryz.func118, Tryz.ntmps118; go_wp2; exact qX_ vO_ rfl ⟨rfl, ((za.refl _).al _).al _⟩
  ·have hd4 : (v.k == 4) = false := by simpa using h4
   have e1 : bare v = ⟨v.k, v.n, es⟩ := by simp [bare, h1, h4]
   rw [e1]; clear e1 h1 h4; go_enter Tryz.func118, Tryz.ntmps118; go_wp2; exact qX_ vO_ rfl ⟨rfl, ((za.refl _).al _).al _⟩
def XF (x y : Int) : Int := if x < y then -1 else if y < x then 1 else 0
theorem Gu (x : Int) (w : World) : Calls Tryz.prog 151 #[.int .i64 x] w fun e w' => e = .returned (.bool false) /\ w = w' := by
 go_enter Tryz.func151, Tryz.ntmps151; go_wp2; go_ret; exact ⟨by simp, rfl⟩
theorem FO (x : Int) (w : World) : Calls Tryz.prog 168 #[.int .i64 x] w fun e w' => e = .returned (.bool false) /\ w = w' := by
 go_enter Tryz.func168, Tryz.ntmps168; go_wp2; go_ret; exact ⟨by simp, rfl⟩
theorem Rj (x y : Int) (w : World) : Calls Tryz.prog 116 #[.int .i64 x, .int .i64 y] w fun e w' => e = .returned (.int .i64 (XF x y)) /\ w = w' := by
 unfold XF; go_enter Tryz.func116, Tryz.ntmps116
 go_wp2_with (go_at_call 151; refine (Gu _ _).mono ?_; rintro e w' ⟨rfl, rfl⟩)
 all_goals go_ret
 all_goals (refine ⟨?_, rfl⟩; simp [*]; try omega)
theorem R9 (x y : Int) (w : World) : Calls Tryz.prog 149 #[.int .i64 x, .int .i64 y] w fun e w' => e = .returned (.int .i64 (XF x y)) /\ w = w' := by
 unfold XF; go_enter Tryz.func149, Tryz.ntmps149
 go_wp2_with (go_at_call 168; refine (FO _ _).mono ?_; rintro e w' ⟨rfl, rfl⟩)
 all_goals go_ret
 all_goals (refine ⟨?_, rfl⟩; simp [*]; try omega)
def BD (x y z : Int) : Int := if x ≠ 0 then x else if y ≠ 0 then y else z
theorem U4 (x y z : Int) (g c : Nat) (w : World) (h0 : w.cell? ⟨g, 0, none⟩ = some (.int .i64 x)) (h1 : w.cell? ⟨g, 1, none⟩ = some (.int .i64 y)) (h2 : w.cell? ⟨g, 2, none⟩ = some (.int .i64 z)) :
  Calls Tryz.prog 148 #[.slice (some ⟨g, 0, none⟩) 3 c] w fun e w' => e = .returned (.int .i64 (BD x y z)) /\ w = w' := by
 unfold BD
 by_cases hx : x = 0
 ·have dx : (x != 0) = false := by simpa using hx
  rw [if_neg uH_]; clear hx
  by_cases hy : y = 0
  ·have dy : (y != 0) = false := by simpa using hy
   rw [if_neg (by simpa using hy)]; clear hy
   by_cases hz : z = 0
   ·have dz : (z != 0) = false := by simpa using hz
    subst hz; go_enter Tryz.func148, Tryz.ntmps148; go_wp2; refine wp_loop_rounds 4 ?_
    iterate 4 (rw [rounds_succ]; go_wp2)
    go_ret; exact ⟨rfl, rfl⟩
   ·have dz : (z != 0) = true := by simpa using hz
    clear hz; go_enter Tryz.func148, Tryz.ntmps148; go_wp2; refine wp_loop_rounds 3 ?_
    iterate 3 (rw [rounds_succ]; go_wp2)
    go_ret; exact ⟨rfl, rfl⟩
  ·have dy : (y != 0) = true := by simpa using hy
   rw [if_pos (by simpa using hy)]; clear hy; go_enter Tryz.func148, Tryz.ntmps148; go_wp2; refine wp_loop_rounds 3 ?_
   iterate 2 (rw [rounds_succ]; go_wp2)
   go_ret; exact ⟨rfl, rfl⟩
 ·have dx : (x != 0) = true := by simpa using hx
  rw [if_pos uH_]; clear hx; go_enter Tryz.func148, Tryz.ntmps148; go_wp2; refine wp_loop_rounds 3 ?_
  iterate 1 (rw [rounds_succ]; go_wp2)
  go_ret; exact ⟨rfl, rfl⟩
theorem R7 (a b : ByteArray) (w : World) : Calls Tryz.prog 169 #[.string a, .string b] w fun e w' => e = .returned (.int .i64 (kp a b)) /\ w = w' := by
 unfold kp; go_enter Tryz.func169, Tryz.ntmps169; go_wp2; rw [run_callFunc_extern Tryz.func176 uY_ uY_ uY_ (e := Extern.BytealgCompare.compare) uY_, Lib.run_compareString]; simp only [Result.andThen]; rw [Oper.upon_value]; go_wp2; go_ret; exact ⟨rfl, rfl⟩
theorem Ci (a b : ByteArray) (w : World) : Calls Tryz.prog 150 #[.string a, .string b] w fun e w' => e = .returned (.int .i64 (kp a b)) /\ w = w' := by
 go_enter Tryz.func150, Tryz.ntmps150
 go_wp2_with (go_at_call 169; refine (R7 _ _ _).mono ?_; rintro e w' ⟨rfl, rfl⟩)
 go_ret; exact ⟨rfl, rfl⟩
def xT (a b : V) : Int := BD (XF (bare a).k (bare b).k) (XF (bare a).n (bare b).n) (kp (bare a).s (bare b).s)
theorem jf (a b : V) (w : World) : Calls Tryz.prog 115 #[a.val, b.val] w fun e w' => e = .returned (.int .i64 (xT a b)) /\ za w w' := by
 unfold V.val; go_enter Tryz.func115, Tryz.ntmps115; go_wp2; refine zb (fun W => zc W w.heap.size 24 #[.int .i64 a.k, .int .i64 a.n, .string a.s] /\ zc W (w.heap.size + 1) 24 #[.int .i64 b.k, .int .i64 b.n, .string b.s] /\ za w W) ⟨(zc.new _ _ _).al _, zc.new' _ _ _ u5_, ((za.refl _).al _).al _⟩ ?_; rintro W ⟨A1, A2, G1⟩; apply ze 4 uY_ uY_
 case h' =>
  intro Q0 hQ0; simp only [List.take_succ_cons, List.take_zero]
  repeat (
   apply jO
   case h1 =>
    intro w1 hw1 hF K hK; obtain ⟨c1, f1⟩ := (zc.grow A1 hw1).rules; obtain ⟨c2, f2⟩ := (zc.grow A2 hw1).rules; go_simp
    first
     | exact hK _ (za.refl _)
     | (go_at_call 118; (with_reducible refine (Y9 _ _).mono ?_); rintro e w' ⟨rfl, hg⟩; exact ⟨_, rfl, hK _ hg⟩)
   intro K hK; go_simp; apply hK
   clear hK K)
  refine zo ?_; intro w1 hw1 hF; clear hF; have B1 := zc.grow A1 hw1; have B2 := zc.grow A2 hw1; obtain ⟨c1, f1⟩ := B1.rules; obtain ⟨c2, f2⟩ := B2.rules; apply hQ0; clear hQ0; simp only [List.drop_succ_cons, List.drop_zero]; go_wp2; clear c1 f1 c2 f2
  refine zb (fun W => zc W w.heap.size 24 #[.int .i64 (bare a).k, .int .i64 (bare a).n, .string (bare a).s] /\ zc W (w.heap.size + 1) 24 #[.int .i64 (bare b).k, .int .i64 (bare b).n, .string (bare b).s] /\ za w W)
   ⟨(((((B1.set 0 _).set 1 _).set 2 _).far u5_ _).far u5_ _).far u5_ _, (((((B2.far u5_ _).far u5_ _).far u5_ _).set 0 _).set 1 _).set 2 _, ((((((G1.trans (hw1)).set u5_ _).set u5_ _).set u5_ _).set u5_ _).set u5_ _).set u5_ _⟩ ?_
  clear G1 A1 A2 B1 B2 hw1 w1 Q0 W; rintro W ⟨A1, A2, G1⟩; apply ze 18 uY_ uY_
  case h' =>
   intro Q0 hQ0; simp only [List.take_succ_cons, List.take_zero]
   repeat (
    apply jO
    case h1 =>
     intro w1 hw1 hF K hK; obtain ⟨c1, f1⟩ := (zc.grow A1 hw1).rules; obtain ⟨c2, f2⟩ := (zc.grow A2 hw1).rules; go_simp
     first
      | exact hK _ (za.refl _)
      | (go_at_call 116; (with_reducible refine (Rj _ _ _).mono ?_); rintro e w' ⟨rfl, rfl⟩; exact ⟨_, rfl, hK _ (za.refl _)⟩)
      | (go_at_call 149; (with_reducible refine (R9 _ _ _).mono ?_); rintro e w' ⟨rfl, rfl⟩; exact ⟨_, rfl, hK _ (za.refl _)⟩)
      | (go_at_call 150; (with_reducible refine (Ci _ _ _).mono ?_); rintro e w' ⟨rfl, rfl⟩; exact ⟨_, rfl, hK _ (za.refl _)⟩)
    intro K hK; go_simp; apply hK
    clear hK K)
   apply ZP (D := fun v w => ∃ g, v = .slice (some ⟨g, 0, none⟩) 3 3 /\ zc w g 3 #[.int .i64 (XF (bare a).k (bare b).k), .int .i64 (XF (bare a).n (bare b).n), .int .i64 (kp (bare a).s (bare b).s)])
   case h1 => exact ww_
   intro v K hK; go_simp; apply hK; clear hK K; apply jO
   case h1 =>
    intro w1 hw1 hF K hK; obtain ⟨g, rfl, hg⟩ := hF _ (List.mem_cons_self ..) ⟨_, rfl, by simp [Oper.looksAt, Op.operands, Call.operands]⟩; go_simp
    go_at_call 148
    (with_reducible refine (U4 _ _ _ _ _ _ (hg.cells rfl) (hg.cells rfl) (hg.cells rfl)).mono ?_)
    rintro e w' ⟨rfl, rfl⟩; exact ⟨_, rfl, hK _ (za.refl _)⟩
   intro K hK; go_simp; apply hK; clear hK K; apply jO
   case h1 =>
    intro w1 hw1 hF K hK; go_simp; exact hK _ (za.refl _)
   intro K hK; go_simp; apply hK; clear hK K; refine zo ?_; intro w1 hw1 hF; clear hF; apply hQ0; clear hQ0; simp only [List.drop_succ_cons, List.drop_zero]; go_wp2; go_ret; exact ⟨rfl, G1.trans hw1⟩
  case hp' => exact ⟨fun v w w' hg ⟨g, e, hb⟩ => ⟨g, e, hb.grow hg⟩, trivial⟩
 case hp' => trivial
def yB (b : Bool) : V := ⟨2, if b then 1 else 0, es⟩
theorem Zb (b : Bool) (w : World) : Calls Tryz.prog 128 #[.bool b] w fun e w' => e = .returned (yB b).val /\ za w w' := by
 cases b
 ·exact yi_
 ·exact yi_
def yp (n : Int) : V := if -1000000000000000 <= n /\ n <= 1000000000000000 then ⟨3, n, es⟩ else ⟨1, 0, es⟩
theorem Xh (n : Int) (w : World) : Calls Tryz.prog 155 #[.int .i64 n] w fun e w' => e = .returned (yp n).val /\ za w w' := by
 by_cases h1 : 1000000000000000 < n
 ·exact wV_
 ·by_cases h2 : n < -1000000000000000
  ·exact wV_
  ·have e1 : yp n = ⟨3, n, es⟩ := by unfold yp; rw [if_pos u4_]
   rw [e1]; clear e1; go_enter Tryz.func155, Tryz.ntmps155; go_wp2; exact qX_ (by simp [results, Tryz.results155, go_sem]) rfl ⟨rfl, zd⟩
def yq (v : V) : Int := if v.k = 2 then 2 * v.n else 1
def RB (v : V) : Prop := v.k = 2 -> 0 <= v.n /\ v.n <= 1
theorem kR (v : V) (h : RB v) (w : World) : Calls Tryz.prog 120 #[v.val] w fun e w' => e = .returned (.int .i64 (yq v)) /\ za w w' := by
 unfold V.val
 by_cases h1 : v.k = 2
 ·have hd1 : (v.k != 2) = false := by simpa using h1
  have e1 : yq v = 2 * v.n := by simp [yq, h1]
  obtain ⟨h0, h2⟩ := h h1; rw [e1]; clear e1 h1; go_enter Tryz.func120, Tryz.ntmps120; go_wp2; go_ret; exact ⟨rfl, (za.refl _).al _⟩
 ·have hd1 : (v.k != 2) = true := by simpa using h1
  have e1 : yq v = 1 := by simp [yq, h1]
  rw [e1]; clear e1 h1; go_enter Tryz.func120, Tryz.ntmps120; go_wp2; go_ret; exact ⟨rfl, (za.refl _).al _⟩
def yP (n : Int) : V := if n = 1 then ⟨1, 0, es⟩ else yB (n == 2)
theorem YU (n : Int) (w : World) : Calls Tryz.prog 154 #[.int .i64 n] w fun e w' => e = .returned (yP n).val /\ za w w' := by
 by_cases h1 : n = 1
 ·have hd1 : (n == 1) = true := by simpa using h1
  have e1 : yP n = ⟨1, 0, es⟩ := by simp [yP, h1]
  rw [e1]; clear e1 h1; go_enter Tryz.func154, Tryz.ntmps154
  go_wp2_with ((go_at_call 122; ((with_reducible refine (kJ _).mono ?_); rintro e w' ⟨rfl, hg⟩; obtain ⟨hc, hf, hz⟩ := hg.rules)))
  exact qX_ vq_ rfl ⟨rfl, zd⟩
 ·have hd1 : (n == 1) = false := by simpa using h1
  have e1 : yP n = yB (n == 2) := by simp [yP, h1]
  rw [e1]; clear e1 h1; go_enter Tryz.func154, Tryz.ntmps154
  go_wp2_with ((go_at_call 128; ((with_reducible refine (Zb _ _).mono ?_); rintro e w' ⟨rfl, hg⟩; obtain ⟨hc, hf, hz⟩ := hg.rules)))
  exact qX_ vq_ rfl ⟨rfl, zd⟩
def yV (a b : V) : Bool := decide (a.k = b.k /\ a.k ≠ 1)
theorem Yf (a b : V) (w : World) : Calls Tryz.prog 171 #[a.val, b.val] w fun e w' => e = .returned (.bool (yV a b)) /\ za w w' := by
 unfold V.val
 by_cases h1 : a.k = b.k
 ·have hd1 : (a.k == b.k) = true := by simpa using h1
  by_cases h2 : b.k = 1
  ·have hd2 : (b.k != 1) = false := by simpa using h2
   have hd3 : (a.k != 1) = false := by simpa [h1] using h2
   have e1 : yV a b = false := by simp [yV, h1, h2]
   rw [e1]; clear e1 h1 h2; go_enter Tryz.func171, Tryz.ntmps171; go_wp2; go_ret; exact ⟨rfl, zd⟩
  ·have hd2 : (b.k != 1) = true := by simpa using h2
   have hd3 : (a.k != 1) = true := by simpa [h1] using h2
   have e1 : yV a b = true := by simp [yV, h1, h2]
   rw [e1]; clear e1 h1 h2; go_enter Tryz.func171, Tryz.ntmps171; go_wp2; go_ret; exact ⟨rfl, zd⟩
 ·have hd1 : (a.k == b.k) = false := by simpa using h1
  have e1 : yV a b = false := by simp [yV, h1]
  rw [e1]; clear e1 h1; go_enter Tryz.func171, Tryz.ntmps171; go_wp2; go_ret; exact ⟨rfl, zd⟩
theorem ZC (v : V) (h : RB v) (w : World) : Calls Tryz.prog 80 #[v.val] w fun e w' => e = .returned (.bool (yq v == 2)) /\ za w w' := by
 unfold V.val; go_enter Tryz.func80, Tryz.ntmps80
 go_wp2_with ((go_at_call 120; ((with_reducible refine (kR v h _).mono ?_); rintro e w' ⟨rfl, hg⟩; obtain ⟨hc, hf, hz⟩ := hg.rules)))
 go_ret; exact ⟨rfl, ((za.refl _).al _).trans hg⟩
theorem Zp (v : V) (h : RB v) : 0 <= yq v /\ yq v <= 2 := by
 unfold yq; split
 ·rename_i hk; have := h hk; omega
 ·omega
theorem CN (v : V) (h : RB v) (w : World) : Calls Tryz.prog 123 #[v.val] w fun e w' => e = .returned (yP (2 - yq v)).val /\ za w w' := by
 obtain ⟨hr1, hr2⟩ := Zp v h; unfold V.val; go_enter Tryz.func123, Tryz.ntmps123
 go_wp2_with (first | (go_at_call 120; ((with_reducible refine (kR v h _).mono ?_); rintro e w' ⟨rfl, hg⟩; obtain ⟨hc, hf, hz⟩ := hg.rules)) | (go_at_call 154; ((with_reducible refine (YU _ _).mono ?_); rintro e w2' ⟨rfl, hg2⟩; replace hg := hg.trans hg2; clear hg2 hc hf hz; obtain ⟨hc, hf, hz⟩ := hg.rules)))
 exact qX_ (by simp [results, Tryz.results123, go_sem, hc]) rfl ⟨rfl, zd⟩
def Ex (x y : Int) : Int := if y < x then y else x
def Et (x y : Int) : Int := if x < y then y else x
def jN (a b : V) : V := yP (Ex (yq a) (yq b))
def WC (a b : V) : V := yP (Et (yq a) (yq b))
def qr (a : V) : V := yP (2 - yq a)
theorem Cb (a b : V) (ha : RB a) (hb : RB b) (w : World) : Calls Tryz.prog 124 #[a.val, b.val] w fun e w' => e = .returned (jN a b).val /\ za w w' := by
 obtain ⟨ra1, ra2⟩ := Zp a ha; obtain ⟨rb1, rb2⟩ := Zp b hb; unfold V.val; have em : (if yq b < yq a then yq b else yq a) = Ex (yq a) (yq b) := rfl; go_enter Tryz.func124, Tryz.ntmps124; go_wp2
 refine zb (fun W => zc W w.heap.size 24 #[.int .i64 a.k, .int .i64 a.n, .string a.s] /\ zc W (w.heap.size + 1) 24 #[.int .i64 b.k, .int .i64 b.n, .string b.s] /\ zc W (w.heap.size + 2) 24 #[.int .i64 0, .int .i64 0, .string es] /\ za w W)
  ⟨((zc.new _ _ _).al _).al _, (zc.new' _ _ _ u5_).al _, zc.new' _ _ _ u5_, (((za.refl _).al _).al _).al _⟩ ?_
 rintro W ⟨A1, A2, A3, G1⟩; apply ze 6 uY_ uY_
 case h' =>
  intro Q0 hQ0; simp only [List.take_succ_cons, List.take_zero]
  repeat ((first | ((first | apply zu rfl | apply zw rfl rfl rfl); case h1 => (intro w1 hw1 hF K hK; obtain ⟨c1, f1⟩ := (zc.grow A1 hw1).rules; obtain ⟨c2, f2⟩ := (zc.grow A2 hw1).rules; go_simp; first | exact hK _ (za.refl _) | (go_at_call 120; ((with_reducible refine (kR a ha _).mono ?_); rintro e w' ⟨rfl, hg⟩; exact ⟨_, rfl, hK _ hg⟩)) | (go_at_call 120; ((with_reducible refine (kR b hb _).mono ?_); rintro e w' ⟨rfl, hg⟩; exact ⟨_, rfl, hK _ hg⟩)) | (go_at_call 154; ((with_reducible refine (YU _ _).mono ?_); rintro e w' ⟨rfl, hg⟩; exact ⟨_, rfl, hK _ hg⟩)))) | apply zz rfl rfl rfl rfl); intro K hK; go_simp; apply hK; clear hK K)
  refine zo ?_; intro w1 hw1 hF; apply hQ0; clear hQ0; simp only [List.drop_succ_cons, List.drop_zero]; clear hF; obtain ⟨c3, f3⟩ := (zc.grow A3 hw1).rules; go_wp2; exact qX_ (by simp [results, Tryz.results124, go_sem, c3, jN]) rfl ⟨rfl, zd⟩
 case hp' => trivial
theorem EY (a b : V) (ha : RB a) (hb : RB b) (w : World) : Calls Tryz.prog 125 #[a.val, b.val] w fun e w' => e = .returned (WC a b).val /\ za w w' := by
 obtain ⟨ra1, ra2⟩ := Zp a ha; obtain ⟨rb1, rb2⟩ := Zp b hb; unfold V.val; have em : (if yq a < yq b then yq b else yq a) = Et (yq a) (yq b) := rfl; go_enter Tryz.func125, Tryz.ntmps125; go_wp2
 refine zb (fun W => zc W w.heap.size 24 #[.int .i64 a.k, .int .i64 a.n, .string a.s] /\ zc W (w.heap.size + 1) 24 #[.int .i64 b.k, .int .i64 b.n, .string b.s] /\ zc W (w.heap.size + 2) 24 #[.int .i64 0, .int .i64 0, .string es] /\ za w W)
  ⟨((zc.new _ _ _).al _).al _, (zc.new' _ _ _ u5_).al _, zc.new' _ _ _ u5_, (((za.refl _).al _).al _).al _⟩ ?_
 rintro W ⟨A1, A2, A3, G1⟩; apply ze 6 uY_ uY_
 case h' =>
  intro Q0 hQ0; simp only [List.take_succ_cons, List.take_zero]
  repeat ((first | ((first | apply zu rfl | apply zw rfl rfl rfl); case h1 => (intro w1 hw1 hF K hK; obtain ⟨c1, f1⟩ := (zc.grow A1 hw1).rules; obtain ⟨c2, f2⟩ := (zc.grow A2 hw1).rules; go_simp; first | exact hK _ (za.refl _) | (go_at_call 120; ((with_reducible refine (kR a ha _).mono ?_); rintro e w' ⟨rfl, hg⟩; exact ⟨_, rfl, hK _ hg⟩)) | (go_at_call 120; ((with_reducible refine (kR b hb _).mono ?_); rintro e w' ⟨rfl, hg⟩; exact ⟨_, rfl, hK _ hg⟩)) | (go_at_call 154; ((with_reducible refine (YU _ _).mono ?_); rintro e w' ⟨rfl, hg⟩; exact ⟨_, rfl, hK _ hg⟩)))) | apply zz rfl rfl rfl rfl); intro K hK; go_simp; apply hK; clear hK K)
  refine zo ?_; intro w1 hw1 hF; apply hQ0; clear hQ0; simp only [List.drop_succ_cons, List.drop_zero]; clear hF; obtain ⟨c3, f3⟩ := (zc.grow A3 hw1).rules; go_wp2; exact qX_ (by simp [results, Tryz.results125, go_sem, c3, WC]) rfl ⟨rfl, zd⟩
 case hp' => trivial
end Go.Proofs.YtphaeahdmfapgaaGreat
namespace Go.Proofs.YtphaeahdmfapgaaGreat
open Go.RowKit Go.Calm
theorem zk {k : IntKind} {a b : Int} {P : Prop} (h : a = b) (p : P) : Ending.returned (.int k a) = .returned (.int k b) /\ P := ⟨by rw [h], p⟩
theorem yG {a b : Bool} {P : Prop} (h : a = b) (p : P) : Ending.returned (.bool a) = .returned (.bool b) /\ P := ⟨by rw [h], p⟩
def ye (v : V) : Int :=
 if v.k = 1 then 0
 else if v.k = 2 then (if v.n = 0 \/ v.n = 1 then 0 else 3)
 else if v.k = 3 then (if -1000000000000000 <= v.n /\ v.n <= 1000000000000000 then 0 else 3)
 else if v.k = 4 then (if v.s.size <= 60 then 0 else 4)
 else 1
theorem qY (v : V) (w : World) : Calls Tryz.prog 72 #[v.val] w fun e w' => e = .returned (.int .i64 (ye v)) /\ za w w' := by
 unfold V.val; go_enter Tryz.func72, Tryz.ntmps72; go_wp2
 all_goals
  go_ret; refine zk ?_ zd
  (try simp only [beq_iff_eq, beq_eq_false_iff_ne, bne_iff_ne, ne_eq, bne_eq_false_iff_eq, Bool.not_eq_true', Bool.not_eq_false', decide_eq_true_eq, decide_eq_false_iff_not] at *)
  unfold ye
  repeat' split
  all_goals first | rfl | omega
theorem x4 (v : V) (w : World) : Calls Tryz.prog 99 #[v.val] w fun e w' => e = .returned (.int .i64 (ye v)) /\ za w w' := by
 unfold V.val; go_enter Tryz.func99, Tryz.ntmps99; go_wp2
 all_goals
  go_ret; refine zk ?_ zd; unfold ye
  repeat' split
  all_goals first | rfl | omega
theorem yt (w : World) : Calls Tryz.prog 106 #[] w fun e w' => e = .returned (V.val ⟨1, 0, es⟩) /\ za w w' := by
 go_enter Tryz.func106, Tryz.ntmps106; go_wp2; exact qX_ (by simp [results, Tryz.results106, go_sem]) rfl ⟨rfl, zd⟩
theorem xK (b : Bool) (w : World) : Calls Tryz.prog 163 #[.bool b] w fun e w' => e = .returned (yB b).val /\ za w w' := by
 cases b
 ·exact yj_
 ·exact yj_
structure RV (v : V) : Prop where
 kind : v.k = 1 \/ v.k = 2 \/ v.k = 3 \/ v.k = 4
 bool : v.k = 2 -> v.n = 0 \/ v.n = 1
 int : v.k = 3 -> -1000000000000000 <= v.n /\ v.n <= 1000000000000000
 text : v.k = 4 -> v.s.size <= 60
theorem RV.of (v : V) : ye v = 0 ↔ RV v := by
 constructor
 ·intro h; unfold ye at h
  constructor
  ·split at h
   ·omega
   ·split at h
    ·omega
    ·split at h
     ·omega
     ·split at h
      ·omega
      ·omega
  ·intro hk; simp only [hk] at h; simp at h; omega
  ·intro hk; simp only [hk] at h; simp at h; omega
  ·intro hk; simp only [hk] at h; simp at h; exact h
 ·rintro ⟨h1, h2, h3, h4⟩; unfold ye
  repeat' split
  all_goals first | rfl | omega
theorem RV.rb {v : V} (h : RV v) : RB v := fun hk => by have := h.bool hk; omega
def L4 (v : V) (b : Bool) : Bool := decide (v.k = 2) && (decide (v.n = 1) == b)
theorem ju (v : V) (b : Bool) (w : World) : Calls Tryz.prog 141 #[v.val, .bool b] w fun e w' => e = .returned (.bool (L4 v b)) /\ za w w' := by
 unfold V.val; cases b
 ·exact xC_
 ·exact xC_
theorem BN (n : Int) (h : -1000000000000000 <= n /\ n <= 1000000000000000) (w : World) : Calls Tryz.prog 175 #[.int .i64 n] w fun e w' => e = .returned (.int .i64 (n.natAbs : Int)) /\ w = w' := by
 obtain ⟨h1, h2⟩ := h; go_enter Tryz.func175, Tryz.ntmps175; go_wp2
 all_goals
  go_ret; refine zk ?_ rfl; omega
def zH (a b : V) : Int :=
 if a.k < b.k then -1 else if b.k < a.k then 1 else if a.k = 1 then 0
 else if a.k = 4 then kp a.s b.s
 else (if a.n < b.n then -1 else if b.n < a.n then 1 else 0)
theorem kO (a b : V) (w : World) : Calls Tryz.prog 139 #[a.val, b.val] w fun e w' => e = .returned (.int .i64 (zH a b)) /\ za w w' := by
 unfold V.val; have hl := R4 a.s b.s; have he := Mp a.s b.s; have hr := Q9 a.s b.s; go_enter Tryz.func139, Tryz.ntmps139; go_wp2
 all_goals
  go_ret; refine zk ?_ zd
  (try simp only [beq_iff_eq, beq_eq_false_iff_ne, bne_iff_ne, ne_eq, bne_eq_false_iff_eq, Bool.not_eq_true', Bool.not_eq_false', decide_eq_true_eq, decide_eq_false_iff_not] at *)
  unfold zH
  repeat' split
  all_goals first | rfl | omega
theorem Qa (v : V) (hv : RV v) (w : World) : Calls Tryz.prog 140 #[v.val] w fun e w' => e = .returned (bare v).val /\ za w w' := by
 obtain ⟨k, n, s⟩ := v; have hk := hv.kind; unfold V.val; simp only at hk ⊢; rcases hk with rfl | rfl | rfl | rfl
 ·exact w3_
 ·exact w3_
 ·exact w3_
 ·exact w3_
def Wf (a b : V) : V := if yV a b then yB (xT a b == 0) else ⟨1, 0, es⟩
def yT (a b : V) : V := if yV a b then yB (decide (xT a b < 0)) else ⟨1, 0, es⟩
theorem Ul (a b : V) (w : World) : Calls Tryz.prog 156 #[a.val, b.val] w fun e w' => e = .returned (Wf a b).val /\ za w w' := by
 cases hal : yV a b
 ·have e : Wf a b = ⟨1, 0, es⟩ := by simp [Wf, hal]
  rw [e]; clear e; unfold V.val; go_enter Tryz.func156, Tryz.ntmps156
  go_wp2_with (first | (go_at_call 171; ((with_reducible refine (Yf a b _).mono ?_); rintro e w' ⟨rfl, hg⟩; obtain ⟨hc, hf, hz⟩ := hg.rules)) | (go_at_call 122; ((with_reducible refine (kJ _).mono ?_); rintro e w2' ⟨rfl, hg2⟩; replace hg := hg.trans hg2; clear hg2 hc hf hz; obtain ⟨hc, hf, hz⟩ := hg.rules)))
  exact qX_ vs_ rfl ⟨rfl, zd⟩
 ·have e : Wf a b = yB (xT a b == 0) := by simp [Wf, hal]
  rw [e]; clear e; unfold V.val; go_enter Tryz.func156, Tryz.ntmps156
  go_wp2_with (first | (go_at_call 171; ((with_reducible refine (Yf a b _).mono ?_); rintro e w' ⟨rfl, hg⟩; obtain ⟨hc, hf, hz⟩ := hg.rules)) | (go_at_call 115; ((with_reducible refine (jf a b _).mono ?_); rintro e w2' ⟨rfl, hg2⟩; replace hg := hg.trans hg2; clear hg2 hc hf hz; obtain ⟨hc, hf, hz⟩ := hg.rules)) | (go_at_call 128; ((with_reducible refine (Zb _ _).mono ?_); rintro e w2' ⟨rfl, hg2⟩; replace hg := hg.trans hg2; clear hg2 hc hf hz; obtain ⟨hc, hf, hz⟩ := hg.rules)))
  exact qX_ vs_ rfl ⟨rfl, zd⟩
theorem Zm (a b : V) (w : World) : Calls Tryz.prog 157 #[a.val, b.val] w fun e w' => e = .returned (yT a b).val /\ za w w' := by
 cases hal : yV a b
 ·have e : yT a b = ⟨1, 0, es⟩ := by simp [yT, hal]
  rw [e]; clear e; unfold V.val; go_enter Tryz.func157, Tryz.ntmps157
  go_wp2_with (first | (go_at_call 171; ((with_reducible refine (Yf a b _).mono ?_); rintro e w' ⟨rfl, hg⟩; obtain ⟨hc, hf, hz⟩ := hg.rules)) | (go_at_call 122; ((with_reducible refine (kJ _).mono ?_); rintro e w2' ⟨rfl, hg2⟩; replace hg := hg.trans hg2; clear hg2 hc hf hz; obtain ⟨hc, hf, hz⟩ := hg.rules)))
  exact qX_ vt_ rfl ⟨rfl, zd⟩
 ·have e : yT a b = yB (decide (xT a b < 0)) := by simp [yT, hal]
  rw [e]; clear e; unfold V.val; go_enter Tryz.func157, Tryz.ntmps157
  go_wp2_with (first | (go_at_call 171; ((with_reducible refine (Yf a b _).mono ?_); rintro e w' ⟨rfl, hg⟩; obtain ⟨hc, hf, hz⟩ := hg.rules)) | (go_at_call 115; ((with_reducible refine (jf a b _).mono ?_); rintro e w2' ⟨rfl, hg2⟩; replace hg := hg.trans hg2; clear hg2 hc hf hz; obtain ⟨hc, hf, hz⟩ := hg.rules)) | (go_at_call 128; ((with_reducible refine (Zb _ _).mono ?_); rintro e w2' ⟨rfl, hg2⟩; replace hg := hg.trans hg2; clear hg2 hc hf hz; obtain ⟨hc, hf, hz⟩ := hg.rules)))
  exact qX_ vt_ rfl ⟨rfl, zd⟩
def XE (w : World) (g o : Nat) (v : V) : Prop := w.cell? ⟨g, o, none⟩ = some (.int .i64 v.k) /\ w.cell? ⟨g, o + 1, none⟩ = some (.int .i64 v.n) /\ w.cell? ⟨g, o + 2, none⟩ = some (.string v.s)
def yS (w : World) (A : Option Addr) (xs : List V) : Prop := ∀ i x, xs[i]? = some x -> ∃ g o, A = some ⟨g, o, none⟩ /\ XE w g (o + i * 3) x
theorem XE.grow {w w' : World} {g o : Nat} {v : V} (h : XE w g o v) (hg : za w w') : XE w' g o v := ⟨hg.cell h.1, hg.cell h.2.1, hg.cell h.2.2⟩
theorem yS.grow {w w' : World} {A : Option Addr} {xs : List V} (h : yS w A xs) (hg : za w w') : yS w' A xs := fun i x hx => by
 obtain ⟨g, o, hA, hc⟩ := h i x hx; exact ⟨g, o, hA, hc.grow hg⟩
def zC (f : V -> V -> Int) : List V -> List V -> Int
 | [], [] => 0
 | [], _ :: _ => -1
 | _ :: _, [] => 1
 | a :: l, b :: m => if f a b = 0 then zC f l m else f a b
theorem Xn (f : V -> V -> Int) (xs ys : List V) (k : Nat) (x y : V) (hx : xs[k]? = some x) (hy : ys[k]? = some y) :
  zC f (xs.drop k) (ys.drop k) = if f x y = 0 then zC f (xs.drop (k + 1)) (ys.drop (k + 1)) else f x y := by
 obtain ⟨h1, e1⟩ := qQ9.1 hx; obtain ⟨h2, e2⟩ := qQ9.1 hy; rw [List.drop_eq_getElem_cons h1, List.drop_eq_getElem_cons h2, e1, e2]; rfl
theorem WR (f : V -> V -> Int) (xs ys : List V) (k : Nat) (hx : k < xs.length) (hy : ys.length = k) : zC f (xs.drop k) (ys.drop k) = 1 := by
 rw [List.drop_eq_getElem_cons hx, List.drop_eq_nil_of_le (by omega : ys.length <= k)]; rfl
theorem Kw (f : V -> V -> Int) (xs ys : List V) (k : Nat) (hx : xs.length = k) (hy : k <= ys.length) : zC f (xs.drop k) (ys.drop k) = XF (xs.length : Int) (ys.length : Int) := by
 rw [List.drop_eq_nil_of_le (by omega : xs.length <= k)]; unfold XF
 by_cases h : k < ys.length
 ·rw [List.drop_eq_getElem_cons h, if_pos u4_]; rfl
 ·rw [List.drop_eq_nil_of_le (by omega : ys.length <= k), if_neg u4_, if_neg u4_]; rfl
theorem jJ (xs ys : List V) (A B : Option Addr) (c d : Nat) (w : World) (hlx : xs.length <= 9223372036854775807) (hly : ys.length <= 9223372036854775807) (hx : yS w A xs) (hy : yS w B ys) :
  Calls Tryz.prog 71 #[.slice A xs.length c, .slice B ys.length d] w fun e w' => e = .returned (.int .i64 (zC xT xs ys)) /\ za w w' := by
 have Hx := hh_ hx; have Hy := hh_ hy; clear hx hy; go_enter Tryz.func71, Tryz.ntmps71; go_wp2
 go_loopw [10] (fun i wr => ∃ k : Nat, k <= xs.length /\ k <= ys.length /\ i = .int .i64 k /\ zC xT xs ys = zC xT (xs.drop k) (ys.drop k) /\ za w wr) (fun i _ => xs.length - (intOf i).toNat)
 case atStart => exact yG_
 case round =>
  obtain ⟨k, hk, hk', rfl, heq, hg⟩ := hrel; have Heq := hh_ heq; clear heq
  by_cases hlt : k < xs.length
  ·obtain ⟨x, hxk⟩ : ∃ x, xs[k]? = some x := ⟨_, qQ_ hlt⟩
   obtain ⟨g, o, rfl, hc1, hc2, hc3⟩ := Hx.out k x hxk; have c1 := hg.cell hc1; have c2 := hg.cell hc2; have c3 := hg.cell hc3; have Hxk := hh_ hxk; clear hc1 hc2 hc3 hxk
   by_cases hlt2 : k < ys.length
   ·have hne : ((k : Int) == (ys.length : Int)) = false := by rw [beq_eq_false_iff_ne]; omega
    obtain ⟨y, hyk⟩ : ∃ y, ys[k]? = some y := ⟨_, qQ_ hlt2⟩
    obtain ⟨g2, o2, rfl, hd1, hd2, hd3⟩ := Hy.out k y hyk; have Hyk := hh_ hyk; clear hyk; go_wp2; refine zb (fun W => zc W wr.heap.size 24 #[.int .i64 x.k, .int .i64 x.n, .string x.s] /\ za w W) ⟨zc.new _ _ _, hg.al _⟩ ?_; rintro W ⟨A1, G1⟩; have b0 : (0 : Int) <= (k : Int) := by omega
    have b1 : (k : Int) < (ys.length : Int) := by omega
    have Hd : Hid (XE w g2 (o2 + k * 3) y) := hh_ ⟨hd1, hd2, hd3⟩; clear c1 c2 c3 hd1 hd2 hd3; apply ze 7 uY_ uY_
    case h' =>
     intro Q0 hQ0; simp only [List.take_succ_cons, List.take_zero]
     repeat ((first | ((first | apply zu rfl | apply zw rfl rfl rfl); case h1 => (intro w1 hw1 hF K hK; obtain ⟨a1, f1⟩ := (zc.grow A1 hw1).rules; obtain ⟨d1, d2, d3⟩ := Hd.out.grow (G1.trans hw1); go_simp; first | exact hK _ (za.refl _) | (go_at_call 115; ((with_reducible refine (jf x y _).mono ?_); rintro e w' ⟨rfl, hg⟩; exact ⟨_, rfl, hK _ hg⟩)))) | apply zz rfl rfl rfl rfl); intro K hK; go_simp; apply hK; clear hK K)
     refine zo ?_; intro w1 hw1 hF; apply hQ0; clear hQ0; simp only [List.drop_succ_cons, List.drop_zero]; clear hF; have G2 := G1.trans hw1
     by_cases h0 : xT x y = 0
     ·have d0 : (xT x y != 0) = false := by simpa using h0
      have H0 := hh_ h0; clear h0; go_wp2; go_roundw
      case rel => exact ⟨k + 1, by omega, by omega, by go_num, by rw [Heq.out, Xn xT xs ys k x y Hxk.out Hyk.out, if_pos H0.out], G2⟩
      case measure => exact wa_
     ·have d0 : (xT x y != 0) = true := by simpa using h0
      have H0 := hh_ h0; clear h0; go_wp2; go_ret; exact zk (by rw [Heq.out, Xn xT xs ys k x y Hxk.out Hyk.out, if_neg H0.out]) G2
    case hp' => trivial
   ·have hne : ((k : Int) == (ys.length : Int)) = true := by rw [beq_iff_eq]; omega
    go_wp2; go_ret; exact zk (by rw [Heq.out, WR xT xs ys k hlt u4_]) (hg.al _)
  ·have Fin := hh_ (Kw xT xs ys k u4_ hk')
   go_wp2_with ((go_at_call 116; ((with_reducible refine (Rj _ _ _).mono ?_); rintro e w' ⟨rfl, rfl⟩)))
   go_ret; exact zk (by rw [Heq.out, Fin.out]) hg
theorem kT (xs ys : List V) (A B : Option Addr) (c d : Nat) (w : World) (hlx : xs.length <= 9223372036854775807) (hly : ys.length <= 9223372036854775807) (hx : yS w A xs) (hy : yS w B ys) :
  Calls Tryz.prog 98 #[.slice A xs.length c, .slice B ys.length d] w fun e w' => e = .returned (.int .i64 (zC zH xs ys)) /\ za w w' := by
 have Hx := hh_ hx; have Hy := hh_ hy; clear hx hy; go_enter Tryz.func98, Tryz.ntmps98; go_wp2
 go_loopw [5] (fun i wr => ∃ k : Nat, k <= xs.length /\ k <= ys.length /\ i = .int .i64 k /\ zC zH xs ys = zC zH (xs.drop k) (ys.drop k) /\ za w wr) (fun i _ => xs.length - (intOf i).toNat)
 case atStart => exact yG_
 case round =>
  obtain ⟨k, hk, hk', rfl, heq, hg⟩ := hrel; have Heq := hh_ heq; clear heq
  by_cases hlt : k < xs.length
  ·have hne1 : ((k : Int) == (xs.length : Int)) = false := by rw [beq_eq_false_iff_ne]; omega
   obtain ⟨x, hxk⟩ : ∃ x, xs[k]? = some x := ⟨_, qQ_ hlt⟩
   obtain ⟨g, o, rfl, hc1, hc2, hc3⟩ := Hx.out k x hxk; have Hxk := hh_ hxk; clear hxk
   by_cases hlt2 : k < ys.length
   ·have hne : ((k : Int) == (ys.length : Int)) = false := by rw [beq_eq_false_iff_ne]; omega
    obtain ⟨y, hyk⟩ : ∃ y, ys[k]? = some y := ⟨_, qQ_ hlt2⟩
    obtain ⟨g2, o2, rfl, hd1, hd2, hd3⟩ := Hy.out k y hyk; have Hyk := hh_ hyk; clear hyk; have Hc : Hid (XE w g (o + k * 3) x) := hh_ ⟨hc1, hc2, hc3⟩; have Hd : Hid (XE w g2 (o2 + k * 3) y) := hh_ ⟨hd1, hd2, hd3⟩; clear hc1 hc2 hc3 hd1 hd2 hd3; go_wp2; have b0 : (0 : Int) <= (k : Int) := by omega
    have b1 : (k : Int) < (ys.length : Int) := by omega
    have b2 : (k : Int) < (xs.length : Int) := by omega
    apply ze 10 uY_ uY_
    case h' =>
     intro Q0 hQ0; simp only [List.take_succ_cons, List.take_zero]
     repeat ((first | ((first | apply zu rfl | apply zw rfl rfl rfl); case h1 => (intro w1 hw1 hF K hK; obtain ⟨c1, c2, c3⟩ := Hc.out.grow (hg.trans hw1); obtain ⟨d1, d2, d3⟩ := Hd.out.grow (hg.trans hw1); go_simp; first | exact hK _ (za.refl _) | (go_at_call 139; ((with_reducible refine (kO x y _).mono ?_); rintro e w' ⟨rfl, hg⟩; exact ⟨_, rfl, hK _ hg⟩)))) | apply zz rfl rfl rfl rfl); intro K hK; go_simp; apply hK; clear hK K)
     refine zo ?_; intro w1 hw1 hF; apply hQ0; clear hQ0; simp only [List.drop_succ_cons, List.drop_zero]; clear hF; have G2 := hg.trans hw1
     by_cases h0 : zH x y = 0
     ·have d0 : (zH x y != 0) = false := by simpa using h0
      have H0 := hh_ h0; clear h0; go_wp2; go_roundw
      case rel => exact ⟨k + 1, by omega, by omega, by go_num, by rw [Heq.out, Xn zH xs ys k x y Hxk.out Hyk.out, if_pos H0.out], G2⟩
      case measure => exact wa_
     ·have d0 : (zH x y != 0) = true := by simpa using h0
      have H0 := hh_ h0; clear h0; go_wp2; go_ret; exact zk (by rw [Heq.out, Xn zH xs ys k x y Hxk.out Hyk.out, if_neg H0.out]) G2
    case hp' => trivial
   ·have hne : ((k : Int) == (ys.length : Int)) = true := by rw [beq_iff_eq]; omega
    go_wp2; go_ret; exact zk (by rw [Heq.out, WR zH xs ys k hlt u4_]) hg
  ·have Fin := hh_ (Kw zH xs ys k u4_ hk'); have hne1 : ((k : Int) == (xs.length : Int)) = true := by rw [beq_iff_eq]; omega
   by_cases hlt2 : k < ys.length
   ·have hne : ((k : Int) == (ys.length : Int)) = false := by rw [beq_eq_false_iff_ne]; omega
    go_wp2; go_ret; exact zk (by rw [Heq.out, Fin.out]; unfold XF; rw [if_pos u4_]) hg
   ·have hne : ((k : Int) == (ys.length : Int)) = true := by rw [beq_iff_eq]; omega
    go_wp2; go_ret; exact zk (by rw [Heq.out, Fin.out]; unfold XF; rw [if_neg u4_, if_neg u4_]) hg
theorem ZN (v : V) : (bare v).k = v.k := by
 unfold bare; split
 ·simp_all
 ·split <;> simp_all
theorem Zc (a b : V) (ha : RV a) (hb : RV b) : xT a b = zH a b := by
 unfold xT zH BD
 by_cases h1 : a.k < b.k
 ·have := ZN a; have hb' := ZN b; simp [this, hb', XF, h1]
 ·by_cases h2 : b.k < a.k
  ·have := ZN a; have hb' := ZN b; simp [this, hb', XF, h1, h2]
  ·have hk : a.k = b.k := by omega
   have hak := ha.kind
   by_cases h3 : b.k = 1
   ·simp [bare, hk, h3, XF, JF]
   ·by_cases h4 : b.k = 4
    ·simp [bare, hk, h4, XF]
    ·simp [bare, hk, h3, h4, XF, JF]; intro h; exact h.symm
theorem yr (a b : V) : zH b a = - zH a b := by
 unfold zH; rcases Int.lt_trichotomy a.k b.k with h | h | h
 ·rw [if_neg u4_, if_pos h, if_pos h]; rfl
 ·rw [h]; simp only [Int.lt_irrefl, if_false]
  by_cases h1 : b.k = 1
  ·simp [h1]
  ·by_cases h4 : b.k = 4
   ·simp [h4, R5 a.s b.s]
   ·simp only [h1, h4, if_false]
    repeat' split
    all_goals omega
 ·rw [if_pos h, if_neg u4_, if_pos h]
theorem qV (a b : V) : zH a b = -1 \/ zH a b = 0 \/ zH a b = 1 := by
 unfold zH; have := Q9 a.s b.s
 repeat' split
 all_goals omega
theorem Lw {a b : V} (h : a.k < b.k) : zH a b = -1 := by unfold zH; rw [if_pos h]
theorem Lu {a b : V} (h : b.k < a.k) : zH a b = 1 := by unfold zH; rw [if_neg u4_, if_pos h]
theorem Z5 {a b : V} (h : a.k = b.k) : zH a b = if a.k = 1 then 0 else if a.k = 4 then kp a.s b.s else if a.n < b.n then -1 else if b.n < a.n then 1 else 0 := by
 unfold zH; rw [if_neg u4_, if_neg u4_]
theorem YS (a b c : V) : zH a b <= 0 -> zH b c <= 0 -> zH a c <= 0 := by
 intro h1 h2; rcases Int.lt_trichotomy a.k b.k with h | h | h
 ·rcases Int.lt_trichotomy b.k c.k with k | k | k
  ·rw [Lw u4_]; omega
  ·rw [Lw u4_]; omega
  ·rw [Lu k] at h2; omega
 ·rcases Int.lt_trichotomy b.k c.k with k | k | k
  ·rw [Lw u4_]; omega
  ·rw [Z5 h] at h1; rw [Z5 k] at h2; rw [Z5 (h.trans k)]; rw [h] at h1 ⊢
   by_cases e1 : b.k = 1
   ·simp [e1]
   ·by_cases e4 : b.k = 4
    ·simp only [e4] at h1 h2 ⊢; exact NT a.s b.s c.s h1 h2
    ·simp only [e1, e4, if_false] at h1 h2 ⊢
     repeat' split at h1
     all_goals repeat' split at h2
     all_goals repeat' split
     all_goals omega
  ·rw [Lu k] at h2; omega
 ·rw [Lu h] at h1; omega
theorem SG (a b : V) (ha : RV a) (hb : RV b) : zH a b = 0 ↔ bare a = bare b := by
 have hak := ha.kind; have hbk := hb.kind; have he := Ri a.s b.s; obtain ⟨ak, an, at_⟩ := a; obtain ⟨bk, bn, bt⟩ := b; simp only at *; rcases hak with rfl | rfl | rfl | rfl <;> rcases hbk with rfl | rfl | rfl | rfl <;> simp [zH, bare, he]
 all_goals
  repeat' split
  all_goals omega
theorem XV (f : V -> V -> Int) (hf : ∀ a b, f a b = -1 \/ f a b = 0 \/ f a b = 1) : ∀ xs ys : List V, zC f xs ys = -1 \/ zC f xs ys = 0 \/ zC f xs ys = 1
 | [], [] => by simp [zC]
 | [], _ :: _ => by simp [zC]
 | _ :: _, [] => by simp [zC]
 | a :: l, b :: m => by
  unfold zC; split
  ·exact XV f hf l m
  ·exact hf a b
theorem yu (f : V -> V -> Int) (hf : ∀ a b, f b a = - f a b) : ∀ xs ys : List V, zC f ys xs = - zC f xs ys
 | [], [] => by simp [zC]
 | [], _ :: _ => by simp [zC]
 | _ :: _, [] => by simp [zC]
 | a :: l, b :: m => by
  have ih := yu f hf l m; have h := hf a b; unfold zC; rw [h]
  by_cases h0 : f a b = 0
  ·simp [h0, ih]
  ·rw [if_neg u4_, if_neg h0]
theorem yv : ∀ xs ys : List V, (∀ x ∈ xs, RV x) -> (∀ y ∈ ys, RV y) -> zC xT xs ys = zC zH xs ys
 | [], [], _, _ => rfl
 | [], _ :: _, _, _ => rfl
 | _ :: _, [], _, _ => rfl
 | a :: l, b :: m, h, k => by
  unfold zC; rw [Zc a b (h a u5_) (k b u5_), yv l m (fun x hx => h x uZ_) (fun y hy => k y u0_)]
end Go.Proofs.YtphaeahdmfapgaaGreat
namespace Go.Proofs.YtphaeahdmfapgaaGreat
open Go.ChangeShapes Go.WideShapes Go.ChangeAt Go.RowKit Go.Calm
set_option maxRecDepth 100000
section
variable {H : Type} {enc : TypeId × Value -> H} {P : Program}
theorem YG (hl : laidOutB P = true) {W W' : World} (hb : Below W.heap.size W W') {sp : Nat -> Bool} : ∀ {ts : List TypeId} {vs : List Value} {ds : List (DataW H)} {ps : List MemPlace},
  (∀ t ∈ ts, P.readableRec t = true /\ t < P.types.size) -> DataW.TrodAll enc P W 0 (fun _ => true) true ts vs ds ps -> (∀ p ∈ ps, p.block < W.heap.size) -> (∀ p ∈ ps, sp p.block = true) -> DataW.TrodAll enc P W' 0 sp true ts vs ds ps
 | [], [], [], _, _, h, _, _ => h
 | t :: ts, v :: vs, d :: ds, ps, hr, ⟨p, q, h1, h2, e⟩, hlt, hs => by
  subst e; refine ⟨p, q, WideElems.Trod_stays hl (hr t u5_).1 (hr t u5_).2 h1 (fun x hx => hb.same (hlt x (List.mem_append_left _ hx))) (fun x hx => hs x (List.mem_append_left _ hx)), ?_, rfl⟩; exact YG hl hb (fun t' ht' => hr t' (List.mem_cons_of_mem _ ht')) h2 (fun x hx => hlt x (List.mem_append_right _ hx)) (fun x hx => hs x (List.mem_append_right _ hx))
theorem UN {f : Func} {s : ChangeSpec} {W W' : World} {args : Array Value} {ds : List (DataW H)} {before : List MemPlace}
  (hvars : s.vars = []) (hfn : s.fn H (ds ++ []) = { results := [.lit (.bool true)], args := ds, vars := [] }) (tb : TypeId) (hres : f.resultTypes = #[tb]) (hbool : P.underlying tb = some .bool)
  (hl : laidOutB P = true) (hr : ∀ t ∈ f.params.toList, P.readableRec t = true /\ t < P.types.size)
  (hW : DataW.Whole enc P f.params.toList s.vars false W args.toList ds [] before) (hg : za W W') :
  s.post enc P f false true false false W args (.bool true) W' := by
 have hW' := hW; obtain ⟨p, q, hA, hV, rfl, hfz, hnd⟩ := hW
 have hq : q = [] := by
  rw [hvars] at hV; exact hV
 subst hq; have hlt : ∀ x ∈ p ++ [], x.block < W.heap.size := fun x hx => hW'.lt x hx
 have hlt' : ∀ x ∈ p, x.block < W.heap.size := fun x hx => hlt x uH_
 have hb := hg.below; refine ⟨ds, [], p ++ [], [], p, [], hW', ?_, ?_, ?_, ?_, fun h => by cases h⟩
 ·rw [hfn, hres]; exact trodAll_cons_mk (shut_bool hbool _) trodAll_mk0
 ·rw [hfn]; exact YG hl hb hr hA hlt' (fun x hx => by simpa using hlt' x hx)
 ·rw [hvars, hfn]; exact rfl
 ·exact World.keptBut_mono (fun x hx => ⟨hx, .inr uH_⟩) (hb.frame (· ∈ p ++ []))
end
section
variable {H : Type} {enc : TypeId × Value -> H} {w : World} {base : Nat} {spare : Nat -> Bool} {held : Bool}
def jh (n : Int) : Prop := -9223372036854775808 <= n /\ n <= 9223372036854775807
theorem Ya {n : Int} (h : (Lit.int .i64 n).wf = true) : jh n := by
 simpa [Lit.wf, IntKind.min, IntKind.max, IntKind.signed, IntKind.bits, jh] using h
structure VB (v : V) : Prop where
 k : jh v.k
 n : jh v.n
 s : v.s.size <= maxLen
theorem KI {fuel : Nat} {cs : List Value} {x : DataW H × List MemPlace} (h : DataW.trod enc Tryz.prog w base spare held fuel 24 cs = some x) :
  ∃ v : V, cs = [.int .i64 v.k, .int .i64 v.n, .string v.s] /\ VB v := by
 obtain ⟨xs, n, _, _, hlen, hxl, hf⟩ := DataW.trod_struct Tryz.underlying24 h; have h3 : cs.length = 3 := by rw [hlen]; kernel_rfl
 match cs, h3 with
 | [a, b, c], _ =>
  have f0 := hf 0 _ rfl; have f1 := hf 1 _ rfl; have f2 := hf 2 _ rfl; have g : ∀ i, i < 3 -> ∃ y, xs[i]? = some y := fun i hi => ⟨xs[i]' uv_, qQ_ _⟩
  obtain ⟨y0, e0⟩ := g 0 u4_; obtain ⟨y1, e1⟩ := g 1 u4_; obtain ⟨y2, e2⟩ := g 2 u4_; rw [e0] at f0; rw [e1] at f1; rw [e2] at f2; obtain ⟨k, hk, _, wk⟩ := DataW.trod_int Tryz.underlying3 f0; obtain ⟨m, hm, _, wm⟩ := DataW.trod_int Tryz.underlying2 f1; obtain ⟨s, hs, _, ws⟩ := DataW.trod_string Tryz.underlying9 f2; have c0 : Tryz.prog.cellsOf 3 = 1 := by kernel_rfl
  have c1 : Tryz.prog.cellsOf 2 = 1 := by kernel_rfl
  have c2 : Tryz.prog.cellsOf 9 = 1 := by kernel_rfl
  simp [c0] at hk; simp [c1] at hm; simp [c2] at hs; exact ⟨⟨k, m, s⟩, by simp [hk, hm, hs], ⟨Ya wk, Ya wm, ws⟩⟩
theorem Qj {w : World} {a : Addr} {j : Nat} {v : Value} (h : w.cell? (a.add j) = some v) : a.spot = none \/ j ≠ 0 := by
 by_cases hj : j = 0
 ·subst hj; left; unfold Addr.add at h; simp only [if_true] at h; unfold World.cell? at h; split at h
  ·split at h
   ·cases h
   ·rename_i hs; simpa using hs
  ·cases h
 ·exact .inr hj
theorem kz {g o n : Nat} : (Addr.mk g o none).add n = ⟨g, o + n, none⟩ := by
 unfold Addr.add; split
 ·rename_i h; subst h; rfl
 ·rfl
theorem qG {t e : TypeId} {fuel c : Nat} {cs : List Value} {x : DataW H × List MemPlace} (ht : Tryz.prog.underlying t = some (.slice e)) (hc : Tryz.prog.cellsOf e = c) (hc0 : 0 < c) (h : DataW.trod enc Tryz.prog w base spare held fuel t cs = some x) :
  ∃ (A : Option Addr) (len cap n : Nat) (D : Nat -> DataW H × List MemPlace), cs = [.slice A len cap] /\ len <= maxLen /\ len <= cap /\ ∀ i, i < len -> ∃ g o ys, A = some ⟨g, o, none⟩ /\ ys.length = c /\ (∀ j y, ys[j]? = some y -> w.cell? ⟨g, o + i * c + j, none⟩ = some y) /\ DataW.trod enc Tryz.prog w base spare held n e ys = some (D i) := by
 rcases DataW.trod_slice ht h with ⟨h0, _⟩ | ⟨a, len, cap, elems, rest, n, _, hcs, _, hb, hl, hm, hlen, hel, _, _⟩
 ·exact ⟨none, 0, 0, 0, fun _ => (.nil, []), h0, Nat.zero_le _, Nat.le_refl _, fun i hi => by omega⟩
 ·refine ⟨some a, len, cap, n, fun i => elems.getD i (.nil, []), hcs, by omega, hl, fun i hi => ?_⟩
  have get : ∀ i, i < len -> ∃ ys, w.cells? base (a.add (i * c)) c = some ys /\ DataW.trod enc Tryz.prog w base spare held n e ys = some (elems.getD i (.nil, [])) := fun i hi => ws_
  have hsp : a.spot = none := wl_
  obtain ⟨g, o, sp⟩ := a; simp only at hsp; subst hsp; obtain ⟨ys, hcell, hd⟩ := get i hi; obtain ⟨_, hyl, hat⟩ := World.cells?_some hcell; refine ⟨g, o, ys, rfl, hyl, fun j y hy => ?_, hd⟩; have hj : j < c := by rw [<- hyl]; exact (qQ9.1 hy).1
  have := hat j hj; rw [hy, kz, kz] at this; exact this
theorem PO {fuel : Nat} {cs : List Value} {x : DataW H × List MemPlace} (h : DataW.trod enc Tryz.prog w base spare held fuel 57 cs = some x) :
  ∃ (A : Option Addr) (xs : List V) (cap : Nat), cs = [.slice A xs.length cap] /\ yS w A xs /\ xs.length <= maxLen /\ ∀ v ∈ xs, VB v := by
 obtain ⟨A, len, cap, n, D, hcs, hl, _, hi⟩ := qG (c := 3) Tryz.underlying57 uY_ u4_ h
 have pick : ∀ i, i < len -> ∃ v : V, VB v /\ ∃ g o, A = some ⟨g, o, none⟩ /\ XE w g (o + i * 3) v := fun i hlt => by
  obtain ⟨g, o, ys, hA, hyl, hat, hd⟩ := hi i hlt; obtain ⟨v, hv, hb⟩ := KI hd; subst hv; exact ⟨v, hb, g, o, hA, hat 0 _ rfl, hat 1 _ rfl, hat 2 _ rfl⟩
 have build : ∀ m, m <= len -> ∃ xs : List V, xs.length = m /\ (∀ v ∈ xs, VB v) /\ yS w A xs := wg_
 obtain ⟨xs, hxl, hxb, hxs⟩ := build len (Nat.le_refl _); exact ⟨A, xs, cap, by rw [hcs, hxl], hxs, by omega, hxb⟩
end
