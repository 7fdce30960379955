/-
 Joined texts of this claim: Vals, Vals2, Vals3, Sl, Rows1, Ord, Read. What each proves its own head says; no condition beside those that each theorem names.
-/
import Derived.Test.YtcaedcpjdmlilaaGreatProg
import Derived.Test.YtcaedcpjdmlilaaGreatGA
import Derived.WalkKit
import Derived.WalkSpells
import Derived.WalkLawsBesides
import Derived.Lib.Bytealg
import Derived.Handy
import Derived.BigGuardPart
import Derived.Lib.Hide
import Derived.Test.YtcaedcpjdmlilaaGreatRows
import Derived.ProofKit
import Derived.OpenShut
set_option maxRecDepth 100000
set_option maxHeartbeats 1000000
namespace Go.Proofs.YtcaedcpjdmlilaaGreat
open Go.RowKit Go.Calm
structure V where
 k : Int
 n : Int
 s : ByteArray
@[go_sem] abbrev V.val (v : V) : Value := .agg #[.int .i64 v.k, .int .i64 v.n, .string v.s]
abbrev es : ByteArray := ⟨#[]⟩
def bare (v : V) : V := if v.k = 1 then ⟨1, 0, es⟩ else if v.k = 4 then ⟨4, 0, v.s⟩ else ⟨v.k, v.n, es⟩
theorem kX (w : World) : Calls Tryz.prog 173 #[] w fun e w' => e = .returned (V.val ⟨1, 0, es⟩) /\ za w w' := by
 go_enter Tryz.func173, Tryz.ntmps173; go_wp2; exact bodyPost_ret (by simp [results, Tryz.results173, go_sem]) rfl ⟨rfl, (za.refl _).al _⟩
theorem ZU (v : V) (w : World) : Calls Tryz.prog 132 #[v.val] w fun e w' => e = .returned (bare v).val /\ za w w' := by
 unfold V.val
 by_cases h1 : v.k = 1
 ·have hd1 : (v.k == 1) = true := by simpa using h1
  have e1 : bare v = ⟨1, 0, es⟩ := by simp [bare, h1]
  rw [e1]; clear e1 h1; go_enter Tryz.func132, Tryz.ntmps132
  go_wp2_with (go_at_call 173; refine (kX _).mono ?_; rintro e w' ⟨rfl, hg⟩; obtain ⟨hc, hf, _⟩ := hg.rules)
  exact bodyPost_ret (by simp [results, Tryz.results132, go_sem, hc]) rfl ⟨rfl, (((((za.refl _).al _).al _).trans hg).set (by simp) _).set (by simp) _ |>.set (by simp) _⟩
 ·have hd1 : (v.k == 1) = false := by simpa using h1
  by_cases h4 : v.k = 4
  ·have hd4 : (v.k == 4) = true := by simpa using h4
   have e1 : bare v = ⟨4, 0, v.s⟩ := by simp [bare, h4]
   rw [e1]; clear e1 h1 h4; go_enter Tryz.func132, Tryz.ntmps132; go_wp2; exact bodyPost_ret (by simp [results, Tryz.results132, go_sem]) rfl ⟨rfl, ((za.refl _).al _).al _⟩
  ·have hd4 : (v.k == 4) = false := by simpa using h4
   have e1 : bare v = ⟨v.k, v.n, es⟩ := by simp [bare, h1, h4]
   rw [e1]; clear e1 h1 h4; go_enter Tryz.func132, Tryz.ntmps132; go_wp2; exact bodyPost_ret (by simp [results, Tryz.results132, go_sem]) rfl ⟨rfl, ((za.refl _).al _).al _⟩
def Zu (x y : Int) : Int := if x < y then -1 else if y < x then 1 else 0
theorem nan (x : Int) (w : World) : Calls Tryz.prog 169 #[.int .i64 x] w fun e w' => e = .returned (.bool false) /\ w = w' := by
 go_enter Tryz.func169, Tryz.ntmps169; go_wp2; go_ret; exact ⟨by simp, rfl⟩
theorem zbP (x : Int) (w : World) : Calls Tryz.prog 202 #[.int .i64 x] w fun e w' => e = .returned (.bool false) /\ w = w' := by
 go_enter Tryz.func202, Tryz.ntmps202; go_wp2; go_ret; exact ⟨by simp, rfl⟩
theorem Tg (x y : Int) (w : World) : Calls Tryz.prog 127 #[.int .i64 x, .int .i64 y] w fun e w' => e = .returned (.int .i64 (Zu x y)) /\ w = w' := by
 unfold Zu; go_enter Tryz.func127, Tryz.ntmps127
 go_wp2_with (go_at_call 169; refine (nan _ _).mono ?_; rintro e w' ⟨rfl, rfl⟩)
 all_goals go_ret
 all_goals (refine ⟨?_, rfl⟩; simp [*]; try omega)
theorem Ur (x y : Int) (w : World) : Calls Tryz.prog 167 #[.int .i64 x, .int .i64 y] w fun e w' => e = .returned (.int .i64 (Zu x y)) /\ w = w' := by
 unfold Zu; go_enter Tryz.func167, Tryz.ntmps167
 go_wp2_with (go_at_call 202; refine (zbP _ _).mono ?_; rintro e w' ⟨rfl, rfl⟩)
 all_goals go_ret
 all_goals (refine ⟨?_, rfl⟩; simp [*]; try omega)
def El (x y z : Int) : Int := if x ≠ 0 then x else if y ≠ 0 then y else z
theorem C4 (x y z : Int) (g c : Nat) (w : World) (h0 : w.cell? ⟨g, 0, none⟩ = some (.int .i64 x)) (h1 : w.cell? ⟨g, 1, none⟩ = some (.int .i64 y)) (h2 : w.cell? ⟨g, 2, none⟩ = some (.int .i64 z)) :
  Calls Tryz.prog 166 #[.slice (some ⟨g, 0, none⟩) 3 c] w fun e w' => e = .returned (.int .i64 (El x y z)) /\ w = w' := by
 unfold El
 by_cases hx : x = 0
 ·have dx : (x != 0) = false := by simpa using hx
  rw [if_neg (by simpa using hx)]; clear hx
  by_cases hy : y = 0
  ·have dy : (y != 0) = false := by simpa using hy
   rw [if_neg (by simpa using hy)]; clear hy
   by_cases hz : z = 0
   ·have dz : (z != 0) = false := by simpa using hz
    subst hz; go_enter Tryz.func166, Tryz.ntmps166; go_wp2; refine wp_loop_rounds 4 ?_
    iterate 4 (rw [rounds_succ]; go_wp2)
    go_ret; exact ⟨rfl, rfl⟩
   ·have dz : (z != 0) = true := by simpa using hz
    clear hz; go_enter Tryz.func166, Tryz.ntmps166; go_wp2; refine wp_loop_rounds 3 ?_
    iterate 3 (rw [rounds_succ]; go_wp2)
    go_ret; exact ⟨rfl, rfl⟩
  ·have dy : (y != 0) = true := by simpa using hy
   rw [if_pos (by simpa using hy)]; clear hy; go_enter Tryz.func166, Tryz.ntmps166; go_wp2; refine wp_loop_rounds 3 ?_
   iterate 2 (rw [rounds_succ]; go_wp2)
   go_ret; exact ⟨rfl, rfl⟩
 ·have dx : (x != 0) = true := by simpa using hx
  rw [if_pos (by simpa using hx)]; clear hx; go_enter Tryz.func166, Tryz.ntmps166; go_wp2; refine wp_loop_rounds 3 ?_
  iterate 1 (rw [rounds_succ]; go_wp2)
  go_ret; exact ⟨rfl, rfl⟩
theorem Uq (a b : ByteArray) (w : World) : Calls Tryz.prog 203 #[.string a, .string b] w fun e w' => e = .returned (.int .i64 (kK a b)) /\ w = w' := by
 unfold kK; go_enter Tryz.func203, Tryz.ntmps203; go_wp2; rw [run_callFunc_extern Tryz.func223 (by kernel_rfl) (by kernel_rfl) (by kernel_rfl) (e := Extern.BytealgCompare.compare) (by kernel_rfl), Lib.run_compareString]; simp only [Result.andThen]; rw [Oper.upon_value]; go_wp2; go_ret; exact ⟨rfl, rfl⟩
theorem EJ (a b : ByteArray) (w : World) : Calls Tryz.prog 168 #[.string a, .string b] w fun e w' => e = .returned (.int .i64 (kK a b)) /\ w = w' := by
 go_enter Tryz.func168, Tryz.ntmps168
 go_wp2_with (go_at_call 203; refine (Uq _ _ _).mono ?_; rintro e w' ⟨rfl, rfl⟩)
 go_ret; exact ⟨rfl, rfl⟩
def x7 (a b : V) : Int := El (Zu (bare a).k (bare b).k) (Zu (bare a).n (bare b).n) (kK (bare a).s (bare b).s)
theorem jo (a b : V) (w : World) : Calls Tryz.prog 126 #[a.val, b.val] w fun e w' => e = .returned (.int .i64 (x7 a b)) /\ za w w' := by
 unfold V.val; go_enter Tryz.func126, Tryz.ntmps126; go_wp2; refine zc (fun W => zb W w.heap.size 24 #[.int .i64 a.k, .int .i64 a.n, .string a.s] /\ zb W (w.heap.size + 1) 24 #[.int .i64 b.k, .int .i64 b.n, .string b.s] /\ za w W) ⟨(zb.new _ _ _).al _, zb.new' _ _ _ (by simp), ((za.refl _).al _).al _⟩ ?_; rintro W ⟨A1, A2, G1⟩; apply wp_region_calm 4 (by kernel_rfl) (by kernel_rfl)
 case h' =>
  intro Q0 hQ0; simp only [List.take_succ_cons, List.take_zero]
  repeat (
   apply xN
   case h1 =>
    intro w1 hw1 hF K hK; obtain ⟨c1, f1⟩ := (zb.grow A1 hw1).rules; obtain ⟨c2, f2⟩ := (zb.grow A2 hw1).rules; go_simp
    first
     | exact hK _ (za.refl _)
     | (go_at_call 132; (with_reducible refine (ZU _ _).mono ?_); rintro e w' ⟨rfl, hg⟩; exact ⟨_, rfl, hK _ hg⟩)
   intro K hK; go_simp; apply hK
   clear hK K)
  refine calm_nil ?_; intro w1 hw1 hF; clear hF; have B1 := zb.grow A1 hw1; have B2 := zb.grow A2 hw1; obtain ⟨c1, f1⟩ := B1.rules; obtain ⟨c2, f2⟩ := B2.rules; apply hQ0; clear hQ0; simp only [List.drop_succ_cons, List.drop_zero]; go_wp2; clear c1 f1 c2 f2
  refine zc (fun W => zb W w.heap.size 24 #[.int .i64 (bare a).k, .int .i64 (bare a).n, .string (bare a).s] /\ zb W (w.heap.size + 1) 24 #[.int .i64 (bare b).k, .int .i64 (bare b).n, .string (bare b).s] /\ za w W)
   ⟨(((((B1.set 0 _).set 1 _).set 2 _).far (by simp) _).far (by simp) _).far (by simp) _, (((((B2.far (by simp) _).far (by simp) _).far (by simp) _).set 0 _).set 1 _).set 2 _, ((((((G1.trans (hw1)).set (by simp) _).set (by simp) _).set (by simp) _).set (by simp) _).set (by simp) _).set (by simp) _⟩ ?_
  clear G1 A1 A2 B1 B2 hw1 w1 Q0 W; rintro W ⟨A1, A2, G1⟩; apply wp_region_calm 18 (by kernel_rfl) (by kernel_rfl)
  case h' =>
   intro Q0 hQ0; simp only [List.take_succ_cons, List.take_zero]
   repeat (
    apply xN
    case h1 =>
     intro w1 hw1 hF K hK; obtain ⟨c1, f1⟩ := (zb.grow A1 hw1).rules; obtain ⟨c2, f2⟩ := (zb.grow A2 hw1).rules; go_simp
     first
      | exact hK _ (za.refl _)
      | (go_at_call 127; (with_reducible refine (Tg _ _ _).mono ?_); rintro e w' ⟨rfl, rfl⟩; exact ⟨_, rfl, hK _ (za.refl _)⟩)
      | (go_at_call 167; (with_reducible refine (Ur _ _ _).mono ?_); rintro e w' ⟨rfl, rfl⟩; exact ⟨_, rfl, hK _ (za.refl _)⟩)
      | (go_at_call 168; (with_reducible refine (EJ _ _ _).mono ?_); rintro e w' ⟨rfl, rfl⟩; exact ⟨_, rfl, hK _ (za.refl _)⟩)
    intro K hK; go_simp; apply hK
    clear hK K)
   apply YC (D := fun v w => ∃ g, v = .slice (some ⟨g, 0, none⟩) 3 3 /\ zb w g 3 #[.int .i64 (Zu (bare a).k (bare b).k), .int .i64 (Zu (bare a).n (bare b).n), .int .i64 (kK (bare a).s (bare b).s)])
   case h1 =>
    intro w1 hw1 hF K hK; go_simp; exact hK _ _ ((za.refl _).al _) ⟨_, rfl, zb.new _ _ _⟩
   intro v K hK; go_simp; apply hK; clear hK K; apply xN
   case h1 =>
    intro w1 hw1 hF K hK; obtain ⟨g, rfl, hg⟩ := hF _ (List.mem_cons_self ..) ⟨_, rfl, by simp [Oper.looksAt, Op.operands, Call.operands]⟩; go_simp
    go_at_call 166
    (with_reducible refine (C4 _ _ _ _ _ _ (hg.cells rfl) (hg.cells rfl) (hg.cells rfl)).mono ?_)
    rintro e w' ⟨rfl, rfl⟩; exact ⟨_, rfl, hK _ (za.refl _)⟩
   intro K hK; go_simp; apply hK; clear hK K; apply xN
   case h1 =>
    intro w1 hw1 hF K hK; go_simp; exact hK _ (za.refl _)
   intro K hK; go_simp; apply hK; clear hK K; refine calm_nil ?_; intro w1 hw1 hF; clear hF; apply hQ0; clear hQ0; simp only [List.drop_succ_cons, List.drop_zero]; go_wp2; go_ret; exact ⟨rfl, G1.trans hw1⟩
  case hp' => exact ⟨fun v w w' hg ⟨g, e, hb⟩ => ⟨g, e, hb.grow hg⟩, trivial⟩
 case hp' => trivial
def qG (b : Bool) : V := ⟨2, if b then 1 else 0, es⟩
theorem ZW (b : Bool) (w : World) : Calls Tryz.prog 187 #[.bool b] w fun e w' => e = .returned (qG b).val /\ za w w' := by
 cases b
 ·go_enter Tryz.func187, Tryz.ntmps187; go_wp2; exact bodyPost_ret (by simp [results, Tryz.results187, go_sem, qG]) rfl ⟨rfl, (by with_reducible repeat (first | exact za.refl _ | assumption | refine za.set ?_ (by simp <;> omega) _ | refine za.al ?_ _ | refine za.drew ?_ | refine za.drewN ?_ _ | refine za.trans ?_ (by assumption)))⟩
 ·go_enter Tryz.func187, Tryz.ntmps187; go_wp2; exact bodyPost_ret (by simp [results, Tryz.results187, go_sem, qG]) rfl ⟨rfl, (by with_reducible repeat (first | exact za.refl _ | assumption | refine za.set ?_ (by simp <;> omega) _ | refine za.al ?_ _ | refine za.drew ?_ | refine za.drewN ?_ _ | refine za.trans ?_ (by assumption)))⟩
def xH (n : Int) : V := if -1000000000000000 <= n /\ n <= 1000000000000000 then ⟨3, n, es⟩ else ⟨1, 0, es⟩
theorem Xv (n : Int) (w : World) : Calls Tryz.prog 210 #[.int .i64 n] w fun e w' => e = .returned (xH n).val /\ za w w' := by
 by_cases h1 : 1000000000000000 < n
 ·have e1 : xH n = ⟨1, 0, es⟩ := by unfold xH; rw [if_neg (by omega)]
  rw [e1]; clear e1; go_enter Tryz.func210, Tryz.ntmps210
  go_wp2_with ((go_at_call 173; ((with_reducible refine (kX _).mono ?_); rintro e w' ⟨rfl, hg⟩; obtain ⟨hc, hf, hz⟩ := hg.rules)))
  exact bodyPost_ret (by simp [results, Tryz.results210, go_sem, hc]) rfl ⟨rfl, (by with_reducible repeat (first | exact za.refl _ | assumption | refine za.set ?_ (by simp <;> omega) _ | refine za.al ?_ _ | refine za.drew ?_ | refine za.drewN ?_ _ | refine za.trans ?_ (by assumption)))⟩
 ·by_cases h2 : n < -1000000000000000
  ·have e1 : xH n = ⟨1, 0, es⟩ := by unfold xH; rw [if_neg (by omega)]
   rw [e1]; clear e1; go_enter Tryz.func210, Tryz.ntmps210
   go_wp2_with ((go_at_call 173; ((with_reducible refine (kX _).mono ?_); rintro e w' ⟨rfl, hg⟩; obtain ⟨hc, hf, hz⟩ := hg.rules)))
   exact bodyPost_ret (by simp [results, Tryz.results210, go_sem, hc]) rfl ⟨rfl, (by with_reducible repeat (first | exact za.refl _ | assumption | refine za.set ?_ (by simp <;> omega) _ | refine za.al ?_ _ | refine za.drew ?_ | refine za.drewN ?_ _ | refine za.trans ?_ (by assumption)))⟩
  ·have e1 : xH n = ⟨3, n, es⟩ := by unfold xH; rw [if_pos (by omega)]
   rw [e1]; clear e1; go_enter Tryz.func210, Tryz.ntmps210; go_wp2; exact bodyPost_ret (by simp [results, Tryz.results210, go_sem]) rfl ⟨rfl, (by with_reducible repeat (first | exact za.refl _ | assumption | refine za.set ?_ (by simp <;> omega) _ | refine za.al ?_ _ | refine za.drew ?_ | refine za.drewN ?_ _ | refine za.trans ?_ (by assumption)))⟩
def yx (v : V) : Int := if v.k = 2 then 2 * v.n else 1
def RB (v : V) : Prop := v.k = 2 -> 0 <= v.n /\ v.n <= 1
theorem Xc (v : V) (h : RB v) (w : World) : Calls Tryz.prog 180 #[v.val] w fun e w' => e = .returned (.int .i64 (yx v)) /\ za w w' := by
 unfold V.val
 by_cases h1 : v.k = 2
 ·have hd1 : (v.k != 2) = false := by simpa using h1
  have e1 : yx v = 2 * v.n := by simp [yx, h1]
  obtain ⟨h0, h2⟩ := h h1; rw [e1]; clear e1 h1; go_enter Tryz.func180, Tryz.ntmps180; go_wp2; go_ret; exact ⟨rfl, (za.refl _).al _⟩
 ·have hd1 : (v.k != 2) = true := by simpa using h1
  have e1 : yx v = 1 := by simp [yx, h1]
  rw [e1]; clear e1 h1; go_enter Tryz.func180, Tryz.ntmps180; go_wp2; go_ret; exact ⟨rfl, (za.refl _).al _⟩
def y6 (n : Int) : V := if n = 1 then ⟨1, 0, es⟩ else qG (n == 2)
theorem ZJ (n : Int) (w : World) : Calls Tryz.prog 209 #[.int .i64 n] w fun e w' => e = .returned (y6 n).val /\ za w w' := by
 by_cases h1 : n = 1
 ·have hd1 : (n == 1) = true := by simpa using h1
  have e1 : y6 n = ⟨1, 0, es⟩ := by simp [y6, h1]
  rw [e1]; clear e1 h1; go_enter Tryz.func209, Tryz.ntmps209
  go_wp2_with ((go_at_call 173; ((with_reducible refine (kX _).mono ?_); rintro e w' ⟨rfl, hg⟩; obtain ⟨hc, hf, hz⟩ := hg.rules)))
  exact bodyPost_ret (by simp [results, Tryz.results209, go_sem, hc]) rfl ⟨rfl, (by with_reducible repeat (first | exact za.refl _ | assumption | refine za.set ?_ (by simp <;> omega) _ | refine za.al ?_ _ | refine za.drew ?_ | refine za.drewN ?_ _ | refine za.trans ?_ (by assumption)))⟩
 ·have hd1 : (n == 1) = false := by simpa using h1
  have e1 : y6 n = qG (n == 2) := by simp [y6, h1]
  rw [e1]; clear e1 h1; go_enter Tryz.func209, Tryz.ntmps209
  go_wp2_with ((go_at_call 187; ((with_reducible refine (ZW _ _).mono ?_); rintro e w' ⟨rfl, hg⟩; obtain ⟨hc, hf, hz⟩ := hg.rules)))
  exact bodyPost_ret (by simp [results, Tryz.results209, go_sem, hc]) rfl ⟨rfl, (by with_reducible repeat (first | exact za.refl _ | assumption | refine za.set ?_ (by simp <;> omega) _ | refine za.al ?_ _ | refine za.drew ?_ | refine za.drewN ?_ _ | refine za.trans ?_ (by assumption)))⟩
def jU (a b : V) : Bool := decide (a.k = b.k /\ a.k ≠ 1)
theorem Yy (a b : V) (w : World) : Calls Tryz.prog 225 #[a.val, b.val] w fun e w' => e = .returned (.bool (jU a b)) /\ za w w' := by
 unfold V.val
 by_cases h1 : a.k = b.k
 ·have hd1 : (a.k == b.k) = true := by simpa using h1
  by_cases h2 : b.k = 1
  ·have hd2 : (b.k != 1) = false := by simpa using h2
   have hd3 : (a.k != 1) = false := by simpa [h1] using h2
   have e1 : jU a b = false := by simp [jU, h1, h2]
   rw [e1]; clear e1 h1 h2; go_enter Tryz.func225, Tryz.ntmps225; go_wp2; go_ret; exact ⟨rfl, (by with_reducible repeat (first | exact za.refl _ | assumption | refine za.set ?_ (by simp <;> omega) _ | refine za.al ?_ _ | refine za.drew ?_ | refine za.drewN ?_ _ | refine za.trans ?_ (by assumption)))⟩
  ·have hd2 : (b.k != 1) = true := by simpa using h2
   have hd3 : (a.k != 1) = true := by simpa [h1] using h2
   have e1 : jU a b = true := by simp [jU, h1, h2]
   rw [e1]; clear e1 h1 h2; go_enter Tryz.func225, Tryz.ntmps225; go_wp2; go_ret; exact ⟨rfl, (by with_reducible repeat (first | exact za.refl _ | assumption | refine za.set ?_ (by simp <;> omega) _ | refine za.al ?_ _ | refine za.drew ?_ | refine za.drewN ?_ _ | refine za.trans ?_ (by assumption)))⟩
 ·have hd1 : (a.k == b.k) = false := by simpa using h1
  have e1 : jU a b = false := by simp [jU, h1]
  rw [e1]; clear e1 h1; go_enter Tryz.func225, Tryz.ntmps225; go_wp2; go_ret; exact ⟨rfl, (by with_reducible repeat (first | exact za.refl _ | assumption | refine za.set ?_ (by simp <;> omega) _ | refine za.al ?_ _ | refine za.drew ?_ | refine za.drewN ?_ _ | refine za.trans ?_ (by assumption)))⟩
theorem QM (v : V) (h : RB v) (w : World) : Calls Tryz.prog 146 #[v.val] w fun e w' => e = .returned (.bool (yx v == 2)) /\ za w w' := by
 unfold V.val; go_enter Tryz.func146, Tryz.ntmps146
 go_wp2_with ((go_at_call 180; ((with_reducible refine (Xc v h _).mono ?_); rintro e w' ⟨rfl, hg⟩; obtain ⟨hc, hf, hz⟩ := hg.rules)))
 go_ret; exact ⟨rfl, ((za.refl _).al _).trans hg⟩
theorem QF (v : V) (h : RB v) : 0 <= yx v /\ yx v <= 2 := by
 unfold yx; split
 ·rename_i hk; have := h hk; omega
 ·omega
theorem FC (v : V) (h : RB v) (w : World) : Calls Tryz.prog 182 #[v.val] w fun e w' => e = .returned (y6 (2 - yx v)).val /\ za w w' := by
 obtain ⟨hr1, hr2⟩ := QF v h; unfold V.val; go_enter Tryz.func182, Tryz.ntmps182
 go_wp2_with (first | (go_at_call 180; ((with_reducible refine (Xc v h _).mono ?_); rintro e w' ⟨rfl, hg⟩; obtain ⟨hc, hf, hz⟩ := hg.rules)) | (go_at_call 209; ((with_reducible refine (ZJ _ _).mono ?_); rintro e w2' ⟨rfl, hg2⟩; replace hg := hg.trans hg2; clear hg2 hc hf hz; obtain ⟨hc, hf, hz⟩ := hg.rules)))
 exact bodyPost_ret (by simp [results, Tryz.results182, go_sem, hc]) rfl ⟨rfl, (by with_reducible repeat (first | exact za.refl _ | assumption | refine za.set ?_ (by simp <;> omega) _ | refine za.al ?_ _ | refine za.drew ?_ | refine za.drewN ?_ _ | refine za.trans ?_ (by assumption)))⟩
def zbO (x y : Int) : Int := if y < x then y else x
def zbN (x y : Int) : Int := if x < y then y else x
def Rz (a b : V) : V := y6 (zbO (yx a) (yx b))
def orV (a b : V) : V := y6 (zbN (yx a) (yx b))
def WX (a : V) : V := y6 (2 - yx a)
theorem EA (a b : V) (ha : RB a) (hb : RB b) (w : World) : Calls Tryz.prog 183 #[a.val, b.val] w fun e w' => e = .returned (Rz a b).val /\ za w w' := by
 obtain ⟨ra1, ra2⟩ := QF a ha; obtain ⟨rb1, rb2⟩ := QF b hb; unfold V.val; have em : (if yx b < yx a then yx b else yx a) = zbO (yx a) (yx b) := rfl; go_enter Tryz.func183, Tryz.ntmps183; go_wp2
 refine zc (fun W => zb W w.heap.size 24 #[.int .i64 a.k, .int .i64 a.n, .string a.s] /\ zb W (w.heap.size + 1) 24 #[.int .i64 b.k, .int .i64 b.n, .string b.s] /\ zb W (w.heap.size + 2) 24 #[.int .i64 0, .int .i64 0, .string es] /\ za w W)
  ⟨((zb.new _ _ _).al _).al _, (zb.new' _ _ _ (by simp)).al _, zb.new' _ _ _ (by simp), (((za.refl _).al _).al _).al _⟩ ?_
 rintro W ⟨A1, A2, A3, G1⟩; apply wp_region_calm 6 (by kernel_rfl) (by kernel_rfl)
 case h' =>
  intro Q0 hQ0; simp only [List.take_succ_cons, List.take_zero]
  repeat ((first | ((first | apply calm_p rfl | apply zg rfl rfl rfl); case h1 => (intro w1 hw1 hF K hK; obtain ⟨c1, f1⟩ := (zb.grow A1 hw1).rules; obtain ⟨c2, f2⟩ := (zb.grow A2 hw1).rules; go_simp; first | exact hK _ (za.refl _) | (go_at_call 180; ((with_reducible refine (Xc a ha _).mono ?_); rintro e w' ⟨rfl, hg⟩; exact ⟨_, rfl, hK _ hg⟩)) | (go_at_call 180; ((with_reducible refine (Xc b hb _).mono ?_); rintro e w' ⟨rfl, hg⟩; exact ⟨_, rfl, hK _ hg⟩)) | (go_at_call 209; ((with_reducible refine (ZJ _ _).mono ?_); rintro e w' ⟨rfl, hg⟩; exact ⟨_, rfl, hK _ hg⟩)))) | apply ze rfl rfl rfl rfl); intro K hK; go_simp; apply hK; clear hK K)
  refine calm_nil ?_; intro w1 hw1 hF; apply hQ0; clear hQ0; simp only [List.drop_succ_cons, List.drop_zero]; clear hF; obtain ⟨c3, f3⟩ := (zb.grow A3 hw1).rules; go_wp2; exact bodyPost_ret (by simp [results, Tryz.results183, go_sem, c3, Rz]) rfl ⟨rfl, (by with_reducible repeat (first | exact za.refl _ | assumption | refine za.set ?_ (by simp <;> omega) _ | refine za.al ?_ _ | refine za.drew ?_ | refine za.drewN ?_ _ | refine za.trans ?_ (by assumption)))⟩
 case hp' => trivial
theorem za2 (a b : V) (ha : RB a) (hb : RB b) (w : World) : Calls Tryz.prog 184 #[a.val, b.val] w fun e w' => e = .returned (orV a b).val /\ za w w' := by
 obtain ⟨ra1, ra2⟩ := QF a ha; obtain ⟨rb1, rb2⟩ := QF b hb; unfold V.val; have em : (if yx a < yx b then yx b else yx a) = zbN (yx a) (yx b) := rfl; go_enter Tryz.func184, Tryz.ntmps184; go_wp2
 refine zc (fun W => zb W w.heap.size 24 #[.int .i64 a.k, .int .i64 a.n, .string a.s] /\ zb W (w.heap.size + 1) 24 #[.int .i64 b.k, .int .i64 b.n, .string b.s] /\ zb W (w.heap.size + 2) 24 #[.int .i64 0, .int .i64 0, .string es] /\ za w W)
  ⟨((zb.new _ _ _).al _).al _, (zb.new' _ _ _ (by simp)).al _, zb.new' _ _ _ (by simp), (((za.refl _).al _).al _).al _⟩ ?_
 rintro W ⟨A1, A2, A3, G1⟩; apply wp_region_calm 6 (by kernel_rfl) (by kernel_rfl)
 case h' =>
  intro Q0 hQ0; simp only [List.take_succ_cons, List.take_zero]
  repeat ((first | ((first | apply calm_p rfl | apply zg rfl rfl rfl); case h1 => (intro w1 hw1 hF K hK; obtain ⟨c1, f1⟩ := (zb.grow A1 hw1).rules; obtain ⟨c2, f2⟩ := (zb.grow A2 hw1).rules; go_simp; first | exact hK _ (za.refl _) | (go_at_call 180; ((with_reducible refine (Xc a ha _).mono ?_); rintro e w' ⟨rfl, hg⟩; exact ⟨_, rfl, hK _ hg⟩)) | (go_at_call 180; ((with_reducible refine (Xc b hb _).mono ?_); rintro e w' ⟨rfl, hg⟩; exact ⟨_, rfl, hK _ hg⟩)) | (go_at_call 209; ((with_reducible refine (ZJ _ _).mono ?_); rintro e w' ⟨rfl, hg⟩; exact ⟨_, rfl, hK _ hg⟩)))) | apply ze rfl rfl rfl rfl); intro K hK; go_simp; apply hK; clear hK K)
  refine calm_nil ?_; intro w1 hw1 hF; apply hQ0; clear hQ0; simp only [List.drop_succ_cons, List.drop_zero]; clear hF; obtain ⟨c3, f3⟩ := (zb.grow A3 hw1).rules; go_wp2; exact bodyPost_ret (by simp [results, Tryz.results184, go_sem, c3, orV]) rfl ⟨rfl, (by with_reducible repeat (first | exact za.refl _ | assumption | refine za.set ?_ (by simp <;> omega) _ | refine za.al ?_ _ | refine za.drew ?_ | refine za.drewN ?_ _ | refine za.trans ?_ (by assumption)))⟩
 case hp' => trivial
end Go.Proofs.YtcaedcpjdmlilaaGreat

namespace Go.Proofs.YtcaedcpjdmlilaaGreat
open Go.RowKit Go.Calm
set_option linter.unusedSimpArgs false
set_option linter.unusedVariables false
theorem zA {k : IntKind} {a b : Int} {P : Prop} (h : a = b) (p : P) : Ending.returned (.int k a) = .returned (.int k b) /\ P := ⟨by rw [h], p⟩
theorem xA {a b : Bool} {P : Prop} (h : a = b) (p : P) : Ending.returned (.bool a) = .returned (.bool b) /\ P := ⟨by rw [h], p⟩
def yG (v : V) : Int :=
 if v.k = 1 then 0
 else if v.k = 2 then (if v.n = 0 \/ v.n = 1 then 0 else 3)
 else if v.k = 3 then (if -1000000000000000 <= v.n /\ v.n <= 1000000000000000 then 0 else 3)
 else if v.k = 4 then (if v.s.size <= 60 then 0 else 4)
 else 1
theorem jb (v : V) (w : World) : Calls Tryz.prog 143 #[v.val] w fun e w' => e = .returned (.int .i64 (yG v)) /\ za w w' := by
 unfold V.val; go_enter Tryz.func143, Tryz.ntmps143; go_wp2
 all_goals
  go_ret; refine zA ?_ (by with_reducible repeat (first | exact za.refl _ | assumption | refine za.set ?_ (by simp <;> omega) _ | refine za.al ?_ _ | refine za.drew ?_ | refine za.drewN ?_ _ | refine za.trans ?_ (by assumption)))
  (try simp only [beq_iff_eq, beq_eq_false_iff_ne, bne_iff_ne, ne_eq, bne_eq_false_iff_eq, Bool.not_eq_true', Bool.not_eq_false', decide_eq_true_eq, decide_eq_false_iff_not] at *)
  unfold yG
  repeat' split
  all_goals first | rfl | omega
structure RV (v : V) : Prop where
 kind : v.k = 1 \/ v.k = 2 \/ v.k = 3 \/ v.k = 4
 bool : v.k = 2 -> v.n = 0 \/ v.n = 1
 int : v.k = 3 -> -1000000000000000 <= v.n /\ v.n <= 1000000000000000
 text : v.k = 4 -> v.s.size <= 60
theorem RV.of (v : V) : yG v = 0 ↔ RV v := by
 constructor
 ·intro h; unfold yG at h
  constructor
  ·split at h
   ·omega
   ·split at h
    ·omega
    ·split at h
     ·omega
     ·split at h
      ·omega
      ·omega
  ·intro hk; simp only [hk] at h; simp at h; omega
  ·intro hk; simp only [hk] at h; simp at h; omega
  ·intro hk; simp only [hk] at h; simp at h; exact h
 ·rintro ⟨h1, h2, h3, h4⟩; unfold yG
  repeat' split
  all_goals first | rfl | omega
theorem RV.rb {v : V} (h : RV v) : RB v := fun hk => by have := h.bool hk; omega
def zU (a b : V) : Int :=
 if a.k < b.k then -1 else if b.k < a.k then 1 else if a.k = 1 then 0
 else if a.k = 4 then kK a.s b.s
 else (if a.n < b.n then -1 else if b.n < a.n then 1 else 0)
def N9 (a b : V) : V := if jU a b then qG (x7 a b == 0) else ⟨1, 0, es⟩
def qu (a b : V) : V := if jU a b then qG (decide (x7 a b < 0)) else ⟨1, 0, es⟩
theorem By (a b : V) (w : World) : Calls Tryz.prog 211 #[a.val, b.val] w fun e w' => e = .returned (N9 a b).val /\ za w w' := by
 cases hal : jU a b
 ·have e : N9 a b = ⟨1, 0, es⟩ := by simp [N9, hal]
  rw [e]; clear e; unfold V.val; go_enter Tryz.func211, Tryz.ntmps211
  go_wp2_with (first | (go_at_call 225; ((with_reducible refine (Yy a b _).mono ?_); rintro e w' ⟨rfl, hg⟩; obtain ⟨hc, hf, hz⟩ := hg.rules)) | (go_at_call 173; ((with_reducible refine (kX _).mono ?_); rintro e w2' ⟨rfl, hg2⟩; replace hg := hg.trans hg2; clear hg2 hc hf hz; obtain ⟨hc, hf, hz⟩ := hg.rules)))
  exact bodyPost_ret (by simp [results, Tryz.results211, go_sem, hc]) rfl ⟨rfl, (by with_reducible repeat (first | exact za.refl _ | assumption | refine za.set ?_ (by simp <;> omega) _ | refine za.al ?_ _ | refine za.drew ?_ | refine za.drewN ?_ _ | refine za.trans ?_ (by assumption)))⟩
 ·have e : N9 a b = qG (x7 a b == 0) := by simp [N9, hal]
  rw [e]; clear e; unfold V.val; go_enter Tryz.func211, Tryz.ntmps211
  go_wp2_with (first | (go_at_call 225; ((with_reducible refine (Yy a b _).mono ?_); rintro e w' ⟨rfl, hg⟩; obtain ⟨hc, hf, hz⟩ := hg.rules)) | (go_at_call 126; ((with_reducible refine (jo a b _).mono ?_); rintro e w2' ⟨rfl, hg2⟩; replace hg := hg.trans hg2; clear hg2 hc hf hz; obtain ⟨hc, hf, hz⟩ := hg.rules)) | (go_at_call 187; ((with_reducible refine (ZW _ _).mono ?_); rintro e w2' ⟨rfl, hg2⟩; replace hg := hg.trans hg2; clear hg2 hc hf hz; obtain ⟨hc, hf, hz⟩ := hg.rules)))
  exact bodyPost_ret (by simp [results, Tryz.results211, go_sem, hc]) rfl ⟨rfl, (by with_reducible repeat (first | exact za.refl _ | assumption | refine za.set ?_ (by simp <;> omega) _ | refine za.al ?_ _ | refine za.drew ?_ | refine za.drewN ?_ _ | refine za.trans ?_ (by assumption)))⟩
theorem Qz (a b : V) (w : World) : Calls Tryz.prog 212 #[a.val, b.val] w fun e w' => e = .returned (qu a b).val /\ za w w' := by
 cases hal : jU a b
 ·have e : qu a b = ⟨1, 0, es⟩ := by simp [qu, hal]
  rw [e]; clear e; unfold V.val; go_enter Tryz.func212, Tryz.ntmps212
  go_wp2_with (first | (go_at_call 225; ((with_reducible refine (Yy a b _).mono ?_); rintro e w' ⟨rfl, hg⟩; obtain ⟨hc, hf, hz⟩ := hg.rules)) | (go_at_call 173; ((with_reducible refine (kX _).mono ?_); rintro e w2' ⟨rfl, hg2⟩; replace hg := hg.trans hg2; clear hg2 hc hf hz; obtain ⟨hc, hf, hz⟩ := hg.rules)))
  exact bodyPost_ret (by simp [results, Tryz.results212, go_sem, hc]) rfl ⟨rfl, (by with_reducible repeat (first | exact za.refl _ | assumption | refine za.set ?_ (by simp <;> omega) _ | refine za.al ?_ _ | refine za.drew ?_ | refine za.drewN ?_ _ | refine za.trans ?_ (by assumption)))⟩
 ·have e : qu a b = qG (decide (x7 a b < 0)) := by simp [qu, hal]
  rw [e]; clear e; unfold V.val; go_enter Tryz.func212, Tryz.ntmps212
  go_wp2_with (first | (go_at_call 225; ((with_reducible refine (Yy a b _).mono ?_); rintro e w' ⟨rfl, hg⟩; obtain ⟨hc, hf, hz⟩ := hg.rules)) | (go_at_call 126; ((with_reducible refine (jo a b _).mono ?_); rintro e w2' ⟨rfl, hg2⟩; replace hg := hg.trans hg2; clear hg2 hc hf hz; obtain ⟨hc, hf, hz⟩ := hg.rules)) | (go_at_call 187; ((with_reducible refine (ZW _ _).mono ?_); rintro e w2' ⟨rfl, hg2⟩; replace hg := hg.trans hg2; clear hg2 hc hf hz; obtain ⟨hc, hf, hz⟩ := hg.rules)))
  exact bodyPost_ret (by simp [results, Tryz.results212, go_sem, hc]) rfl ⟨rfl, (by with_reducible repeat (first | exact za.refl _ | assumption | refine za.set ?_ (by simp <;> omega) _ | refine za.al ?_ _ | refine za.drew ?_ | refine za.drewN ?_ _ | refine za.trans ?_ (by assumption)))⟩
def QT (w : World) (g o : Nat) (v : V) : Prop := w.cell? ⟨g, o, none⟩ = some (.int .i64 v.k) /\ w.cell? ⟨g, o + 1, none⟩ = some (.int .i64 v.n) /\ w.cell? ⟨g, o + 2, none⟩ = some (.string v.s)
def xp (w : World) (A : Option Addr) (xs : List V) : Prop := ∀ i x, xs[i]? = some x -> ∃ g o, A = some ⟨g, o, none⟩ /\ QT w g (o + i * 3) x
theorem QT.grow {w w' : World} {g o : Nat} {v : V} (h : QT w g o v) (hg : za w w') : QT w' g o v := ⟨hg.cell h.1, hg.cell h.2.1, hg.cell h.2.2⟩
theorem xp.grow {w w' : World} {A : Option Addr} {xs : List V} (h : xp w A xs) (hg : za w w') : xp w' A xs := fun i x hx => by
 obtain ⟨g, o, hA, hc⟩ := h i x hx; exact ⟨g, o, hA, hc.grow hg⟩
def zB (f : V -> V -> Int) : List V -> List V -> Int
 | [], [] => 0
 | [], _ :: _ => -1
 | _ :: _, [] => 1
 | a :: l, b :: m => if f a b = 0 then zB f l m else f a b
theorem Kh (f : V -> V -> Int) (xs ys : List V) (k : Nat) (x y : V) (hx : xs[k]? = some x) (hy : ys[k]? = some y) :
  zB f (xs.drop k) (ys.drop k) = if f x y = 0 then zB f (xs.drop (k + 1)) (ys.drop (k + 1)) else f x y := by
 obtain ⟨h1, e1⟩ := List.getElem?_eq_some_iff.1 hx; obtain ⟨h2, e2⟩ := List.getElem?_eq_some_iff.1 hy; rw [List.drop_eq_getElem_cons h1, List.drop_eq_getElem_cons h2, e1, e2]; rfl
theorem SD (f : V -> V -> Int) (xs ys : List V) (k : Nat) (hx : k < xs.length) (hy : ys.length = k) : zB f (xs.drop k) (ys.drop k) = 1 := by
 rw [List.drop_eq_getElem_cons hx, List.drop_eq_nil_of_le (by omega : ys.length <= k)]; rfl
theorem Vn (f : V -> V -> Int) (xs ys : List V) (k : Nat) (hx : xs.length = k) (hy : k <= ys.length) : zB f (xs.drop k) (ys.drop k) = Zu (xs.length : Int) (ys.length : Int) := by
 rw [List.drop_eq_nil_of_le (by omega : xs.length <= k)]; unfold Zu
 by_cases h : k < ys.length
 ·rw [List.drop_eq_getElem_cons h, if_pos (by omega)]; rfl
 ·rw [List.drop_eq_nil_of_le (by omega : ys.length <= k), if_neg (by omega), if_neg (by omega)]; rfl
theorem qH (xs ys : List V) (A B : Option Addr) (c d : Nat) (w : World) (hlx : xs.length <= 9223372036854775807) (hly : ys.length <= 9223372036854775807) (hx : xp w A xs) (hy : xp w B ys) :
  Calls Tryz.prog 85 #[.slice A xs.length c, .slice B ys.length d] w fun e w' => e = .returned (.int .i64 (zB x7 xs ys)) /\ za w w' := by
 have Hx := Lib.hid hx; have Hy := Lib.hid hy; clear hx hy; go_enter Tryz.func85, Tryz.ntmps85; go_wp2
 go_loopw [10] (fun i wr => ∃ k : Nat, k <= xs.length /\ k <= ys.length /\ i = .int .i64 k /\ zB x7 xs ys = zB x7 (xs.drop k) (ys.drop k) /\ za w wr) (fun i _ => xs.length - (intOf i).toNat)
 case atStart => exact ⟨0, Nat.zero_le _, Nat.zero_le _, rfl, rfl, za.refl _⟩
 case round =>
  obtain ⟨k, hk, hk', rfl, heq, hg⟩ := hrel; have Heq := Lib.hid heq; clear heq
  by_cases hlt : k < xs.length
  ·obtain ⟨x, hxk⟩ : ∃ x, xs[k]? = some x := ⟨_, List.getElem?_eq_getElem hlt⟩
   obtain ⟨g, o, rfl, hc1, hc2, hc3⟩ := Hx.out k x hxk; have c1 := hg.cell hc1; have c2 := hg.cell hc2; have c3 := hg.cell hc3; have Hxk := Lib.hid hxk; clear hc1 hc2 hc3 hxk
   by_cases hlt2 : k < ys.length
   ·have hne : ((k : Int) == (ys.length : Int)) = false := by rw [beq_eq_false_iff_ne]; omega
    obtain ⟨y, hyk⟩ : ∃ y, ys[k]? = some y := ⟨_, List.getElem?_eq_getElem hlt2⟩
    obtain ⟨g2, o2, rfl, hd1, hd2, hd3⟩ := Hy.out k y hyk; have Hyk := Lib.hid hyk; clear hyk; go_wp2; refine zc (fun W => zb W wr.heap.size 24 #[.int .i64 x.k, .int .i64 x.n, .string x.s] /\ za w W) ⟨zb.new _ _ _, hg.al _⟩ ?_; rintro W ⟨A1, G1⟩; have b0 : (0 : Int) <= (k : Int) := by omega
    have b1 : (k : Int) < (ys.length : Int) := by omega
    have Hd : Hid (QT w g2 (o2 + k * 3) y) := Lib.hid ⟨hd1, hd2, hd3⟩; clear c1 c2 c3 hd1 hd2 hd3; apply wp_region_calm 7 (by kernel_rfl) (by kernel_rfl)
    case h' =>
     intro Q0 hQ0; simp only [List.take_succ_cons, List.take_zero]
     repeat ((first | ((first | apply calm_p rfl | apply zg rfl rfl rfl); case h1 => (intro w1 hw1 hF K hK; obtain ⟨a1, f1⟩ := (zb.grow A1 hw1).rules; obtain ⟨d1, d2, d3⟩ := Hd.out.grow (G1.trans hw1); go_simp; first | exact hK _ (za.refl _) | (go_at_call 126; ((with_reducible refine (jo x y _).mono ?_); rintro e w' ⟨rfl, hg⟩; exact ⟨_, rfl, hK _ hg⟩)))) | apply ze rfl rfl rfl rfl); intro K hK; go_simp; apply hK; clear hK K)
     refine calm_nil ?_; intro w1 hw1 hF; apply hQ0; clear hQ0; simp only [List.drop_succ_cons, List.drop_zero]; clear hF; have G2 := G1.trans hw1
     by_cases h0 : x7 x y = 0
     ·have d0 : (x7 x y != 0) = false := by simpa using h0
      have H0 := Lib.hid h0; clear h0; go_wp2; go_roundw
      case rel => exact ⟨k + 1, by omega, by omega, by go_num, by rw [Heq.out, Kh x7 xs ys k x y Hxk.out Hyk.out, if_pos H0.out], G2⟩
      case measure => simp [intOf]; omega
     ·have d0 : (x7 x y != 0) = true := by simpa using h0
      have H0 := Lib.hid h0; clear h0; go_wp2; go_ret; exact zA (by rw [Heq.out, Kh x7 xs ys k x y Hxk.out Hyk.out, if_neg H0.out]) G2
    case hp' => trivial
   ·have hne : ((k : Int) == (ys.length : Int)) = true := by rw [beq_iff_eq]; omega
    go_wp2; go_ret; exact zA (by rw [Heq.out, SD x7 xs ys k hlt (by omega)]) (hg.al _)
  ·have Fin := Lib.hid (Vn x7 xs ys k (by omega) hk')
   go_wp2_with ((go_at_call 127; ((with_reducible refine (Tg _ _ _).mono ?_); rintro e w' ⟨rfl, rfl⟩)))
   go_ret; exact zA (by rw [Heq.out, Fin.out]) hg
theorem Zr (v : V) : (bare v).k = v.k := by
 unfold bare; split
 ·simp_all
 ·split <;> simp_all
theorem Mt (a b : V) (ha : RV a) (hb : RV b) : x7 a b = zU a b := by
 unfold x7 zU El
 by_cases h1 : a.k < b.k
 ·have := Zr a; have hb' := Zr b; simp [this, hb', Zu, h1]
 ·by_cases h2 : b.k < a.k
  ·have := Zr a; have hb' := Zr b; simp [this, hb', Zu, h1, h2]
  ·have hk : a.k = b.k := by omega
   have hak := ha.kind
   by_cases h3 : b.k = 1
   ·simp [bare, hk, h3, Zu, Le]
   ·by_cases h4 : b.k = 4
    ·simp [bare, hk, h4, Zu]
    ·simp [bare, hk, h3, h4, Zu, Le]; intro h; exact h.symm
theorem yk (a b : V) : zU b a = - zU a b := by
 unfold zU; rcases Int.lt_trichotomy a.k b.k with h | h | h
 ·rw [if_neg (by omega), if_pos h, if_pos h]; rfl
 ·rw [h]; simp only [Int.lt_irrefl, if_false]
  by_cases h1 : b.k = 1
  ·simp [h1]
  ·by_cases h4 : b.k = 4
   ·simp [h4, Un a.s b.s]
   ·simp only [h1, h4, if_false]
    repeat' split
    all_goals omega
 ·rw [if_pos h, if_neg (by omega), if_pos h]
theorem XB (a b : V) : zU a b = -1 \/ zU a b = 0 \/ zU a b = 1 := by
 unfold zU; have := RN a.s b.s
 repeat' split
 all_goals omega
theorem MX {a b : V} (h : a.k < b.k) : zU a b = -1 := by unfold zU; rw [if_pos h]
theorem MW {a b : V} (h : b.k < a.k) : zU a b = 1 := by unfold zU; rw [if_neg (by omega), if_pos h]
theorem Q6 {a b : V} (h : a.k = b.k) : zU a b = if a.k = 1 then 0 else if a.k = 4 then kK a.s b.s else if a.n < b.n then -1 else if b.n < a.n then 1 else 0 := by
 unfold zU; rw [if_neg (by omega), if_neg (by omega)]
theorem ZH (a b c : V) : zU a b <= 0 -> zU b c <= 0 -> zU a c <= 0 := by
 intro h1 h2; rcases Int.lt_trichotomy a.k b.k with h | h | h
 ·rcases Int.lt_trichotomy b.k c.k with k | k | k
  ·rw [MX (by omega)]; omega
  ·rw [MX (by omega)]; omega
  ·rw [MW k] at h2; omega
 ·rcases Int.lt_trichotomy b.k c.k with k | k | k
  ·rw [MX (by omega)]; omega
  ·rw [Q6 h] at h1; rw [Q6 k] at h2; rw [Q6 (h.trans k)]; rw [h] at h1 ⊢
   by_cases e1 : b.k = 1
   ·simp [e1]
   ·by_cases e4 : b.k = 4
    ·simp only [e4] at h1 h2 ⊢; exact RO a.s b.s c.s h1 h2
    ·simp only [e1, e4, if_false] at h1 h2 ⊢
     repeat' split at h1
     all_goals repeat' split at h2
     all_goals repeat' split
     all_goals omega
  ·rw [MW k] at h2; omega
 ·rw [MW h] at h1; omega
theorem Vc (a b : V) (ha : RV a) (hb : RV b) : zU a b = 0 ↔ bare a = bare b := by
 have hak := ha.kind; have hbk := hb.kind; have he := Tf a.s b.s; obtain ⟨ak, an, at_⟩ := a; obtain ⟨bk, bn, bt⟩ := b; simp only at *; rcases hak with rfl | rfl | rfl | rfl <;> rcases hbk with rfl | rfl | rfl | rfl <;> simp [zU, bare, he]
 all_goals
  repeat' split
  all_goals omega
theorem WG (f : V -> V -> Int) (hf : ∀ a b, f a b = -1 \/ f a b = 0 \/ f a b = 1) : ∀ xs ys : List V, zB f xs ys = -1 \/ zB f xs ys = 0 \/ zB f xs ys = 1
 | [], [] => by simp [zB]
 | [], _ :: _ => by simp [zB]
 | _ :: _, [] => by simp [zB]
 | a :: l, b :: m => by
  unfold zB; split
  ·exact WG f hf l m
  ·exact hf a b
theorem yh (f : V -> V -> Int) (hf : ∀ a b, f b a = - f a b) : ∀ xs ys : List V, zB f ys xs = - zB f xs ys
 | [], [] => by simp [zB]
 | [], _ :: _ => by simp [zB]
 | _ :: _, [] => by simp [zB]
 | a :: l, b :: m => by
  have ih := yh f hf l m; have h := hf a b; unfold zB; rw [h]
  by_cases h0 : f a b = 0
  ·simp [h0, ih]
  ·rw [if_neg (by omega), if_neg h0]
theorem zW : ∀ xs ys : List V, (∀ x ∈ xs, RV x) -> (∀ y ∈ ys, RV y) -> zB x7 xs ys = zB zU xs ys
 | [], [], _, _ => rfl
 | [], _ :: _, _, _ => rfl
 | _ :: _, [], _, _ => rfl
 | a :: l, b :: m, h, k => by
  unfold zB; rw [Mt a b (h a (by simp)) (k b (by simp)), zW l m (fun x hx => h x (by simp [hx])) (fun y hy => k y (by simp [hy]))]
end Go.Proofs.YtcaedcpjdmlilaaGreat

namespace Go.Proofs.YtcaedcpjdmlilaaGreat
open Go.ChangeShapes Go.WideShapes Go.ChangeAt Go.RowKit Go.Calm
set_option maxRecDepth 100000
set_option linter.unusedVariables false
set_option linter.unusedSimpArgs false
section
variable {H : Type} {enc : TypeId × Value -> H} {P : Program}

theorem Ze (hl : laidOutB P = true) {W W' : World} (hb : Below W.heap.size W W') {sp : Nat -> Bool} : ∀ {ts : List TypeId} {vs : List Value} {ds : List (DataW H)} {ps : List MemPlace},
  (∀ t ∈ ts, P.readableRec t = true /\ t < P.types.size) -> DataW.TrodAll enc P W 0 (fun _ => true) true ts vs ds ps -> (∀ p ∈ ps, p.block < W.heap.size) -> (∀ p ∈ ps, sp p.block = true) -> DataW.TrodAll enc P W' 0 sp true ts vs ds ps
 | [], [], [], _, _, h, _, _ => h
 | t :: ts, v :: vs, d :: ds, ps, hr, ⟨p, q, h1, h2, e⟩, hlt, hs => by
  subst e; refine ⟨p, q, WideElems.Trod_stays hl (hr t (by simp)).1 (hr t (by simp)).2 h1 (fun x hx => hb.same (hlt x (List.mem_append_left _ hx))) (fun x hx => hs x (List.mem_append_left _ hx)), ?_, rfl⟩; exact Ze hl hb (fun t' ht' => hr t' (List.mem_cons_of_mem _ ht')) h2 (fun x hx => hlt x (List.mem_append_right _ hx)) (fun x hx => hs x (List.mem_append_right _ hx))
theorem PA {f : Func} {s : ChangeSpec} {W W' : World} {args : Array Value} {ds : List (DataW H)} {before : List MemPlace}
  (hvars : s.vars = []) (hfn : s.fn H (ds ++ []) = { results := [.lit (.bool true)], args := ds, vars := [] }) (tb : TypeId) (hres : f.resultTypes = #[tb]) (hbool : P.underlying tb = some .bool)
  (hl : laidOutB P = true) (hr : ∀ t ∈ f.params.toList, P.readableRec t = true /\ t < P.types.size)
  (hW : DataW.Whole enc P f.params.toList s.vars false W args.toList ds [] before) (hg : za W W') :
  s.post enc P f false true false false W args (.bool true) W' := by
 have hW' := hW; obtain ⟨p, q, hA, hV, rfl, hfz, hnd⟩ := hW
 have hq : q = [] := by
  rw [hvars] at hV; exact hV
 subst hq; have hlt : ∀ x ∈ p ++ [], x.block < W.heap.size := fun x hx => hW'.lt x hx
 have hlt' : ∀ x ∈ p, x.block < W.heap.size := fun x hx => hlt x (by simpa using hx)
 have hb := hg.below; refine ⟨ds, [], p ++ [], [], p, [], hW', ?_, ?_, ?_, ?_, fun h => by cases h⟩
 ·rw [hfn, hres]; exact trodAll_cons_mk (shut_bool hbool _) trodAll_mk0
 ·rw [hfn]; exact Ze hl hb hr hA hlt' (fun x hx => by simpa using hlt' x hx)
 ·rw [hvars, hfn]; exact rfl
 ·exact World.keptBut_mono (fun x hx => ⟨hx, .inr (by simpa using hx)⟩) (hb.frame (· ∈ p ++ []))
end

section
variable {H : Type} {enc : TypeId × Value -> H} {w : World} {base : Nat} {spare : Nat -> Bool} {held : Bool}

def xj (n : Int) : Prop := -9223372036854775808 <= n /\ n <= 9223372036854775807
theorem Yv {n : Int} (h : (Lit.int .i64 n).wf = true) : xj n := by
 simpa [Lit.wf, IntKind.min, IntKind.max, IntKind.signed, IntKind.bits, xj] using h
structure VB (v : V) : Prop where
 k : xj v.k
 n : xj v.n
 s : v.s.size <= maxLen
theorem Mj {fuel : Nat} {cs : List Value} {x : DataW H × List MemPlace} (h : DataW.trod enc Tryz.prog w base spare held fuel 24 cs = some x) :
  ∃ v : V, cs = [.int .i64 v.k, .int .i64 v.n, .string v.s] /\ VB v := by
 obtain ⟨xs, n, _, _, hlen, hxl, hf⟩ := DataW.trod_struct Tryz.underlying24 h; have h3 : cs.length = 3 := by rw [hlen]; kernel_rfl
 match cs, h3 with
 | [a, b, c], _ =>
  have f0 := hf 0 _ rfl; have f1 := hf 1 _ rfl; have f2 := hf 2 _ rfl; have g : ∀ i, i < 3 -> ∃ y, xs[i]? = some y := fun i hi => ⟨xs[i]'(by rw [hxl]; exact hi), List.getElem?_eq_getElem _⟩
  obtain ⟨y0, e0⟩ := g 0 (by omega); obtain ⟨y1, e1⟩ := g 1 (by omega); obtain ⟨y2, e2⟩ := g 2 (by omega); rw [e0] at f0; rw [e1] at f1; rw [e2] at f2; obtain ⟨k, hk, _, wk⟩ := DataW.trod_int Tryz.underlying3 f0; obtain ⟨m, hm, _, wm⟩ := DataW.trod_int Tryz.underlying2 f1; obtain ⟨s, hs, _, ws⟩ := DataW.trod_string Tryz.underlying9 f2; have c0 : Tryz.prog.cellsOf 3 = 1 := by kernel_rfl
  have c1 : Tryz.prog.cellsOf 2 = 1 := by kernel_rfl
  have c2 : Tryz.prog.cellsOf 9 = 1 := by kernel_rfl
  simp [c0] at hk; simp [c1] at hm; simp [c2] at hs; exact ⟨⟨k, m, s⟩, by simp [hk, hm, hs], ⟨Yv wk, Yv wm, ws⟩⟩
theorem Wg {w : World} {a : Addr} {j : Nat} {v : Value} (h : w.cell? (a.add j) = some v) : a.spot = none \/ j ≠ 0 := by
 by_cases hj : j = 0
 ·subst hj; left; unfold Addr.add at h; simp only [if_true] at h; unfold World.cell? at h; split at h
  ·split at h
   ·cases h
   ·rename_i hs; simpa using hs
  ·cases h
 ·exact .inr hj
theorem kH {g o n : Nat} : (Addr.mk g o none).add n = ⟨g, o + n, none⟩ := by
 unfold Addr.add; split
 ·rename_i h; subst h; rfl
 ·rfl
theorem qF {t e : TypeId} {fuel c : Nat} {cs : List Value} {x : DataW H × List MemPlace} (ht : Tryz.prog.underlying t = some (.slice e)) (hc : Tryz.prog.cellsOf e = c) (hc0 : 0 < c) (h : DataW.trod enc Tryz.prog w base spare held fuel t cs = some x) :
  ∃ (A : Option Addr) (len cap n : Nat) (D : Nat -> DataW H × List MemPlace), cs = [.slice A len cap] /\ len <= maxLen /\ len <= cap /\ ∀ i, i < len -> ∃ g o ys, A = some ⟨g, o, none⟩ /\ ys.length = c /\ (∀ j y, ys[j]? = some y -> w.cell? ⟨g, o + i * c + j, none⟩ = some y) /\ DataW.trod enc Tryz.prog w base spare held n e ys = some (D i) := by
 rcases DataW.trod_slice ht h with ⟨h0, _⟩ | ⟨a, len, cap, elems, rest, n, _, hcs, _, hb, hl, hm, hlen, hel, _, _⟩
 ·exact ⟨none, 0, 0, 0, fun _ => (.nil, []), h0, Nat.zero_le _, Nat.le_refl _, fun i hi => by omega⟩
 ·refine ⟨some a, len, cap, n, fun i => elems.getD i (.nil, []), hcs, by omega, hl, fun i hi => ?_⟩
  have get : ∀ i, i < len -> ∃ ys, w.cells? base (a.add (i * c)) c = some ys /\ DataW.trod enc Tryz.prog w base spare held n e ys = some (elems.getD i (.nil, [])) := fun i hi => by
   have h1 := hel i hi; rw [hc] at h1; have h2 : elems[i]? = some (elems.getD i (.nil, [])) := by simp [hlen, hi]
   rw [h2] at h1; cases hcell : w.cells? base (a.add (i * c)) c with
   | none => rw [hcell] at h1; cases h1
   | some ys => rw [hcell] at h1; exact ⟨ys, rfl, h1⟩
  have hsp : a.spot = none := by
   obtain ⟨ys, hcell, _⟩ := get 0 (by omega); obtain ⟨_, hyl, hat⟩ := World.cells?_some hcell; have h1 := hat 0 hc0; have h2 : ys[0]? = some (ys[0]'(by omega)) := List.getElem?_eq_getElem _; rw [h2, Nat.zero_mul] at h1; have e : (a.add 0) = a := rfl; rw [e] at h1; rcases Wg h1 with h3 | h3
   ·exact h3
   ·exact absurd rfl h3
  obtain ⟨g, o, sp⟩ := a; simp only at hsp; subst hsp; obtain ⟨ys, hcell, hd⟩ := get i hi; obtain ⟨_, hyl, hat⟩ := World.cells?_some hcell; refine ⟨g, o, ys, rfl, hyl, fun j y hy => ?_, hd⟩; have hj : j < c := by rw [<- hyl]; exact (List.getElem?_eq_some_iff.1 hy).1
  have := hat j hj; rw [hy, kH, kH] at this; exact this
theorem SY {fuel : Nat} {cs : List Value} {x : DataW H × List MemPlace} (h : DataW.trod enc Tryz.prog w base spare held fuel 60 cs = some x) :
  ∃ (A : Option Addr) (xs : List V) (cap : Nat), cs = [.slice A xs.length cap] /\ xp w A xs /\ xs.length <= maxLen /\ ∀ v ∈ xs, VB v := by
 obtain ⟨A, len, cap, n, D, hcs, hl, _, hi⟩ := qF (c := 3) Tryz.underlying60 (by kernel_rfl) (by omega) h
 have pick : ∀ i, i < len -> ∃ v : V, VB v /\ ∃ g o, A = some ⟨g, o, none⟩ /\ QT w g (o + i * 3) v := fun i hlt => by
  obtain ⟨g, o, ys, hA, hyl, hat, hd⟩ := hi i hlt; obtain ⟨v, hv, hb⟩ := Mj hd; subst hv; exact ⟨v, hb, g, o, hA, hat 0 _ rfl, hat 1 _ rfl, hat 2 _ rfl⟩
 have build : ∀ m, m <= len -> ∃ xs : List V, xs.length = m /\ (∀ v ∈ xs, VB v) /\ xp w A xs := by
  intro m
  induction m with
  | zero => exact fun _ => ⟨[], rfl, by simp, fun i x hx => by simp at hx⟩
  | succ m ih =>
   intro hm; obtain ⟨xs, hxl, hxb, hxs⟩ := ih (by omega); obtain ⟨v, hb, g, o, hA, hc⟩ := pick m (by omega); refine ⟨xs ++ [v], by simp [hxl], fun u hu => ?_, fun i x hx => ?_⟩
   ·rcases List.mem_append.1 hu with h' | h'
    ·exact hxb u h'
    ·simp at h'; subst h'; exact hb
   ·rcases Nat.lt_or_ge i xs.length with h' | h'
    ·rw [List.getElem?_append_left h'] at hx; exact hxs i x hx
    ·rw [List.getElem?_append_right h'] at hx
     have : i - xs.length = 0 := by
      rcases Nat.eq_zero_or_pos (i - xs.length) with h0 | h0
      ·exact h0
      ·rw [List.getElem?_eq_none (by simp; omega)] at hx; cases hx
     rw [this] at hx; simp at hx; subst hx; have hi' : i = m := by omega
     subst hi'; exact ⟨g, o, hA, hc⟩
 obtain ⟨xs, hxl, hxb, hxs⟩ := build len (Nat.le_refl _); exact ⟨A, xs, cap, by rw [hcs, hxl], hxs, by omega, hxb⟩
end
end Go.Proofs.YtcaedcpjdmlilaaGreat

