/- Parts of a proof. No condition. -/
import Derived.Test.YtflggnopgnoeiaaGreatGB
import Derived.BigQuiet
import Derived.Deep.QuietTactic
import Derived.Deep.Slices
import Derived.Deep.DeepCutAuto
set_option maxRecDepth 100000
set_option maxHeartbeats 4000000
set_option maxRecDepth 100000
set_option linter.unusedSimpArgs false
set_option linter.unusedVariables false
namespace Go
variable {p : Prop}
theorem vC_ (h : p := by simp [results, Tryz.results183, go_sem]) : p := h
theorem vD_ (h : p := by simp [results, Tryz.results149, go_sem]) : p := h
theorem vE_ (h : p := by simp [results, Tryz.results110, go_sem]) : p := h
theorem vI_ (h : p := by simp [results, Tryz.results64, go_sem]) : p := h
theorem us_ (h : p := by simpa using hne) : p := h
theorem ux_ (h : p := by simpa using h0) : p := h
theorem uy_ (h : p := by simpa using d3) : p := h
theorem uz_ (h : p := by simpa using h4) : p := h
theorem uO_ (h : p := by simp [hall]) : p := h
theorem uT_ (h : p := by simp [h2]) : p := h
theorem uW_ (h : p := by decide) : p := h
theorem wA_ (h : p := by
 go_enter Tryz.func110, Tryz.ntmps110
 go_wp2_with ((go_at_call 148; ((with_reducible refine (kB _ _).mono ?_); rintro e w' ⟨rfl, rfl⟩)))
 refine wp_loop_rounds 1 ?_; rw [rounds_succ]; go_wp2
 go_quiet (fail)
 go_wp2; exact qX_ vE_ rfl ⟨rfl, hb.set 1 _, ((GX.refl g w).set 1 _).drewN _⟩) : p := h
theorem wD_ (h : p := by
 simp only [decide_eq_true_eq, decide_eq_false_iff_not]; omega) : p := h
theorem wR_ (h : p := by
 intro j u hj
 match j, hj with
 | 0, hj => simp at hj; subst hj; simp [Addr.add]) : p := h
theorem wS_ (h : p := by
 exact ⟨0, Nat.zero_le _, rfl, rfl, rfl⟩) : p := h
theorem wV_ (h : p := by
 have h : gx < w0.heap.size := za.lt hx.c0; omega) : p := h
theorem wW_ (h : p := by
 simp only [decide_eq_true_eq, decide_eq_false_iff_not, bne_iff_ne]; omega) : p := h
theorem w1_ (h : p := by
 have hl : 0 < cols.length := by omega
 obtain ⟨ga, oa, h1, h2⟩ := hcols 0 (cols[0]) (by simp [hl]); rw [h1] at ha; cases ha; have : ga < w0.heap.size := za.lt h2; simp only; omega) : p := h
theorem xD_ (h : p := by
 go_enter Tryz.func110, Tryz.ntmps110; go_wp2; exact qX_ vE_ rfl ⟨rfl, hb.set 1 _, (GX.refl g w).set 1 _⟩) : p := h
theorem xG_ (h : p := by
 rw [<- HT.out, <- HR.out, Nat.sub_self]; rfl) : p := h
theorem xI_ (h : p := by
 exact ⟨none, 0, 0, 0, fun _ => (.nil, []), by omega, h0, Nat.zero_le _, Nat.le_refl _, fun i hi => by omega⟩) : p := h
theorem xT_ (h : p := by
 exact ⟨k + 1, by omega, by go_num, Hr.out, trivial⟩) : p := h
theorem x2_ (h : p := by
 intro u hu; simp at hu; subst hu; rfl) : p := h
theorem x3_ (h : p := by
 repeat' split
 all_goals first | (constructor <;> decide) | (exfalso; simp_all; done) | omega) : p := h
theorem x4_ (h : p := by
 rw [if_neg hf, if_pos hf2, if_neg hf]) : p := h
theorem x5_ (h : p := by
 unfold zl at h
 repeat' split at h
 all_goals omega) : p := h
theorem yc_ (h : p := by
 unfold maxLen; omega) : p := h
theorem yN_ (h : p := by
 rw [if_pos hf, if_pos hf]) : p := h
theorem y1_ (h : p := by
 have Hr := hh_ (ku xR cols k x Hxk.out Hall.out hr); obtain ⟨d2, d3⟩ := W3 hr; go_wp2; go_roundw
 case rel => exact xT_
 case measure => exact u1_) : p := h
end Go
namespace Go.Proofs.YtflggnopgnoeiaaGreat
open Go.RowKit Go.Calm
def zl (k : Int) : Int :=
 if k = 1 \/ k = 2 then 0
 else if k = 3 \/ k = 16 then 1
 else if (4 <= k /\ k <= 15) \/ k = 18 then 2
 else if k = 17 then 3
 else -1
theorem kB (k : Int) (w : World) : Calls Tryz.prog 148 #[.int .i64 k] w fun e w' => e = .returned (.int .i64 (zl k)) /\ w = w' := by
 go_enter Tryz.func148, Tryz.ntmps148; go_wp2
 all_goals
  go_ret; refine zk ?_ rfl
  (try simp only [beq_iff_eq, beq_eq_false_iff_ne, bne_iff_ne, ne_eq, bne_eq_false_iff_eq, Bool.not_eq_true', Bool.not_eq_false', decide_eq_true_eq, decide_eq_false_iff_not] at *)
  unfold zl
  repeat' split
  all_goals first | rfl | omega
theorem qW (k : Int) (w : World) : Calls Tryz.prog 158 #[.int .i64 k] w fun e w' => e = .returned (.int .i64 (zl k)) /\ za w w' := by
 by_cases h : 1 <= k /\ k <= 18
 ·obtain ⟨h1, h2⟩ := h; have : k = 1 \/ k = 2 \/ k = 3 \/ k = 4 \/ k = 5 \/ k = 6 \/ k = 7 \/ k = 8 \/ k = 9 \/ k = 10 \/ k = 11 \/ k = 12 \/ k = 13 \/ k = 14 \/ k = 15 \/ k = 16 \/ k = 17 \/ k = 18 := by omega
  clear h1 h2; rcases this with rfl | rfl | rfl | rfl | rfl | rfl | rfl | rfl | rfl | rfl | rfl | rfl | rfl | rfl | rfl | rfl | rfl | rfl
  all_goals
   go_enter Tryz.func158, Tryz.ntmps158; go_wp2; go_ret; refine zk ?_ ze; rfl
 ·have e : zl k = -1 := by
   unfold zl
   repeat' split
   all_goals omega
  rw [e]; clear e; have h' : k < 1 \/ 18 < k := by omega
  clear h; rcases h' with h' | h'
  ·go_enter Tryz.func158, Tryz.ntmps158; go_wp2; go_ret; exact ⟨rfl, ze⟩
  ·have hd : decide (k < 1) = false := by simp; omega
   go_enter Tryz.func158, Tryz.ntmps158; go_wp2; go_ret; exact ⟨rfl, ze⟩
def xm (a b : Int) : Int := if a = b \/ b = 1 then a else if a = 1 then b else 0
def yk (a b : Int) : Bool := decide (a = b) || decide (b = 1) || decide (a = 1)
theorem Nz (a b : Int) (w : World) : Calls Tryz.prog 183 #[.int .i64 a, .int .i64 b] w fun e w' => e = .returned (.tuple #[.int .i64 (xm a b), .bool (yk a b)]) /\ w = w' := by
 by_cases h1 : a = b
 ·have hd1 : (a == b) = true := by simpa using h1
  have e1 : xm a b = a := by simp [xm, h1]
  have e2 : yk a b = true := by simp [yk, h1]
  rw [e1, e2]; clear e1 e2 h1; go_enter Tryz.func183, Tryz.ntmps183; go_wp2; exact qX_ vC_ rfl ⟨rfl, rfl⟩
 ·have hd1 : (a == b) = false := by simpa using h1
  by_cases h2 : b = 1
  ·have hd2 : (b == 1) = true := by simpa using h2
   have e1 : xm a b = a := by simp [xm, h2]
   have e2 : yk a b = true := by simp [yk, h2]
   rw [e1, e2]; clear e1 e2 h1 h2; go_enter Tryz.func183, Tryz.ntmps183; go_wp2; exact qX_ vC_ rfl ⟨rfl, rfl⟩
  ·have hd2 : (b == 1) = false := by simpa using h2
   by_cases h3 : a = 1
   ·have hd3 : (a == 1) = true := by simpa using h3
    have e1 : xm a b = b := by unfold xm; rw [if_neg uX_, if_pos h3]
    have e2 : yk a b = true := by simp [yk, h3]
    rw [e1, e2]; clear e1 e2 h1 h2 h3; go_enter Tryz.func183, Tryz.ntmps183; go_wp2; exact qX_ vC_ rfl ⟨rfl, rfl⟩
   ·have hd3 : (a == 1) = false := by simpa using h3
    have e1 : xm a b = 0 := by unfold xm; rw [if_neg uX_, if_neg h3]
    have e2 : yk a b = false := by simp [yk, h1, h2, h3]
    rw [e1, e2]; clear e1 e2 h1 h2 h3; go_enter Tryz.func183, Tryz.ntmps183; go_wp2; exact qX_ vC_ rfl ⟨rfl, rfl⟩
def zP (t : Int) : Int := if t = 1 then 97 else if t = 2 then 98 else if t = 3 then 105 else if t = 4 then 116 else 63
theorem XJ (t : Int) (h1 : 0 <= t) (h2 : t <= 4) (w : World) : Calls Tryz.prog 136 #[.int .i64 t] w fun e w' => e = .returned (.int .u8 (zP t)) /\ w = w' := by
 have : t = 0 \/ t = 1 \/ t = 2 \/ t = 3 \/ t = 4 := by omega
 clear h1 h2; rcases this with rfl | rfl | rfl | rfl | rfl
 all_goals
  go_enter Tryz.func136, Tryz.ntmps136; go_wp2; go_ret; exact ⟨rfl, rfl⟩
def xI (a b : Int) : Int := if a = 97 \/ a = b then b else if b = 97 then a else 0
theorem zt (a b : Int) (w : World) : Calls Tryz.prog 159 #[.int .u8 a, .int .u8 b] w fun e w' => e = .returned (.int .u8 (xI a b)) /\ w = w' := by
 by_cases h1 : a = 97
 ·have hd1 : (a == 97) = true := by simpa using h1
  have e1 : xI a b = b := by simp [xI, h1]
  rw [e1]; clear e1 h1; go_enter Tryz.func159, Tryz.ntmps159; go_wp2; go_ret; exact ⟨rfl, rfl⟩
 ·have hd1 : (a == 97) = false := by simpa using h1
  by_cases h2 : a = b
  ·have hd2 : (a == b) = true := by simpa using h2
   have e1 : xI a b = b := by simp [xI, h2]
   rw [e1]; clear e1 h1 h2; go_enter Tryz.func159, Tryz.ntmps159; go_wp2; go_ret; exact ⟨rfl, rfl⟩
  ·have hd2 : (a == b) = false := by simpa using h2
   by_cases h3 : b = 97
   ·have hd3 : (b == 97) = true := by simpa using h3
    have e1 : xI a b = a := by unfold xI; rw [if_neg uX_, if_pos h3]
    rw [e1]; clear e1 h1 h2 h3; go_enter Tryz.func159, Tryz.ntmps159; go_wp2; go_ret; exact ⟨rfl, rfl⟩
   ·have hd3 : (b == 97) = false := by simpa using h3
    have e1 : xI a b = 0 := by unfold xI; rw [if_neg uX_, if_neg h3]
    rw [e1]; clear e1 h1 h2 h3; go_enter Tryz.func159, Tryz.ntmps159; go_wp2; go_ret; exact ⟨rfl, rfl⟩
def yU (w : World) (A : Option Addr) (xs : List Int) : Prop := ∀ i x, xs[i]? = some x -> ∃ g o, A = some ⟨g, o, none⟩ /\ w.cell? ⟨g, o + i, none⟩ = some (.int .i64 x)
theorem yU.grow {w w' : World} {A : Option Addr} {xs : List Int} (h : yU w A xs) (hg : za w w') : yU w' A xs := fun i x hx => by
 obtain ⟨g, o, h1, h2⟩ := h i x hx; exact ⟨g, o, h1, hg.cell h2⟩
theorem ku {α : Type} (p : α -> Bool) (xs : List α) (k : Nat) (x : α) (hx : xs[k]? = some x) (h : (xs.take k).all p = true) (hp : p x = true) : (xs.take (k + 1)).all p = true := by
 rw [List.take_add_one, hx]; simp [List.all_append, h, hp]
theorem jr {α : Type} (p : α -> Bool) (xs : List α) (k : Nat) (x : α) (hx : xs[k]? = some x) (hp : p x = false) : xs.all p = false := by
 rw [List.all_eq_false]; exact ⟨x, qZ_ hx, by simp [hp]⟩
theorem kw (xs : List Int) (want : Int) (A : Option Addr) (c : Nat) (w : World) (hlen : xs.length <= 9223372036854775807) (hx : yU w A xs) :
  Calls Tryz.prog 182 #[.slice A xs.length c, .int .i64 want] w fun e w' => e = .returned (.bool (xs.all (yk · want))) /\ w = w' := by
 have Hx := hh_ hx; clear hx; go_enter Tryz.func182, Tryz.ntmps182; go_wp2
 go_loopw [11] (fun i wr => ∃ k : Nat, k <= xs.length /\ i = .int .i64 k /\ (xs.take k).all (yk · want) = true /\ wr = w) (fun i _ => xs.length - (intOf i).toNat)
 case atStart => exact wS_
 case round =>
  obtain ⟨k, hk, rfl, hall, rfl⟩ := hrel; have Hall := hh_ hall; clear hall
  by_cases hlt : k < xs.length
  ·obtain ⟨x, hxk⟩ : ∃ x, xs[k]? = some x := ⟨_, qQ_ hlt⟩
   obtain ⟨g, o, rfl, c1⟩ := Hx.out k x hxk; have Hxk := hh_ hxk; clear hxk; cases hr : yk x want
   ·have Fin := hh_ (jr (yk · want) xs k x Hxk.out hr)
    go_wp2_with ((go_at_call 183; ((with_reducible refine (Nz _ _ _).mono ?_); rintro e w' ⟨rfl, rfl⟩)))
    go_ret; exact xn Fin.out.symm rfl
   ·have Hr := hh_ (ku (yk · want) xs k x Hxk.out Hall.out hr)
    go_wp2_with ((go_at_call 183; ((with_reducible refine (Nz _ _ _).mono ?_); rintro e w' ⟨rfl, rfl⟩)))
    go_roundw
    case rel => exact xT_
    case measure => exact u1_
  ·have fin : xs.all (yk · want) = true := by
    have := Hall.out
    rwa [List.take_of_length_le uX_] at this
   have Fin := hh_ fin; clear fin; go_wp2; go_ret; exact xn Fin.out.symm rfl
def zx (k : Int) (t : List Int) : Int × Int :=
 if k <= 5 then (if t.all (yk · 2) then (2, 0) else (0, 9))
 else if k <= 11 then (if yk (t.getD 0 0) (t.getD 1 0) then (2, 0) else (0, 9))
 else if k <= 14 then (if t.all (yk · 3) then (3, 0) else (0, 9))
 else if k = 15 then (if t.all (yk · 4) then (4, 0) else (0, 9))
 else if k = 17 then (if yk (t.getD 1 0) (t.getD 2 0) && (t.take 1).all (yk · 2) then (xm (t.getD 1 0) (t.getD 2 0), 0) else (0, 9))
 else (if yk (t.getD 0 0) (t.getD 1 0) then (xm (t.getD 0 0) (t.getD 1 0), 0) else (0, 9))
theorem PP (k : Int) (xs : List Int) (A : Option Addr) (c : Nat) (w : World) (hlen : xs.length <= 9223372036854775807) (hx : yU w A xs) (h : k <= 5 \/ (12 <= k /\ k <= 15)) :
  Calls Tryz.prog 149 #[.int .i64 k, .slice A xs.length c] w fun e w' => e = .returned (.tuple #[.int .i64 (zx k xs).1, .int .i64 (zx k xs).2]) /\ za w w' := by
 have h5 : (k <= 5) \/ (¬ k <= 5 /\ ¬ k <= 11 /\ k <= 14) \/ (¬ k <= 5 /\ ¬ k <= 11 /\ ¬ k <= 14 /\ k = 15) := by omega
 clear h; rcases h5 with h1 | ⟨h1, h2, h3⟩ | ⟨h1, h2, h3, rfl⟩
 ·cases hr : xs.all (yk · 2)
  ·have e : zx k xs = (0, 9) := by simp [zx, h1, hr]
   rw [e]; clear e; have d1 : decide (k <= 5) = true := by simpa using h1
   clear h1; go_enter Tryz.func149, Tryz.ntmps149
   go_wp2_with ((go_at_call 182; ((with_reducible refine (kw xs _ _ _ _ hlen hx).mono ?_); rintro e w' ⟨rfl, rfl⟩)))
   exact qX_ vD_ rfl ⟨rfl, ze⟩
  ·have e : zx k xs = (2, 0) := by simp [zx, h1, hr]
   rw [e]; clear e; have d1 : decide (k <= 5) = true := by simpa using h1
   clear h1; go_enter Tryz.func149, Tryz.ntmps149
   go_wp2_with ((go_at_call 182; ((with_reducible refine (kw xs _ _ _ _ hlen hx).mono ?_); rintro e w' ⟨rfl, rfl⟩)))
   exact qX_ vD_ rfl ⟨rfl, ze⟩
 ·cases hr : xs.all (yk · 3)
  ·have e : zx k xs = (0, 9) := by simp [zx, h1, h2, h3, hr]
   rw [e]; clear e; have d1 : decide (k <= 5) = false := by simpa using h1
   have d2 : decide (k <= 11) = false := by simpa using h2
   have d3 : decide (k <= 14) = true := by simpa using h3
   clear h1 h2 h3; go_enter Tryz.func149, Tryz.ntmps149
   go_wp2_with ((go_at_call 182; ((with_reducible refine (kw xs _ _ _ _ hlen hx).mono ?_); rintro e w' ⟨rfl, rfl⟩)))
   exact qX_ vD_ rfl ⟨rfl, ze⟩
  ·have e : zx k xs = (3, 0) := by simp [zx, h1, h2, h3, hr]
   rw [e]; clear e; have d1 : decide (k <= 5) = false := by simpa using h1
   have d2 : decide (k <= 11) = false := by simpa using h2
   have d3 : decide (k <= 14) = true := by simpa using h3
   clear h1 h2 h3; go_enter Tryz.func149, Tryz.ntmps149
   go_wp2_with ((go_at_call 182; ((with_reducible refine (kw xs _ _ _ _ hlen hx).mono ?_); rintro e w' ⟨rfl, rfl⟩)))
   exact qX_ vD_ rfl ⟨rfl, ze⟩
 ·cases hr : xs.all (yk · 4)
  ·have e : zx 15 xs = (0, 9) := by simp [zx, hr]
   rw [e]; clear e; clear h1 h2 h3; go_enter Tryz.func149, Tryz.ntmps149
   go_wp2_with ((go_at_call 182; ((with_reducible refine (kw xs _ _ _ _ hlen hx).mono ?_); rintro e w' ⟨rfl, rfl⟩)))
   exact qX_ vD_ rfl ⟨rfl, ze⟩
  ·have e : zx 15 xs = (4, 0) := by simp [zx, hr]
   rw [e]; clear e; clear h1 h2 h3; go_enter Tryz.func149, Tryz.ntmps149
   go_wp2_with ((go_at_call 182; ((with_reducible refine (kw xs _ _ _ _ hlen hx).mono ?_); rintro e w' ⟨rfl, rfl⟩)))
   exact qX_ vD_ rfl ⟨rfl, ze⟩
theorem J6 (a b : Int) (w : World) : Calls Tryz.prog 183 #[.int .i64 a, .int .i64 b] w fun e w' => e = .returned (.tuple #[.int .i64 (xm a b), .bool (yk a b)]) /\ w' = w := (Nz a b w).mono fun _ _ ⟨h1, h2⟩ => ⟨h1, h2.symm⟩
theorem DO (k : Int) (x y : Int) (g o c : Nat) (w : World) (c0 : w.cell? ⟨g, o, none⟩ = some (.int .i64 x)) (c1 : w.cell? ⟨g, o + 1, none⟩ = some (.int .i64 y)) (h : 6 <= k /\ k <= 11 \/ k = 18) :
  Calls Tryz.prog 149 #[.int .i64 k, .slice (some ⟨g, o, none⟩) 2 c] w fun e w' => e = .returned (.tuple #[.int .i64 (zx k [x, y]).1, .int .i64 (zx k [x, y]).2]) /\ za w w' := by
 rcases h with ⟨h1, h2⟩ | rfl
 ·have d1 : decide (k <= 5) = false := by simp; omega
  have d2 : decide (k <= 11) = true := by simp; omega
  have e0 : zx k [x, y] = if yk x y then (2, 0) else (0, 9) := by simp [zx, show ¬ k <= 5 by omega, h2]
  cases hr : yk x y
  ·have e : zx k [x, y] = (0, 9) := by rw [e0, hr]; rfl
   rw [e]; clear e e0 h1 h2; go_enter Tryz.func149, Tryz.ntmps149; go_wp2
   go_quiet ((go_at_call 183; exact Calls.quiet_of_same (J6 _ _ _)))
   go_wp2; exact qX_ vD_ rfl ⟨rfl, ze⟩
  ·have e : zx k [x, y] = (2, 0) := by rw [e0, hr]; rfl
   rw [e]; clear e e0 h1 h2; go_enter Tryz.func149, Tryz.ntmps149; go_wp2
   go_quiet ((go_at_call 183; exact Calls.quiet_of_same (J6 _ _ _)))
   go_wp2; exact qX_ vD_ rfl ⟨rfl, ze⟩
 ·have e0 : zx 18 [x, y] = if yk x y then (xm x y, 0) else (0, 9) := by simp [zx]
  cases hr : yk x y
  ·have e : zx 18 [x, y] = (0, 9) := by rw [e0, hr]; rfl
   rw [e]; clear e e0; go_enter Tryz.func149, Tryz.ntmps149; go_wp2
   go_quiet ((go_at_call 183; exact Calls.quiet_of_same (J6 _ _ _)))
   go_wp2; exact qX_ vD_ rfl ⟨rfl, ze⟩
  ·have e : zx 18 [x, y] = (xm x y, 0) := by rw [e0, hr]; rfl
   rw [e]; clear e e0; go_enter Tryz.func149, Tryz.ntmps149; go_wp2
   go_quiet ((go_at_call 183; exact Calls.quiet_of_same (J6 _ _ _)))
   go_wp2; exact qX_ vD_ rfl ⟨rfl, ze⟩
theorem Pb (x want : Int) (g o c : Nat) (w : World) (c0 : w.cell? ⟨g, o, none⟩ = some (.int .i64 x)) :
  Calls Tryz.prog 182 #[.slice (some ⟨g, o, none⟩) 1 c, .int .i64 want] w fun e w' => e = .returned (.bool (yk x want)) /\ w = w' := by
 have := kw [x] want (some ⟨g, o, none⟩) c w uY_ (fun i y hy => by
  match i, hy with
  | 0, hy => simp at hy; subst hy; exact ⟨g, o, rfl, c0⟩)
 simpa using this
theorem SB (x y z : Int) (g o c : Nat) (hc : 1 <= c) (w : World) (c0 : w.cell? ⟨g, o, none⟩ = some (.int .i64 x)) (c1 : w.cell? ⟨g, o + 1, none⟩ = some (.int .i64 y)) (c2 : w.cell? ⟨g, o + 2, none⟩ = some (.int .i64 z)) :
  Calls Tryz.prog 149 #[.int .i64 17, .slice (some ⟨g, o, none⟩) 3 c] w fun e w' => e = .returned (.tuple #[.int .i64 (zx 17 [x, y, z]).1, .int .i64 (zx 17 [x, y, z]).2]) /\ za w w' := by
 have cn : ∀ n, (w.drewN n).cell? ⟨g, o, none⟩ = some (.int .i64 x) := fun _ => c0
 have e0 : zx 17 [x, y, z] = if yk y z && yk x 2 then (xm y z, 0) else (0, 9) := by simp [zx]
 cases hr : yk y z
 ·have e : zx 17 [x, y, z] = (0, 9) := by rw [e0, hr]; rfl
  rw [e]; clear e e0; go_enter Tryz.func149, Tryz.ntmps149; go_wp2
  go_quiet ((go_at_call 183; exact Calls.quiet_of_same (J6 _ _ _)))
  go_wp2; exact qX_ vD_ rfl ⟨rfl, ze⟩
 ·cases hs : yk x 2
  ·have e : zx 17 [x, y, z] = (0, 9) := by rw [e0, hr, hs]; rfl
   rw [e]; clear e e0; go_enter Tryz.func149, Tryz.ntmps149; go_wp2
   go_quiet ((go_at_call 183; exact Calls.quiet_of_same (J6 _ _ _)))
   go_wp2_with ((go_at_call 182; ((with_reducible refine (Pb _ _ _ _ _ _ (cn _)).mono ?_); rintro e w' ⟨rfl, rfl⟩)))
   exact qX_ vD_ rfl ⟨rfl, ze⟩
  ·have e : zx 17 [x, y, z] = (xm y z, 0) := by rw [e0, hr, hs]; rfl
   rw [e]; clear e e0; go_enter Tryz.func149, Tryz.ntmps149; go_wp2
   go_quiet ((go_at_call 183; exact Calls.quiet_of_same (J6 _ _ _)))
   go_wp2_with ((go_at_call 182; ((with_reducible refine (Pb _ _ _ _ _ _ (cn _)).mono ?_); rintro e w' ⟨rfl, rfl⟩)))
   exact qX_ vD_ rfl ⟨rfl, ze⟩
end Go.Proofs.YtflggnopgnoeiaaGreat
namespace Go.Proofs.YtflggnopgnoeiaaGreat
open Go.ChangeShapes Go.WideShapes Go.ChangeAt Go.RowKit Go.Calm
set_option maxRecDepth 100000
section
variable {H : Type} {enc : TypeId × Value -> H} {w : World} {base : Nat} {spare : Nat -> Bool} {held : Bool}
theorem JR {fuel : Nat} {cs : List Value} {x : DataW H × List MemPlace} (h : DataW.trod enc Tryz.prog w base spare held fuel 22 cs = some x) :
  ∃ (A : Option Addr) (xs : List Int) (cap : Nat), cs = [.slice A xs.length cap] /\ yU w A xs /\ xs.length <= maxLen /\ xs.length <= cap /\ ∀ v ∈ xs, x7 v := by
 obtain ⟨A, len, cap, n, D, hcs, hl, hcap, hi⟩ := qX (c := 1) Tryz.underlying22 uQ_ uX_ h
 have pick : ∀ i, i < len -> ∃ v : Int, x7 v /\ ∃ g o, A = some ⟨g, o, none⟩ /\ w.cell? ⟨g, o + i, none⟩ = some (.int .i64 v) := fun i hlt => by
  obtain ⟨g, o, ys, hA, hyl, hat, hd⟩ := hi i hlt; obtain ⟨v, hv, _, wv⟩ := DataW.trod_int Tryz.underlying3 hd; subst hv; exact ⟨v, YD wv, g, o, hA, by simpa using hat 0 _ rfl⟩
 have build : ∀ m, m <= len -> ∃ xs : List Int, xs.length = m /\ (∀ v ∈ xs, x7 v) /\ yU w A xs := u7_
 obtain ⟨xs, hxl, hxb, hxs⟩ := build len (Nat.le_refl _); exact ⟨A, xs, cap, by rw [hcs, hxl], hxs, by omega, by omega, hxb⟩
theorem Vj {r : Reach} {b0 : Nat} {v : Value} {d : DataW H} {p : List MemPlace} (hv : Value.okWide Tryz.prog w r b0 22 v) (h : DataW.Trod enc Tryz.prog w base spare held 22 v d p) :
  ∃ (A : Option Addr) (xs : List Int) (cap : Nat), v = .slice A xs.length cap /\ yU w A xs /\ xs.length <= maxLen /\ xs.length <= cap /\ ∀ v ∈ xs, x7 v := by
 obtain ⟨a, len, cap, rfl⟩ := okWide_slice Tryz.underlying22 hv; obtain ⟨fuel, hf⟩ := h; obtain ⟨A, xs, c, hcs, h1, h2, h3, h4⟩ := JR hf; simp [Value.cells] at hcs; obtain ⟨rfl, rfl, rfl⟩ := hcs; exact ⟨_, xs, _, rfl, h1, h2, h3, h4⟩
end
inductive E where
 | leaf : E
 | mk (kind : Int) (v : V) (col : Int) (A : Option Addr) (n cap : Nat) (kid : Nat -> E) : E
instance : Inhabited E := ⟨.leaf⟩
namespace E
def kind : E -> Int
 | .leaf => 0
 | .mk k _ _ _ _ _ _ => k
def v : E -> V
 | .leaf => ⟨0, 0, es⟩
 | .mk _ v _ _ _ _ _ => v
def col : E -> Int
 | .leaf => 0
 | .mk _ _ c _ _ _ _ => c
def A : E -> Option Addr
 | .leaf => none
 | .mk _ _ _ a _ _ _ => a
def n : E -> Nat
 | .leaf => 0
 | .mk _ _ _ _ n _ _ => n
def cap : E -> Nat
 | .leaf => 0
 | .mk _ _ _ _ _ c _ => c
def kid : E -> Nat -> E
 | .leaf, _ => .leaf
 | .mk _ _ _ _ _ _ k, i => k i
def cells (e : E) : List Value := [.int .i64 e.kind, .int .i64 e.v.k, .int .i64 e.v.n, .string e.v.s, .int .i64 e.col, .slice e.A e.n e.cap]
abbrev val (e : E) : Value := .agg #[.int .i64 e.kind, .int .i64 e.v.k, .int .i64 e.v.n, .string e.v.s, .int .i64 e.col, .slice e.A e.n e.cap]
end E
structure zF (w : World) (g o : Nat) (e : E) : Prop where
 c0 : w.cell? ⟨g, o, none⟩ = some (.int .i64 e.kind)
 c1 : w.cell? ⟨g, o + 1, none⟩ = some (.int .i64 e.v.k)
 c2 : w.cell? ⟨g, o + 2, none⟩ = some (.int .i64 e.v.n)
 c3 : w.cell? ⟨g, o + 3, none⟩ = some (.string e.v.s)
 c4 : w.cell? ⟨g, o + 4, none⟩ = some (.int .i64 e.col)
 c5 : w.cell? ⟨g, o + 5, none⟩ = some (.slice e.A e.n e.cap)
inductive EX (w : World) : E -> Prop
 | leaf : EX w .leaf
 | mk {k : Int} {v : V} {c : Int} {A : Option Addr} {n cap : Nat} {kid : Nat -> E} (hn : n <= maxLen) (hc : ∀ i, i < n -> ∃ g o, A = some ⟨g, o, none⟩ /\ zF w g (o + i * 6) (kid i)) (hk : ∀ i, i < n -> EX w (kid i)) (hv : VB v) (hi : x7 k /\ x7 c) : EX w (.mk k v c A n cap kid)
theorem zF.grow {w w' : World} (h : za w w') {g o : Nat} {e : E} (hc : zF w g o e) : zF w' g o e :=
 ⟨h.cell hc.c0, h.cell hc.c1, h.cell hc.c2, h.cell hc.c3, h.cell hc.c4, h.cell hc.c5⟩
theorem EX.grow {w w' : World} (h : za w w') {e : E} (he : EX w e) : EX w' e := by
 induction he with
 | leaf => exact .leaf
 | mk hn hc hk hv hi ih => exact .mk hn (fun i hi => by obtain ⟨g, o, h1, h2⟩ := hc i hi; exact ⟨g, o, h1, h2.grow h⟩) ih hv hi
section
variable {H : Type} {enc : TypeId × Value -> H} {w : World} {base : Nat} {spare : Nat -> Bool} {held : Bool}
theorem NL {t e : TypeId} {fuel c : Nat} {cs : List Value} {x : DataW H × List MemPlace} (ht : Tryz.prog.underlying t = some (.slice e)) (hc : Tryz.prog.cellsOf e = c) (hc0 : 0 < c) (h : DataW.trod enc Tryz.prog w base spare held fuel t cs = some x) :
  ∃ (A : Option Addr) (len cap n : Nat) (D : Nat -> DataW H × List MemPlace), n < fuel + 1 /\ cs = [.slice A len cap] /\ len <= maxLen /\ len <= cap /\ ∀ i, i < len -> n < fuel /\ ∃ g o ys, A = some ⟨g, o, none⟩ /\ ys.length = c /\ (∀ j y, ys[j]? = some y -> w.cell? ⟨g, o + i * c + j, none⟩ = some y) /\ DataW.trod enc Tryz.prog w base spare held n e ys = some (D i) := by
 rcases DataW.trod_slice ht h with ⟨h0, _⟩ | ⟨a, len, cap, elems, rest, n, hfu, hcs, _, hb, hl, hm, hlen, hel, _, _⟩
 ·exact xI_
 ·refine ⟨some a, len, cap, n, fun i => elems.getD i (.nil, []), by omega, hcs, by omega, hl, fun i hi => ⟨by omega, ?_⟩⟩
  have get : ∀ i, i < len -> ∃ ys, w.cells? base (a.add (i * c)) c = some ys /\ DataW.trod enc Tryz.prog w base spare held n e ys = some (elems.getD i (.nil, [])) := fun i hi => wh_
  have hsp : a.spot = none := we_
  obtain ⟨g, o, sp⟩ := a; simp only at hsp; subst hsp; obtain ⟨ys, hcell, hd⟩ := get i hi; obtain ⟨_, hyl, hat⟩ := World.cells?_some hcell; refine ⟨g, o, ys, rfl, hyl, fun j y hy => ?_, hd⟩; have hj : j < c := by rw [<- hyl]; exact (qQ9.1 hy).1
  have := hat j hj; rw [hy, Xe, Xe] at this; exact this
theorem JB : ∀ (fuel : Nat) {cs : List Value} {x : DataW H × List MemPlace}, DataW.trod enc Tryz.prog w base spare held fuel 35 cs = some x ->
  ∃ e : E, cs = e.cells /\ EX w e := by
 intro fuel
 induction fuel using Nat.strongRecOn with
 | ind fuel ih =>
  intro cs x h; obtain ⟨xs, n, hfu, _, hlen, hxl, hf⟩ := DataW.trod_struct Tryz.underlying35 h; have h6 : cs.length = 6 := by rw [hlen]; kernel_rfl
  match cs, h6 with
  | [a, b, c, d, e, f], _ =>
   have f0 := hf 0 _ rfl; have f1 := hf 1 _ rfl; have f2 := hf 2 _ rfl; have f3 := hf 3 _ rfl; have g : ∀ i, i < 4 -> ∃ y, xs[i]? = some y := fun i hi => ⟨xs[i]' uk_, qQ_ _⟩
   obtain ⟨y0, e0⟩ := g 0 uX_; obtain ⟨y1, e1⟩ := g 1 uX_; obtain ⟨y2, e2⟩ := g 2 uX_; obtain ⟨y3, e3⟩ := g 3 uX_; rw [e0] at f0; rw [e1] at f1; rw [e2] at f2; rw [e3] at f3; obtain ⟨k, hk, _, wk⟩ := DataW.trod_int Tryz.underlying3 f0; obtain ⟨v, hv, bv⟩ := MP f1; obtain ⟨m, hm, _, wm⟩ := DataW.trod_int Tryz.underlying3 f2; obtain ⟨A, len, cap, n', D, hn', hcs, hl, _, hi⟩ := NL (c := 6) Tryz.underlying23 uQ_ uX_ f3; have c0 : Tryz.prog.cellsOf 3 = 1 := by kernel_rfl
   have c1 : Tryz.prog.cellsOf 33 = 3 := by kernel_rfl
   have c2 : Tryz.prog.cellsOf 23 = 1 := by kernel_rfl
   simp [c0] at hk; simp [c1] at hv; simp [c0] at hm; simp [c2] at hcs
   have pick : ∀ i, i < len -> ∃ e : E, (∃ g o, A = some ⟨g, o, none⟩ /\ zF w g (o + i * 6) e) /\ EX w e := fun i hlt => by
    obtain ⟨hlt', g, o, ys, hA, hyl, hat, hd⟩ := hi i hlt; obtain ⟨e, he, hx⟩ := ih n' uX_ hd; subst he; exact ⟨e, ⟨g, o, hA, hat 0 _ rfl, hat 1 _ rfl, hat 2 _ rfl, hat 3 _ rfl, hat 4 _ rfl, hat 5 _ rfl⟩, hx⟩
   obtain ⟨kid, hkid⟩ := Go.Deep.choose_lt pick; refine ⟨.mk k v m A len cap kid, ?_, .mk hl (fun i hi => (hkid i hi).1) (fun i hi => (hkid i hi).2) bv ⟨YD wk, YD wm⟩⟩; obtain ⟨h1, h2, h3⟩ := hv; simp [E.cells, E.kind, E.v, E.col, E.A, E.n, E.cap, hk, h1, h2, h3, hm, hcs]
end
end Go.Proofs.YtflggnopgnoeiaaGreat
namespace Go.Proofs.YtflggnopgnoeiaaGreat
open Go.RowKit Go.Calm
def zT (f : Nat -> Int -> Int × Int × Int) : Nat -> Nat -> Int -> List Int -> Int × Int × List Int
 | 0, _, m, ts => (0, m, ts)
 | r + 1, i, m, ts => if (f i m).2.1 = 0 then zT f r (i + 1) (f i m).2.2 (ts ++ [(f i m).1]) else ((f i m).2.1, (f i m).2.2, ts)
def yw (cols : List Int) : E -> Int -> Int -> Int × Int × Int
 | .leaf, deep, m => if 200 < m + 1 \/ 20 < deep then (0, 4, m + 1) else (0, 1, m + 1)
 | .mk k v c _ n _ kid, deep, m =>
  if 200 < m + 1 \/ 20 < deep then (0, 4, m + 1)
  else if zl k < 0 then (0, 1, m + 1)
  else if (n : Int) ≠ zl k then (0, 5, m + 1)
  else
   let r := zT (fun i m' => yw cols (kid i) (deep + 1) m') n 0 (m + 1) []
   if r.1 ≠ 0 then (0, r.1, r.2.1)
   else if k = 1 then (v.k, zY v, r.2.1)
   else if k = 2 then (if c < 0 \/ (cols.length : Int) <= c then (0, 7, r.2.1) else (cols.getD c.toNat 0, 0, r.2.1))
   else if k = 16 then (2, 0, r.2.1)
   else ((zx k r.2.2).1, (zx k r.2.2).2, r.2.1)
theorem Ky {f : Nat -> Int -> Int × Int × Int} (hf : ∀ i m, m <= 200 -> m <= (f i m).2.2 /\ (f i m).2.2 <= 201 /\ ((f i m).2.1 = 0 -> (f i m).2.2 <= 200)) : ∀ (r i : Nat) (m : Int) (ts : List Int), m <= 200 ->
  m <= (zT f r i m ts).2.1 /\ (zT f r i m ts).2.1 <= 201 /\ ((zT f r i m ts).1 = 0 -> (zT f r i m ts).2.1 <= 200 /\ (zT f r i m ts).2.2.length = ts.length + r)
 | 0, i, m, ts, h => by simp [zT]; omega
 | r + 1, i, m, ts, h => by
  unfold zT; obtain ⟨h1, h2, h3⟩ := hf i m h; split
  ·rename_i h0; have := h3 h0; obtain ⟨g1, g2, g3⟩ := Ky hf r (i + 1) (f i m).2.2 (ts ++ [(f i m).1]) this; refine ⟨by omega, g2, fun h => ?_⟩; obtain ⟨g4, g5⟩ := g3 h; refine ⟨g4, ?_⟩; rw [g5]; simp; omega
  ·rename_i h0; exact ⟨h1, h2, fun h => absurd h h0⟩
theorem Uk (cols : List Int) (e : E) : ∀ (deep m : Int), m <= 200 -> m <= (yw cols e deep m).2.2 /\ (yw cols e deep m).2.2 <= 201 /\ ((yw cols e deep m).2.1 = 0 -> (yw cols e deep m).2.2 <= 200) := by
 induction e with
 | leaf =>
  intro deep m h; unfold yw; split <;> simp <;> omega
 | mk k v c A n cap kid ih =>
  intro deep m h; unfold yw; split
  ·simp; omega
  ·split
   ·simp; omega
   ·split
    ·simp; omega
    ·obtain ⟨g1, g2, g3⟩ := Ky (f := fun i m' => yw cols (kid i) (deep + 1) m') (fun i m hm => ih i (deep + 1) m hm) n 0 (m + 1) [] uX_; simp only; split
     ·exact ⟨by simp only; omega, by simp only; omega, fun h' => by rename_i h0; exact absurd h' h0⟩
     ·rename_i h0; obtain ⟨g4, g5⟩ := g3 ux_
      repeat' split
      all_goals exact ⟨by simp only; omega, by simp only; omega, fun _ => by simp only; omega⟩
def zbX (cols : List Int) (Ac : Option Addr) (cc : Nat) (e : E) : Prop := ∀ (gx ox g : Nat) (deep m : Int) (w0 w : World), EX w0 e -> zF w0 gx ox e -> yU w0 Ac cols -> za w0 w -> w0.heap.size <= g ->
 zb w g 147 #[.slice Ac cols.length cc, .int .i64 m] -> 0 <= m -> m <= 200 -> 1 <= deep -> deep <= 21 ->
 Calls Tryz.prog 110 #[.pointer (some ⟨g, 0, none⟩), .pointer (some ⟨gx, ox, none⟩), .int .i64 deep] w fun en w' =>
  en = .returned (.tuple #[.int .i64 (yw cols e deep m).1, .int .i64 (yw cols e deep m).2.1]) /\ zb w' g 147 #[.slice Ac cols.length cc, .int .i64 (yw cols e deep m).2.2] /\ GX g w w'
theorem RD (cols : List Int) (Ac : Option Addr) (cc : Nat) (gx ox g : Nat) (deep m : Int) (w : World) (hb : zb w g 147 #[.slice Ac cols.length cc, .int .i64 m]) (h0 : 0 <= m) (h1 : m <= 200) (h : 200 < m + 1 \/ 20 < deep) :
 Calls Tryz.prog 110 #[.pointer (some ⟨g, 0, none⟩), .pointer (some ⟨gx, ox, none⟩), .int .i64 deep] w fun en w' =>
  en = .returned (.tuple #[.int .i64 0, .int .i64 4]) /\ zb w' g 147 #[.slice Ac cols.length cc, .int .i64 (m + 1)] /\ GX g w w' := by
 obtain ⟨c, f⟩ := hb.rules
 have d : (decide (200 < m + 1) = true) \/ (decide (200 < m + 1) = false /\ decide (20 < deep) = true) := wD_
 clear h; rcases d with d1 | ⟨d1, d2⟩
 ·exact xD_
 ·exact xD_
theorem RC (cols : List Int) (Ac : Option Addr) (cc : Nat) (e : E) (gx ox g : Nat) (deep m : Int) (w : World) (hb : zb w g 147 #[.slice Ac cols.length cc, .int .i64 m]) (hne : gx ≠ g) (hx : zF w gx ox e) (hn : e.n <= maxLen) (h0 : 0 <= m) (d1 : decide (200 < m + 1) = false) (d2 : decide (20 < deep) = false)
  (h : zl e.kind < 0 \/ ¬ zl e.kind < 0 /\ (e.n : Int) ≠ zl e.kind) :
 Calls Tryz.prog 110 #[.pointer (some ⟨g, 0, none⟩), .pointer (some ⟨gx, ox, none⟩), .int .i64 deep] w fun en w' =>
  en = .returned (.tuple #[.int .i64 0, .int .i64 (if zl e.kind < 0 then 1 else 5)]) /\ zb w' g 147 #[.slice Ac cols.length cc, .int .i64 (m + 1)] /\ GX g w w' := by
 obtain ⟨c, f⟩ := hb.rules; obtain ⟨c0, c1, c2, c3, c4, c5⟩ := hx; have hm : m + 1 <= 200 := by simp at d1; omega
 have d : (decide (zl e.kind < 0) = true) \/ (decide (zl e.kind < 0) = false /\ ((e.n : Int) != zl e.kind) = true) := wW_
 clear h; rcases d with d3 | ⟨d3, d4⟩
 ·have e1 : (if zl e.kind < 0 then (1 : Int) else 5) = 1 := if_pos uy_; rw [e1]; clear e1; go_enter Tryz.func110, Tryz.ntmps110
  go_wp2_with ((go_at_call 148; ((with_reducible refine (kB _ _).mono ?_); rintro e w' ⟨rfl, rfl⟩)))
  exact qX_ vE_ rfl ⟨rfl, hb.set 1 _, (GX.refl g w).set 1 _⟩
 ·have e1 : (if zl e.kind < 0 then (1 : Int) else 5) = 5 := if_neg uy_; rw [e1]; clear e1; go_enter Tryz.func110, Tryz.ntmps110
  go_wp2_with ((go_at_call 148; ((with_reducible refine (kB _ _).mono ?_); rintro e w' ⟨rfl, rfl⟩)))
  exact qX_ vE_ rfl ⟨rfl, hb.set 1 _, (GX.refl g w).set 1 _⟩
theorem zF.gx {w w' : World} {g gx ox : Nat} {e : E} (h : GX g w w') (hne : gx ≠ g) (hc : zF w gx ox e) : zF w' gx ox e :=
 ⟨h.cell hc.c0 us_, h.cell hc.c1 us_, h.cell hc.c2 us_, h.cell hc.c3 us_, h.cell hc.c4 us_, h.cell hc.c5 us_⟩
theorem zaz (cols : List Int) (Ac : Option Addr) (cc : Nat) (e : E) (gx ox g : Nat) (deep m : Int) (w : World) (hb : zb w g 147 #[.slice Ac cols.length cc, .int .i64 m]) (hne : gx ≠ g) (hx : zF w gx ox e) (h0 : 0 <= m) (d1 : decide (200 < m + 1) = false) (d2 : decide (20 < deep) = false) (hk : e.kind = 1) (hn : e.n = 0) :
 Calls Tryz.prog 110 #[.pointer (some ⟨g, 0, none⟩), .pointer (some ⟨gx, ox, none⟩), .int .i64 deep] w fun en w' =>
  en = .returned (.tuple #[.int .i64 e.v.k, .int .i64 (zY e.v)]) /\ zb w' g 147 #[.slice Ac cols.length cc, .int .i64 (m + 1)] /\ GX g w w' := by
 obtain ⟨c, f⟩ := hb.rules; have hx0 := hh_ hx; obtain ⟨c0, c1, c2, c3, c4, c5⟩ := hx; have hm : m + 1 <= 200 := by simp at d1; omega
 have kn : zl 1 = 0 := rfl; rw [hk] at c0; rw [hn] at c5; clear hk hn; go_enter Tryz.func110, Tryz.ntmps110
 go_wp2_with ((go_at_call 148; ((with_reducible refine (kB _ _).mono ?_); rintro e w' ⟨rfl, rfl⟩)))
 refine wp_loop_rounds 1 ?_; rw [rounds_succ]; go_wp2; refine zc (fun W => zF W gx ox e /\ zb W g 147 #[.slice Ac cols.length cc, .int .i64 (m + 1)] /\ GX g w W) ⟨hx0.out.gx ((GX.refl g w).set 1 _) hne, hb.set 1 _, (GX.refl g w).set 1 _⟩ ?_; clear c f c0 c1 c2 c3 c4 c5 hb hx0; rintro W ⟨hx, hb, hg⟩; apply wp_region_calm 12 uQ_ uQ_
 case h' =>
  intro Q0 hQ0; simp only [List.take_succ_cons, List.take_zero]
  repeat ((first | ((first | apply calm_p rfl | apply zu rfl rfl rfl); case h1 => (intro w1 hw1 hF K hK; obtain ⟨c0, c1, c2, c3, c4, c5⟩ := hx.grow hw1; go_simp; first | exact hK _ (za.refl _) | (go_at_call 113; ((with_reducible refine (jB e.v _).mono ?_); rintro e w' ⟨rfl, hg⟩; exact ⟨_, rfl, hK _ hg⟩)))) | apply zw rfl rfl rfl rfl); intro K hK; go_simp; apply hK; clear hK K)
  refine calm_nil ?_; intro w1 hw1 hF; apply hQ0; clear hQ0; simp only [List.drop_succ_cons, List.drop_zero]; clear hF; go_wp2; exact qX_ vE_ rfl ⟨rfl, hb.grow hw1, hg.grow hw1⟩
 case hp' => trivial
theorem FJ (cols : List Int) (Ac : Option Addr) (cc : Nat) (e : E) (gx ox g : Nat) (deep m : Int) (w : World) (hb : zb w g 147 #[.slice Ac cols.length cc, .int .i64 m]) (hne : gx ≠ g) (hx : zF w gx ox e) (h0 : 0 <= m) (d1 : decide (200 < m + 1) = false) (d2 : decide (20 < deep) = false) (hk : e.kind = 2) (hn : e.n = 0) (h : e.col < 0 \/ (cols.length : Int) <= e.col) :
 Calls Tryz.prog 110 #[.pointer (some ⟨g, 0, none⟩), .pointer (some ⟨gx, ox, none⟩), .int .i64 deep] w fun en w' =>
  en = .returned (.tuple #[.int .i64 0, .int .i64 7]) /\ zb w' g 147 #[.slice Ac cols.length cc, .int .i64 (m + 1)] /\ GX g w w' := by
 obtain ⟨c, f⟩ := hb.rules; obtain ⟨c0, c1, c2, c3, c4, c5⟩ := hx; have hm : m + 1 <= 200 := by simp at d1; omega
 have kn : zl 2 = 0 := rfl; rw [hk] at c0; rw [hn] at c5
 have d : decide (e.col < 0) = true \/ decide (e.col < 0) = false /\ decide ((cols.length : Int) <= e.col) = true := wD_
 clear h hk hn; rcases d with d3 | ⟨d3, d4⟩
 ·exact wA_
 ·exact wA_
theorem zay (cols : List Int) (Ac : Option Addr) (cc : Nat) (e : E) (gx ox g : Nat) (deep m : Int) (w : World) (hb : zb w g 147 #[.slice Ac cols.length cc, .int .i64 m]) (hne : gx ≠ g) (hx : zF w gx ox e) (h0 : 0 <= m) (d1 : decide (200 < m + 1) = false) (d2 : decide (20 < deep) = false) (hk : e.kind = 2) (hn : e.n = 0) (hcol : 0 <= e.col) (hlt : e.col < (cols.length : Int)) (hlen : cols.length <= 9223372036854775807) (hi : yU w Ac cols) (hg : ∀ a : Addr, Ac = some a -> a.block ≠ g) :
 Calls Tryz.prog 110 #[.pointer (some ⟨g, 0, none⟩), .pointer (some ⟨gx, ox, none⟩), .int .i64 deep] w fun en w' =>
  en = .returned (.tuple #[.int .i64 (cols.getD e.col.toNat 0), .int .i64 0]) /\ zb w' g 147 #[.slice Ac cols.length cc, .int .i64 (m + 1)] /\ GX g w w' := by
 obtain ⟨j, hj⟩ : ∃ j : Nat, e.col = j := ⟨e.col.toNat, by omega⟩
 have hjl : j < cols.length := by omega
 have hjv : cols[j]? = some (cols.getD e.col.toNat 0) := by rw [hj]; simp [hjl]
 obtain ⟨ga, oa, rfl, ca⟩ := hi j _ hjv; have hga : ga ≠ g := hg _ rfl; generalize cols.getD e.col.toNat 0 = t at *; obtain ⟨c, f⟩ := hb.rules; obtain ⟨c0, c1, c2, c3, c4, c5⟩ := hx; have hm : m + 1 <= 200 := by simp at d1; omega
 have kn : zl 2 = 0 := rfl; rw [hk] at c0; rw [hn] at c5; rw [hj] at c4; have d3 : decide ((j : Int) < 0) = false := by simp
 have d4 : decide ((cols.length : Int) <= (j : Int)) = false := by simp; omega
 clear hk hn hj hjv hlt hcol hi hg; go_enter Tryz.func110, Tryz.ntmps110
 go_wp2_with ((go_at_call 148; ((with_reducible refine (kB _ _).mono ?_); rintro e w' ⟨rfl, rfl⟩)))
 refine wp_loop_rounds 1 ?_; rw [rounds_succ]; go_wp2
 go_quiet (fail)
 go_wp2
 go_quiet (fail)
 go_wp2; exact qX_ vE_ rfl ⟨rfl, hb.set 1 _, (((GX.refl g w).set 1 _).drewN _).drewN _⟩
def jj (k : Int) (r : Int × Int × List Int) : Int × Int × Int :=
 if r.1 ≠ 0 then (0, r.1, r.2.1)
 else if k = 16 then (2, 0, r.2.1)
 else ((zx k r.2.2).1, (zx k r.2.2).2, r.2.1)
theorem ML (cols : List Int) (k : Int) (v : V) (c : Int) (A : Option Addr) (n cap : Nat) (kid : Nat -> E) (deep m : Int) (h1 : ¬ (200 < m + 1 \/ 20 < deep)) (h2 : 1 <= zl k) (h3 : (n : Int) = zl k) :
  yw cols (.mk k v c A n cap kid) deep m = jj k (zT (fun i m' => yw cols (kid i) (deep + 1) m') n 0 (m + 1) []) := by
 have hk1 : k ≠ 1 := by rintro rfl; have : zl 1 = 0 := rfl; omega
 have hk2 : k ≠ 2 := by rintro rfl; have : zl 2 = 0 := rfl; omega
 conv => lhs; unfold yw
 rw [if_neg h1, if_neg uX_, if_neg uX_]; simp only [if_neg hk1, if_neg hk2]; rfl
theorem JW (k : Int) : zl k <= 3 := by
 unfold zl
 repeat' split
 all_goals omega
theorem KA {F : Nat -> Int -> Int × Int × Int} {n j : Nat} {m q1 q3 : Int} {ts : List Int} (hj : j < n) (h : F j m = (q1, 0, q3)) : zT F (n - j) j m ts = zT F (n - (j + 1)) (j + 1) q3 (ts ++ [q1]) := by
 rw [show n - j = (n - (j + 1)) + 1 by omega]
 conv => lhs; unfold zT
 rw [h]; simp
theorem Kz {F : Nat -> Int -> Int × Int × Int} {n j : Nat} {m q1 q2 q3 : Int} {ts : List Int} (hj : j < n) (h : F j m = (q1, q2, q3)) (hne : q2 ≠ 0) : zT F (n - j) j m ts = (q2, q3, ts) := by
 rw [show n - j = (n - (j + 1)) + 1 by omega]
 conv => lhs; unfold zT
 rw [h]; simp [hne]
theorem QZ {w : World} {B g : Nat} {t : Value} {ts : List Value} {e : TypeId} {n : Nat} (h : w.ownsRow B e 1 t n ts) (hg : g < B) : t.ownBlock = none \/ t.ownBlock ≠ some g := by
 right; intro he; have := (h.lt g he).1; omega
theorem Dv : (Tryz.prog.info? 3).map (fun i => (i.zero, i.size, i.bytes)) = some (some (.int .i64 0), 1, 8) := by kernel_rfl
theorem qV : ∃ i, Tryz.prog.info? 3 = some i /\ i.zero = some (.int .i64 0) /\ i.size = 1 /\ i.bytes = 8 := by
 have h := Dv; cases hi : Tryz.prog.info? 3 with
 | none => rw [hi] at h; simp at h
 | some i => rw [hi] at h; simp at h; exact ⟨i, rfl, h.1, h.2.1, h.2.2⟩
abbrev zaS (w : World) (B : Nat) (t : Value) (ts : List Int) : Prop := w.ownsRow B 3 1 t ts.length (ts.map (Value.int .i64))
theorem DL (k : Int) (t : Value) (ts : List Int) (B : Nat) (w : World) (h : zaS w B t ts) (hl : (ts.length : Int) = zl k) (h1 : 1 <= zl k) (h16 : k ≠ 16) :
  Calls Tryz.prog 149 #[.int .i64 k, t] w fun e w' => e = .returned (.tuple #[.int .i64 (zx k ts).1, .int .i64 (zx k ts).2]) /\ za w w' := by
 obtain ⟨_, h⟩ := h; rcases h with ⟨_, h0⟩ | ⟨g, cap, cur, rfl, hB, hg, hle, hmx, hcs, htk⟩
 ·omega
 ·have cell : ∀ (i : Nat) (x : Int), ts[i]? = some x -> w.cell? ⟨g, i, none⟩ = some (.int .i64 x) := fun i x hx => by
   have hi : i < ts.length := (qQ9.1 hx).1; have hb : zb w g 3 cur := hg; rw [hb.cell i]; have e : (ts.map (Value.int .i64))[i]? = some (.int .i64 x) := by simp [hx]
   rw [<- htk, List.getElem?_take] at e; simpa [hi] using e
  have hk : k <= 5 \/ (6 <= k /\ k <= 11 \/ k = 18) \/ (12 <= k /\ k <= 15) \/ k = 17 := by
   unfold zl at h1
   repeat' split at h1
   all_goals omega
  have hsl : yU w (some ⟨g, 0, none⟩) ts := fun i x hx => ⟨g, 0, rfl, by rw [Nat.zero_add]; exact cell i x hx⟩
  have hlen : ts.length <= 9223372036854775807 := by have := JW k; omega
  rcases hk with hk | hk | hk | rfl
  ·exact PP k ts _ _ w hlen hsl (.inl hk)
  ·have h2 : zl k = 2 := by
    unfold zl
    repeat' split
    all_goals omega
   match ts, hl, cell with
   | [x, y], _, cell => exact DO k x y g 0 cap w (cell 0 x rfl) (cell 1 y rfl) hk
   | [], hl, _ => simp at hl; omega
   | [_], hl, _ => simp at hl; omega
   | _ :: _ :: _ :: _, hl, _ => simp at hl; omega
  ·exact PP k ts _ _ w hlen hsl (.inr hk)
  ·have h3 : zl 17 = 3 := rfl
   match ts, hl, cell, hle with
   | [x, y, z], _, cell, hle => exact SB x y z g 0 cap (by simp at hle; omega) w (cell 0 x rfl) (cell 1 y rfl) (cell 2 z rfl)
   | [], hl, _, _ => simp at hl; omega
   | [_], hl, _, _ => simp at hl; omega
   | [_, _], hl, _, _ => simp at hl; omega
   | _ :: _ :: _ :: _ :: _, hl, _, _ => simp at hl; omega
theorem FH (cols : List Int) (Ac : Option Addr) (cc : Nat) (k : Int) (v : V) (c : Int) (A : Option Addr) (n cap : Nat) (kid : Nat -> E) (ih : ∀ i, zbX cols Ac cc (kid i))
  (gx ox g : Nat) (deep m : Int) (w0 w : World) (hE : EX w0 (.mk k v c A n cap kid)) (hx : zF w0 gx ox (.mk k v c A n cap kid)) (hcols : yU w0 Ac cols) (hg0 : za w0 w) (hlt : w0.heap.size <= g)
  (hb : zb w g 147 #[.slice Ac cols.length cc, .int .i64 m]) (h0 : 0 <= m) (d1 : decide (200 < m + 1) = false) (d2 : decide (20 < deep) = false) (hd0 : 1 <= deep) (hkn : 1 <= zl k) (hn : (n : Int) = zl k)
  (T ER M : Int) (hT : jj k (zT (fun i m' => yw cols (kid i) (deep + 1) m') n 0 (m + 1) []) = (T, ER, M)) :
 Calls Tryz.prog 110 #[.pointer (some ⟨g, 0, none⟩), .pointer (some ⟨gx, ox, none⟩), .int .i64 deep] w fun en w' =>
  en = .returned (.tuple #[.int .i64 T, .int .i64 ER]) /\ zb w' g 147 #[.slice Ac cols.length cc, .int .i64 M] /\ GX g w w' := by
 have Hx := hh_ hx; have Hb := hh_ hb; have HT := hh_ hT; have Hn := hh_ hn; have d3 : decide (zl k < 0) = false := by simp; omega
 have d4 : ((n : Int) != zl k) = false := by simpa using hn
 obtain ⟨cb, fb⟩ := hb.rules; have hgN : g < w.heap.size := hb.lt; have hn3 : n <= 3 := by have := JW k; omega
 have hm : m + 1 <= 200 := by simp at d1; omega
 have hd : deep <= 20 := by simp at d2; omega
 have hne : gx ≠ g := wV_
 have hxw := hx.grow hg0; obtain ⟨c0, c1, c2, c3, c4, c5⟩ := hxw; simp only [E.kind, E.v, E.col, E.A, E.n, E.cap] at c0 c1 c2 c3 c4 c5; clear hT hn hx hb; go_enter Tryz.func110, Tryz.ntmps110
 go_wp2_with ((go_at_call 148; ((with_reducible refine (kB _ _).mono ?_); rintro e w' ⟨rfl, rfl⟩)))
 go_loopw [9, 50] (fun t i wr => ∃ (j : Nat) (m' : Int) (ts : List Int), j <= n /\ i = .int .i64 j /\ zaS wr w.heap.size t ts /\ zb wr g 147 #[.slice Ac cols.length cc, .int .i64 m'] /\ GX g w wr /\ 0 <= m' /\ m' <= 200 /\ ts.length = j /\
   zT (fun i m' => yw cols (kid i) (deep + 1) m') (n - j) j m' ts = zT (fun i m' => yw cols (kid i) (deep + 1) m') n 0 (m + 1) []) (fun _ i _ => n - (intOf i).toNat)
 case atStart => exact ⟨0, m + 1, [], Nat.zero_le _, rfl, World.ownsRow_nil _ _ _ _, Hb.out.set 1 _, (GX.refl g w).set 1 _, by omega, by omega, rfl, rfl⟩
 case round =>
  obtain ⟨j, m', ts, hj, rfl, hown, hbr, hgx, hm0, hm1, htl, hR⟩ := hrel; have hgw := GX.base hg0 hlt hgx; have Own := hh_ hown; have HR := hh_ hR; have hbs := hh_ hbr; obtain ⟨c0, c1, c2, c3, c4, c5⟩ := Hx.out.grow hgw; simp only [E.kind, E.v, E.col, E.A, E.n, E.cap] at c0 c1 c2 c3 c4 c5; clear hown hR hbr; have Ti := hh_ qV
  by_cases hlt : j < n
  ·obtain ⟨gk, ok, hA, hck, hEk⟩ : ∃ gk ok, A = some ⟨gk, ok, none⟩ /\ zF w0 gk (ok + j * 6) (kid j) /\ EX w0 (kid j) := by
    cases hE with
    | mk hn' hc hk hv hi =>
     obtain ⟨gk, ok, h1, h2⟩ := hc j hlt; exact ⟨gk, ok, h1, h2, hk j hlt⟩
   subst hA; obtain ⟨q1, q2, q3, hq⟩ : ∃ q1 q2 q3, yw cols (kid j) (deep + 1) m' = (q1, q2, q3) := ⟨_, _, _, rfl⟩
   have hbd := Uk cols (kid j) (deep + 1) m' hm1; have ihj := ih j gk (ok + j * 6) g (deep + 1) m' w0 wr hEk hck hcols hgw uP_ hbs.out hm0 hm1 uX_ uX_; rw [hq] at hbd ihj; simp only at hbd ihj; have Hq := hh_ hq; clear hq hck hEk
   by_cases h2 : q2 = 0
   ·subst h2; obtain ⟨ti, hi, hz0, hz1, hz2⟩ := Ti.out
    go_wp2_with (first
     | (at_builtin; refine wpList_append_own _ rfl _ _ 22 rfl w.heap.size 3 ti (.int .i64 0) 1 8 Tryz.underlying22 hi hz0 hz1 hz2 rfl uW_ _ _ _ rfl (Own2.out.alloc _) ⟨w2.heap.size, 0, none⟩ 1 1 [.int .i64 q1] rfl rfl ?c1 ?c2 ?c3 ?c4 ?c5 ?_)
     | (go_at_call 110; ((with_reducible refine ihj.mono ?_); rintro e w2 ⟨rfl, hb2, hg2⟩; have Own2 := hh_ (Own.out.kept hg2 (QZ Own.out hgN)))))
    case c1 => exact wR_
    case c2 => exact x2_
    case c3 => exact yc_
    case c4 => omega
    case c5 => have := hgx.size; have := hg2.size; simp; omega
    ·intro v' w3 hown' hgrow _; have Fin := hh_ (KA (F := fun i m' => yw cols (kid i) (deep + 1) m') (ts := ts) hlt Hq.out)
     have hb3 : zb w3 g 147 #[.slice Ac cols.length cc, .int .i64 q3] := by
      have h1 := hb2.al (.cells #[.int .i64 q1] 3); have h2 := h1.lt; unfold zb at h1 ⊢; rw [hgrow.block g h2 (fun e => by rcases QZ Own.out hgN with h | h <;> rw [<- e] at h <;> simp at h)]; exact h1
     have hg3 : GX g w w3 := GX.own ((hgx.trans hg2).al _) hgrow (fun i hi => (Own.out.lt i hi).1); clear hgrow hb2 hg2 ihj; go_wp2; go_roundw
     case rel => exact ⟨j + 1, q3, ts ++ [q1], by omega, by go_num, by unfold zaS; simpa [htl] using hown', hb3, hg3, by have := hbd.1; omega, by simpa using hbd.2.2, by simp [htl], by rw [<- Fin.out]; exact HR.out⟩
     case measure => exact u1_
   ·have dq : (q2 != 0) = true := by simpa using h2
    have fin : jj k (zT (fun i m' => yw cols (kid i) (deep + 1) m') n 0 (m + 1) []) = (0, q2, q3) := by
     rw [<- HR.out, Kz (F := fun i m' => yw cols (kid i) (deep + 1) m') hlt Hq.out h2]; simp [jj, h2]
    obtain ⟨rfl, rfl, rfl⟩ : T = 0 /\ ER = q2 /\ M = q3 := by simpa using HT.out.symm.trans fin
    clear fin h2
    go_wp2_with (go_at_call 110; ((with_reducible refine ihj.mono ?_); rintro e w2 ⟨rfl, hb2, hg2⟩))
    exact qX_ vE_ rfl ⟨rfl, hb2, hgx.trans hg2⟩
  ·obtain rfl : j = n := by omega
   have dk1 : (k == 1) = false := by simp; rintro rfl; have : zl 1 = 0 := rfl; omega
   have dk2 : (k == 2) = false := by simp; rintro rfl; have : zl 2 = 0 := rfl; omega
   have fin : jj k (0, m', ts) = (T, ER, M) := xG_
   by_cases h16 : k = 16
   ·subst h16
    obtain ⟨rfl, rfl, rfl⟩ : T = 2 /\ ER = 0 /\ M = m' := by
     have : jj 16 (0, m', ts) = (2, 0, m') := by simp [jj]
     simpa using fin.symm.trans this
    clear fin; go_wp2; exact qX_ vE_ rfl ⟨rfl, hbs.out, hgx⟩
   ·have dk3 : (k == 16) = false := by simpa using h16
    obtain ⟨rfl, rfl, rfl⟩ : T = (zx k ts).1 /\ ER = (zx k ts).2 /\ M = m' := by
     have : jj k (0, m', ts) = ((zx k ts).1, (zx k ts).2, m') := by simp [jj, h16]
     simpa using fin.symm.trans this
    have ck := DL k _ ts _ wr Own.out (by rw [htl]; exact Hn.out) hkn h16; clear fin h16
    go_wp2_with (go_at_call 149; ((with_reducible refine ck.mono ?_); rintro e w2 ⟨rfl, hg2⟩))
    exact qX_ vE_ rfl ⟨rfl, hbs.out.grow hg2, hgx.grow hg2⟩
theorem YY {k : Int} (h : zl k = 0) : k = 1 \/ k = 2 := x5_
theorem zax (cols : List Int) (Ac : Option Addr) (cc : Nat) (hlen : cols.length <= 9223372036854775807) (e : E) : zbX cols Ac cc e := by
 induction e with
 | leaf =>
  intro gx ox g deep m w0 w hE hx hcols hg0 hlt hb h0 h1 hd0 hd1
  have hne : gx ≠ g := wV_
  unfold yw
  by_cases hm : 200 < m + 1 \/ 20 < deep
  ·rw [if_pos hm]; exact RD cols Ac cc gx ox g deep m w hb h0 h1 hm
  ·rw [if_neg hm]; exact RC cols Ac cc .leaf gx ox g deep m w hb hne (hx.grow hg0) (Nat.zero_le _) h0 uN_ uN_ (.inl uW_)
 | mk k v c A n cap kid ih =>
  intro gx ox g deep m w0 w hE hx hcols hg0 hlt hb h0 h1 hd0 hd1
  have hne : gx ≠ g := wV_
  have hn : n <= maxLen := by cases hE with | mk hn => exact hn
  by_cases hm : 200 < m + 1 \/ 20 < deep
  ·unfold yw; rw [if_pos hm]; exact RD cols Ac cc gx ox g deep m w hb h0 h1 hm
  ·have d1 : decide (200 < m + 1) = false := by simp; omega
   have d2 : decide (20 < deep) = false := by simp; omega
   have hxw := hx.grow hg0
   by_cases hf : zl k < 0 \/ ¬ zl k < 0 /\ (n : Int) ≠ zl k
   ·have e : yw cols (.mk k v c A n cap kid) deep m = (0, if zl k < 0 then 1 else 5, m + 1) := by
     unfold yw; rw [if_neg hm]; rcases hf with hf | ⟨hf, hf2⟩
     ·exact yN_
     ·exact x4_
    rw [e]; exact RC cols Ac cc (.mk k v c A n cap kid) gx ox g deep m w hb hne hxw hn h0 d1 d2 hf
   ·have hk0 : ¬ zl k < 0 := fun h => hf (.inl h)
    have hnk : (n : Int) = zl k := Classical.byContradiction fun h => hf (.inr ⟨hk0, h⟩)
    by_cases hz : zl k = 0
    ·have hn0 : n = 0 := by omega
     subst hn0; rcases YY hz with rfl | rfl
     ·have e : yw cols (.mk 1 v c A 0 cap kid) deep m = (v.k, zY v, m + 1) := by
       unfold yw; rw [if_neg hm, if_neg hk0, if_neg uX_]; simp [zT]
      rw [e]; exact zaz cols Ac cc (.mk 1 v c A 0 cap kid) gx ox g deep m w hb hne hxw h0 d1 d2 rfl rfl
     ·by_cases hc : c < 0 \/ (cols.length : Int) <= c
      ·have e : yw cols (.mk 2 v c A 0 cap kid) deep m = (0, 7, m + 1) := by
        unfold yw; rw [if_neg hm, if_neg hk0, if_neg uX_]; simp [zT, hc]
       rw [e]; exact FJ cols Ac cc (.mk 2 v c A 0 cap kid) gx ox g deep m w hb hne hxw h0 d1 d2 rfl rfl hc
      ·have e : yw cols (.mk 2 v c A 0 cap kid) deep m = (cols.getD c.toNat 0, 0, m + 1) := by
        unfold yw; rw [if_neg hm, if_neg hk0, if_neg uX_]; simp only [zT]; rw [if_neg uY_, if_neg uW_, if_pos trivial, if_neg hc]
       rw [e]; refine zay cols Ac cc (.mk 2 v c A 0 cap kid) gx ox g deep m w hb hne hxw h0 d1 d2 rfl rfl ?_ ?_ hlen (hcols.grow hg0) (fun a ha => ?_)
       ·show 0 <= c; omega
       ·show c < (cols.length : Int); omega
       ·exact w1_
    ·rw [ML cols k v c A n cap kid deep m hm uX_ hnk]; obtain ⟨T, ER, M, hT⟩ : ∃ T ER M, jj k (zT (fun i m' => yw cols (kid i) (deep + 1) m') n 0 (m + 1) []) = (T, ER, M) := ⟨_, _, _, rfl⟩
     rw [hT]; exact FH cols Ac cc k v c A n cap kid ih gx ox g deep m w0 w hE hx hcols hg0 hlt hb h0 d1 d2 hd0 uX_ hnk T ER M hT
def xR (t : Int) : Bool := decide (1 <= t) && decide (t <= 4)
def zD (cols : List Int) (e : E) : Int × Int :=
 if 16 < cols.length then (0, 5)
 else if cols.all xR = false then (0, 1)
 else if (yw cols e 1 0).2.1 ≠ 0 then (0, (yw cols e 1 0).2.1)
 else ((yw cols e 1 0).1, 0)
theorem W2 {t : Int} (h : xR t = false) : decide (t < 1) = true \/ decide (t < 1) = false /\ decide (4 < t) = true := by
 simp [xR] at h; simp only [decide_eq_true_eq, decide_eq_false_iff_not]; omega
theorem W3 {t : Int} (h : xR t = true) : decide (t < 1) = false /\ decide (4 < t) = false := by
 simp [xR] at h; simp only [decide_eq_false_iff_not]; omega
theorem QF (cols : List Int) (Ac : Option Addr) (cc : Nat) (e : E) (w : World) (hlen : cols.length <= 9223372036854775807) (hcols : yU w Ac cols) (hE : EX w e) :
  Calls Tryz.prog 64 #[.slice Ac cols.length cc, e.val] w fun en w' => en = .returned (.tuple #[.int .i64 (zD cols e).1, .int .i64 (zD cols e).2]) /\ za w w' := by
 have HE := hh_ hE; have Hcols := hh_ hcols; clear hE hcols
 by_cases h16 : 16 < cols.length
 ·have e1 : zD cols e = (0, 5) := by simp [zD, h16]
  rw [e1]; clear e1; have d1 : decide (16 < (cols.length : Int)) = true := by simp; omega
  clear h16; unfold E.val; go_enter Tryz.func64, Tryz.ntmps64; go_wp2; exact qX_ vI_ rfl ⟨rfl, ze⟩
 ·have d1 : decide (16 < (cols.length : Int)) = false := by simp; omega
  obtain ⟨T, ER, hT⟩ : ∃ T ER, zD cols e = (T, ER) := ⟨_, _, rfl⟩
  rw [hT]; have HT := hh_ hT; have H16 := hh_ h16; clear hT h16; unfold E.val; go_enter Tryz.func64, Tryz.ntmps64; go_wp2; refine zc (fun W => zb W w.heap.size 35 #[.int .i64 e.kind, .int .i64 e.v.k, .int .i64 e.v.n, .string e.v.s, .int .i64 e.col, .slice e.A e.n e.cap] /\ za w W) ⟨zb.new _ _ _, ze⟩ ?_; rintro W ⟨B, G⟩
  go_loopw [15] (fun i wr => ∃ k : Nat, k <= cols.length /\ i = .int .i64 k /\ (cols.take k).all xR = true /\ wr = W) (fun i _ => cols.length - (intOf i).toNat)
  case atStart => exact wS_
  case round =>
   obtain ⟨k, hk, rfl, hall, rfl⟩ := hrel; have Hall := hh_ hall; clear hall
   by_cases hlt : k < cols.length
   ·obtain ⟨x, hxk⟩ : ∃ x, cols[k]? = some x := ⟨_, qQ_ hlt⟩
    obtain ⟨g, o, rfl, c1⟩ := (Hcols.out.grow G) k x hxk; have Hxk := hh_ hxk; clear hxk; cases hr : xR x
    ·have fin : zD cols e = (0, 1) := by
      have := jr xR cols k x Hxk.out hr; unfold zD; rw [if_neg H16.out, if_pos this]
     obtain ⟨rfl, rfl⟩ : T = 0 /\ ER = 1 := by simpa using HT.out.symm.trans fin
     clear fin; rcases W2 hr with d2 | ⟨d2, d3⟩
     ·go_wp2; exact qX_ vI_ rfl ⟨rfl, ze⟩
     ·go_wp2; exact qX_ vI_ rfl ⟨rfl, ze⟩
    ·exact y1_
   ·have hall : cols.all xR = true := by
     have := Hall.out
     rwa [List.take_of_length_le uX_] at this
    obtain ⟨q1, q2, q3, hq⟩ : ∃ q1 q2 q3, yw cols e 1 0 = (q1, q2, q3) := ⟨_, _, _, rfl⟩
    have hxe : zF wr w.heap.size 0 e := ⟨B.cells rfl, B.cells rfl, B.cells rfl, B.cells rfl, B.cells rfl, B.cells rfl⟩
    have ct := fun W' (h1 : za wr W') hb => zax cols Ac cc hlen e w.heap.size 0 wr.heap.size 1 0 wr W' (HE.out.grow G) hxe (Hcols.out.grow G) h1 (Nat.le_refl _) hb uX_ uX_ uX_ uX_
    rw [hq] at ct; simp only at ct; have Gs := G.size
    by_cases h2 : q2 = 0
    ·have fin : zD cols e = (q1, 0) := by
      unfold zD; rw [if_neg H16.out, if_neg uO_, hq, if_neg uT_]
     obtain ⟨rfl, rfl⟩ : T = q1 /\ ER = 0 := by simpa using HT.out.symm.trans fin
     subst h2; clear fin hq hall hxe
     go_wp2_with (go_at_call 110; ((with_reducible refine (ct _ ((za.refl _).al _) (zb.new _ _ _)).mono ?_); rintro en w2 ⟨rfl, hb2, hg2⟩))
     exact qX_ vI_ rfl ⟨rfl, GX.base (G.al _) Gs hg2⟩
    ·have fin : zD cols e = (0, q2) := by
      unfold zD; rw [if_neg H16.out, if_neg uO_, hq, if_pos uT_]
     have dq : (q2 != 0) = true := by simpa using h2
     obtain ⟨rfl, rfl⟩ : T = 0 /\ ER = q2 := by simpa using HT.out.symm.trans fin
     clear fin hq hall hxe h2
     go_wp2_with (go_at_call 110; ((with_reducible refine (ct _ ((za.refl _).al _) (zb.new _ _ _)).mono ?_); rintro en w2 ⟨rfl, hb2, hg2⟩))
     exact qX_ vI_ rfl ⟨rfl, GX.base (G.al _) Gs hg2⟩
def Ty (t : Int) : Prop := 1 <= t /\ t <= 4
theorem Ty.cases {t : Int} (h : Ty t) : t = 1 \/ t = 2 \/ t = 3 \/ t = 4 := by unfold Ty at h; omega
theorem xA {x w : Int} (hx : Ty x) (hw : w = 2 \/ w = 3 \/ w = 4) : (xI (zP x) (zP w) == zP w) = yk x w := by
 rcases hx.cases with rfl | rfl | rfl | rfl <;> rcases hw with rfl | rfl | rfl <;> rfl
theorem NV {x y : Int} (hx : Ty x) (hy : Ty y) : xI (zP x) (zP y) = if yk x y then zP (xm x y) else 0 := by
 rcases hx.cases with rfl | rfl | rfl | rfl <;> rcases hy.cases with rfl | rfl | rfl | rfl <;> rfl
theorem D8 {x y : Int} (hx : Ty x) (hy : Ty y) (h : yk x y = true) : Ty (xm x y) := by
 rcases hx.cases with rfl | rfl | rfl | rfl <;> rcases hy.cases with rfl | rfl | rfl | rfl <;> first | (exfalso; revert h; decide) | (constructor <;> decide)
theorem Nu {t : Int} : zP t ≠ 0 := by
 unfold zP
 repeat' split
 all_goals omega
def xu (t e : Int) : Int := if e = 0 then zP t else 0
theorem DH {k : Int} {ts : List Int} (ht : ∀ x ∈ ts, Ty x) (hl : (ts.length : Int) = zl k) (h1 : 1 <= zl k) (h16 : k ≠ 16) (h0 : (zx k ts).2 = 0) : Ty (zx k ts).1 := by
 have hk : k <= 11 \/ (12 <= k /\ k <= 15) \/ k = 17 \/ k = 18 := by
  unfold zl at h1
  repeat' split at h1
  all_goals omega
 unfold zx at h0 ⊢; rcases hk with hk | hk | rfl | rfl
 ·exact x3_
 ·exact x3_
 ·have h3 : zl 17 = 3 := rfl
  match ts, hl, ht with
  | [x, y, z], _, ht =>
   simp at h0 ⊢
   by_cases h : yk y z = true /\ yk x 2 = true
   ·rw [if_pos h]; exact D8 (ht y uY_) (ht z uY_) h.1
   ·rw [if_neg h] at h0; simp at h0
  | [], hl, _ => simp at hl; omega
  | [_], hl, _ => simp at hl; omega
  | [_, _], hl, _ => simp at hl; omega
  | _ :: _ :: _ :: _ :: _, hl, _ => simp at hl; omega
 ·have h3 : zl 18 = 2 := rfl
  match ts, hl, ht with
  | [x, y], _, ht =>
   simp at h0 ⊢
   by_cases h : yk x y = true
   ·rw [if_pos h]; exact D8 (ht x uY_) (ht y uY_) h
   ·rw [if_neg h] at h0; simp at h0
  | [], hl, _ => simp at hl; omega
  | [_], hl, _ => simp at hl; omega
  | _ :: _ :: _ :: _, hl, _ => simp at hl; omega
theorem KD {f : Nat -> Int -> Int × Int × Int} (hf : ∀ i m, (f i m).2.1 = 0 -> Ty (f i m).1) : ∀ (r i : Nat) (m : Int) (ts : List Int), (∀ x ∈ ts, Ty x) -> (zT f r i m ts).1 = 0 -> (∀ x ∈ (zT f r i m ts).2.2, Ty x) /\ (zT f r i m ts).2.2.length = ts.length + r
 | 0, i, m, ts, h, h0 => by simp [zT]; exact h
 | r + 1, i, m, ts, h, h0 => by
  unfold zT at h0 ⊢; split at h0
  ·rename_i he; rw [if_pos he]
   obtain ⟨g1, g2⟩ := KD hf r (i + 1) (f i m).2.2 (ts ++ [(f i m).1]) (fun x hx => by
    rcases List.mem_append.1 hx with hx | hx
    ·exact h x hx
    ·simp at hx; subst hx; exact hf i m he) h0
   refine ⟨g1, ?_⟩; rw [g2]; simp; omega
  ·rename_i he; exact absurd h0 he
theorem KL {v : V} (h : zY v = 0) : Ty v.k := by
 have := ((RV.of v).1 h).kind; unfold Ty; omega
theorem NW (cols : List Int) (hc : cols.all xR = true) (e : E) : ∀ (deep m : Int), (yw cols e deep m).2.1 = 0 -> Ty (yw cols e deep m).1 := by
 induction e with
 | leaf =>
  intro deep m h; unfold yw at h; split at h <;> simp at h
 | mk k v c A n cap kid ih =>
  intro deep m h; unfold yw at h ⊢; split at h
  ·simp at h
  ·split at h
   ·simp at h
   ·split at h
    ·simp at h
    ·rename_i h1 h2 h3; rw [if_neg h1, if_neg h2, if_neg h3]; simp only at h ⊢; split at h
     ·rename_i h4; exact absurd h h4
     ·rename_i h4; rw [if_neg h4]; obtain ⟨g1, g2⟩ := KD (f := fun i m' => yw cols (kid i) (deep + 1) m') (fun i m => ih i (deep + 1) m) n 0 (m + 1) [] uY_ uz_; split at h
      ·rename_i h5; rw [if_pos h5]; exact KL h
      ·rename_i h5; rw [if_neg h5]; split at h
       ·rename_i h6; rw [if_pos h6]; split at h
        ·simp at h
        ·rename_i h7; rw [if_neg h7]; have hl : c.toNat < cols.length := by omega
         have := List.all_eq_true.1 hc (cols[c.toNat]) (List.getElem_mem hl); simp only [List.getD_eq_getElem?_getD, qQ_ hl, Option.getD_some]; simp [xR] at this; exact this
       ·rename_i h6; rw [if_neg h6]; split at h
        ·rename_i h7; rw [if_pos h7]; exact (⟨by decide, by decide⟩ : Ty 2)
        ·rename_i h7; rw [if_neg h7]; have hz : zl k ≠ 0 := fun hz => by rcases YY hz with h8 | h8 <;> contradiction
         simp only at h ⊢; exact DH g1 (by rw [g2]; simp; omega) uX_ h7 h
