/- Parts of a proof. No condition. -/
import Derived.Test.YthhbiemnbkfobaaGreatGB
import Derived.BigQuiet
import Derived.Deep.QuietTactic
import Derived.Deep.Slices
import Derived.Deep.DeepCutAuto
set_option maxRecDepth 100000
set_option maxHeartbeats 4000000
set_option maxRecDepth 100000
set_option linter.unusedSimpArgs false
set_option linter.unusedVariables false
namespace Go
variable {p : Prop}
theorem o4_ (h : p := by simp [results, Tryz.results171, go_sem]) : p := h
theorem o5_ (h : p := by simp [results, Tryz.results148, go_sem]) : p := h
theorem o6_ (h : p := by simp [results, Tryz.results116, go_sem]) : p := h
theorem o8_ (h : p := by simp [results, Tryz.results79, go_sem]) : p := h
theorem vB_ (h : p := by simpa using hne) : p := h
theorem vE_ (h : p := by simpa using h0) : p := h
theorem vF_ (h : p := by simpa using d3) : p := h
theorem vT_ (h : p := by decide) : p := h
theorem ur_ (h : p := by
 go_enter Tryz.func116, Tryz.ntmps116
 go_wp2_with ((go_at_call 147; ((with_reducible refine (jl _ _).mono ?_); rintro e w' ⟨rfl, rfl⟩)))
 refine wp_loop_rounds 1 ?_; rw [rounds_succ]; go_wp2
 go_quiet (fail)
 go_wp2; exact qX_ o6_ rfl ⟨rfl, hb.set 1 _, ((GX.refl g w).set 1 _).drewN _⟩) : p := h
theorem ux_ (h : p := by
 have h : gx < w0.heap.size := za.lt hx.c0; omega) : p := h
theorem uU_ (h : p := by
 go_enter Tryz.func116, Tryz.ntmps116
 go_wp2; exact qX_ o6_ rfl ⟨rfl, hb.set 1 _, (GX.refl g w).set 1 _⟩) : p := h
theorem uY_ (h : p := by
 simp only [decide_eq_true_eq, decide_eq_false_iff_not]; omega) : p := h
theorem uZ_ (h : p := by
 exact ⟨none, 0, 0, 0, fun _ => (.nil, []), by omega, h0, Nat.zero_le _, Nat.le_refl _, fun i hi => by omega⟩) : p := h
theorem u1_ (h : p := by
 exact ⟨0, Nat.zero_le _, rfl, rfl, rfl⟩) : p := h
theorem wi_ (h : p := by
 intro j u hj
 match j, hj with
 | 0, hj => simp at hj; subst hj; simp [Addr.add]) : p := h
theorem wp_ (h : p := by
 simp only [decide_eq_true_eq, decide_eq_false_iff_not, bne_iff_ne]; omega) : p := h
end Go
namespace Go.Proofs.YthhbiemnbkfobaaGreat
open Go.RowKit Go.Calm
def zy (k : Int) : Int :=
  if k = 1 \/ k = 2 then 0
  else if k = 3 \/ k = 16 then 1
  else if (4 <= k /\ k <= 15) \/ k = 18 then 2
  else if k = 17 then 3
  else -1
theorem jl (k : Int) (w : World) : Calls Tryz.prog 147 #[.int .i64 k] w fun e w' => e = .returned (.int .i64 (zy k)) /\ w = w' := by
  go_enter Tryz.func147, Tryz.ntmps147; go_wp2
  all_goals
    go_ret; refine zx ?_ rfl
    (try simp only [beq_iff_eq, beq_eq_false_iff_ne, bne_iff_ne, ne_eq, bne_eq_false_iff_eq, Bool.not_eq_true', Bool.not_eq_false', decide_eq_true_eq, decide_eq_false_iff_not] at *)
    unfold zy
    repeat' split
    all_goals first | rfl | omega
def qi (a b : Int) : Int := if a = b \/ b = 1 then a else if a = 1 then b else 0
def yN (a b : Int) : Bool := decide (a = b) || decide (b = 1) || decide (a = 1)
theorem KE (a b : Int) (w : World) : Calls Tryz.prog 171 #[.int .i64 a, .int .i64 b] w fun e w' => e = .returned (.tuple #[.int .i64 (qi a b), .bool (yN a b)]) /\ w = w' := by
  by_cases h1 : a = b
  · have hd1 : (a == b) = true := by simpa using h1
    have e1 : qi a b = a := by simp [qi, h1]
    have e2 : yN a b = true := by simp [yN, h1]
    rw [e1, e2]; clear e1 e2 h1; go_enter Tryz.func171, Tryz.ntmps171; go_wp2; exact qX_ o4_ rfl ⟨rfl, rfl⟩
  · have hd1 : (a == b) = false := by simpa using h1
    by_cases h2 : b = 1
    · have hd2 : (b == 1) = true := by simpa using h2
      have e1 : qi a b = a := by simp [qi, h2]
      have e2 : yN a b = true := by simp [yN, h2]
      rw [e1, e2]; clear e1 e2 h1 h2; go_enter Tryz.func171, Tryz.ntmps171; go_wp2; exact qX_ o4_ rfl ⟨rfl, rfl⟩
    · have hd2 : (b == 1) = false := by simpa using h2
      by_cases h3 : a = 1
      · have hd3 : (a == 1) = true := by simpa using h3
        have e1 : qi a b = b := by unfold qi; rw [if_neg vU_, if_pos h3]
        have e2 : yN a b = true := by simp [yN, h3]
        rw [e1, e2]; clear e1 e2 h1 h2 h3; go_enter Tryz.func171, Tryz.ntmps171; go_wp2; exact qX_ o4_ rfl ⟨rfl, rfl⟩
      · have hd3 : (a == 1) = false := by simpa using h3
        have e1 : qi a b = 0 := by unfold qi; rw [if_neg vU_, if_neg h3]
        have e2 : yN a b = false := by simp [yN, h1, h2, h3]
        rw [e1, e2]; clear e1 e2 h1 h2 h3; go_enter Tryz.func171, Tryz.ntmps171; go_wp2; exact qX_ o4_ rfl ⟨rfl, rfl⟩
def VO (t : Int) : Int := if t = 1 then 97 else if t = 2 then 98 else if t = 3 then 105 else if t = 4 then 116 else 63
def xc (w : World) (A : Option Addr) (xs : List Int) : Prop := ∀ i x, xs[i]? = some x -> ∃ g o, A = some ⟨g, o, none⟩ /\ w.cell? ⟨g, o + i, none⟩ = some (.int .i64 x)
theorem xc.grow {w w' : World} {A : Option Addr} {xs : List Int} (h : xc w A xs) (hg : za w w') : xc w' A xs := fun i x hx => by
  obtain ⟨g, o, h1, h2⟩ := h i x hx; exact ⟨g, o, h1, hg.cell h2⟩
theorem Yu {α : Type} (p : α -> Bool) (xs : List α) (k : Nat) (x : α) (hx : xs[k]? = some x) (h : (xs.take k).all p = true) (hp : p x = true) : (xs.take (k + 1)).all p = true := by
  rw [List.take_add_one, hx]; simp [List.all_append, h, hp]
theorem Xp {α : Type} (p : α -> Bool) (xs : List α) (k : Nat) (x : α) (hx : xs[k]? = some x) (hp : p x = false) : xs.all p = false := by
  rw [List.all_eq_false]; exact ⟨x, qZ_ hx, by simp [hp]⟩
theorem jg (xs : List Int) (want : Int) (A : Option Addr) (c : Nat) (w : World) (hlen : xs.length <= 9223372036854775807) (hx : xc w A xs) :
    Calls Tryz.prog 170 #[.slice A xs.length c, .int .i64 want] w fun e w' => e = .returned (.bool (xs.all (yN · want))) /\ w = w' := by
  have Hx := hh_ hx; clear hx; go_enter Tryz.func170, Tryz.ntmps170; go_wp2
  go_loopw [11] (fun i wr => ∃ k : Nat, k <= xs.length /\ i = .int .i64 k /\ (xs.take k).all (yN · want) = true /\ wr = w) (fun i _ => xs.length - (intOf i).toNat)
  case atStart => exact u1_
  case round =>
    obtain ⟨k, hk, rfl, hall, rfl⟩ := hrel; have Hall := hh_ hall; clear hall
    by_cases hlt : k < xs.length
    · obtain ⟨x, hxk⟩ : ∃ x, xs[k]? = some x := ⟨_, qQ_ hlt⟩
      obtain ⟨g, o, rfl, c1⟩ := Hx.out k x hxk; have Hxk := hh_ hxk; clear hxk; cases hr : yN x want
      · have Fin := hh_ (Xp (yN · want) xs k x Hxk.out hr)
        go_wp2_with ((go_at_call 171; ((with_reducible refine (KE _ _ _).mono ?_); rintro e w' ⟨rfl, rfl⟩)))
        go_ret; exact jq Fin.out.symm rfl
      · have Hr := hh_ (Yu (yN · want) xs k x Hxk.out Hall.out hr)
        go_wp2_with ((go_at_call 171; ((with_reducible refine (KE _ _ _).mono ?_); rintro e w' ⟨rfl, rfl⟩)))
        go_roundw
        case rel => exact ⟨k + 1, by omega, by go_num, Hr.out, trivial⟩
        case measure => exact vZ_
    · have fin : xs.all (yN · want) = true := by
        have := Hall.out
        rwa [List.take_of_length_le vU_] at this
      have Fin := hh_ fin; clear fin; go_wp2; go_ret; exact jq Fin.out.symm rfl
def zQ (k : Int) (t : List Int) : Int × Int :=
  if k <= 5 then (if t.all (yN · 2) then (2, 0) else (0, 9))
  else if k <= 11 then (if yN (t.getD 0 0) (t.getD 1 0) then (2, 0) else (0, 9))
  else if k <= 14 then (if t.all (yN · 3) then (3, 0) else (0, 9))
  else if k = 15 then (if t.all (yN · 4) then (4, 0) else (0, 9))
  else if k = 17 then (if yN (t.getD 1 0) (t.getD 2 0) && (t.take 1).all (yN · 2) then (qi (t.getD 1 0) (t.getD 2 0), 0) else (0, 9))
  else (if yN (t.getD 0 0) (t.getD 1 0) then (qi (t.getD 0 0) (t.getD 1 0), 0) else (0, 9))
theorem Me (k : Int) (xs : List Int) (A : Option Addr) (c : Nat) (w : World) (hlen : xs.length <= 9223372036854775807) (hx : xc w A xs) (h : k <= 5 \/ (12 <= k /\ k <= 15)) :
    Calls Tryz.prog 148 #[.int .i64 k, .slice A xs.length c] w fun e w' => e = .returned (.tuple #[.int .i64 (zQ k xs).1, .int .i64 (zQ k xs).2]) /\ za w w' := by
  have h5 : (k <= 5) \/ (¬ k <= 5 /\ ¬ k <= 11 /\ k <= 14) \/ (¬ k <= 5 /\ ¬ k <= 11 /\ ¬ k <= 14 /\ k = 15) := by omega
  clear h; rcases h5 with h1 | ⟨h1, h2, h3⟩ | ⟨h1, h2, h3, rfl⟩
  · cases hr : xs.all (yN · 2)
    · have e : zQ k xs = (0, 9) := by simp [zQ, h1, hr]
      rw [e]; clear e; have d1 : decide (k <= 5) = true := by simpa using h1
      clear h1; go_enter Tryz.func148, Tryz.ntmps148
      go_wp2_with ((go_at_call 170; ((with_reducible refine (jg xs _ _ _ _ hlen hx).mono ?_); rintro e w' ⟨rfl, rfl⟩)))
      exact qX_ o5_ rfl ⟨rfl, zi⟩
    · have e : zQ k xs = (2, 0) := by simp [zQ, h1, hr]
      rw [e]; clear e; have d1 : decide (k <= 5) = true := by simpa using h1
      clear h1; go_enter Tryz.func148, Tryz.ntmps148
      go_wp2_with ((go_at_call 170; ((with_reducible refine (jg xs _ _ _ _ hlen hx).mono ?_); rintro e w' ⟨rfl, rfl⟩)))
      exact qX_ o5_ rfl ⟨rfl, zi⟩
  · cases hr : xs.all (yN · 3)
    · have e : zQ k xs = (0, 9) := by simp [zQ, h1, h2, h3, hr]
      rw [e]; clear e; have d1 : decide (k <= 5) = false := by simpa using h1
      have d2 : decide (k <= 11) = false := by simpa using h2
      have d3 : decide (k <= 14) = true := by simpa using h3
      clear h1 h2 h3; go_enter Tryz.func148, Tryz.ntmps148
      go_wp2_with ((go_at_call 170; ((with_reducible refine (jg xs _ _ _ _ hlen hx).mono ?_); rintro e w' ⟨rfl, rfl⟩)))
      exact qX_ o5_ rfl ⟨rfl, zi⟩
    · have e : zQ k xs = (3, 0) := by simp [zQ, h1, h2, h3, hr]
      rw [e]; clear e; have d1 : decide (k <= 5) = false := by simpa using h1
      have d2 : decide (k <= 11) = false := by simpa using h2
      have d3 : decide (k <= 14) = true := by simpa using h3
      clear h1 h2 h3; go_enter Tryz.func148, Tryz.ntmps148
      go_wp2_with ((go_at_call 170; ((with_reducible refine (jg xs _ _ _ _ hlen hx).mono ?_); rintro e w' ⟨rfl, rfl⟩)))
      exact qX_ o5_ rfl ⟨rfl, zi⟩
  · cases hr : xs.all (yN · 4)
    · have e : zQ 15 xs = (0, 9) := by simp [zQ, hr]
      rw [e]; clear e; clear h1 h2 h3; go_enter Tryz.func148, Tryz.ntmps148
      go_wp2_with ((go_at_call 170; ((with_reducible refine (jg xs _ _ _ _ hlen hx).mono ?_); rintro e w' ⟨rfl, rfl⟩)))
      exact qX_ o5_ rfl ⟨rfl, zi⟩
    · have e : zQ 15 xs = (4, 0) := by simp [zQ, hr]
      rw [e]; clear e; clear h1 h2 h3; go_enter Tryz.func148, Tryz.ntmps148
      go_wp2_with ((go_at_call 170; ((with_reducible refine (jg xs _ _ _ _ hlen hx).mono ?_); rintro e w' ⟨rfl, rfl⟩)))
      exact qX_ o5_ rfl ⟨rfl, zi⟩
theorem Q9 (a b : Int) (w : World) : Calls Tryz.prog 171 #[.int .i64 a, .int .i64 b] w fun e w' => e = .returned (.tuple #[.int .i64 (qi a b), .bool (yN a b)]) /\ w' = w := (KE a b w).mono fun _ _ ⟨h1, h2⟩ => ⟨h1, h2.symm⟩
theorem T4 (k : Int) (x y : Int) (g o c : Nat) (w : World) (c0 : w.cell? ⟨g, o, none⟩ = some (.int .i64 x)) (c1 : w.cell? ⟨g, o + 1, none⟩ = some (.int .i64 y)) (h : 6 <= k /\ k <= 11 \/ k = 18) :
    Calls Tryz.prog 148 #[.int .i64 k, .slice (some ⟨g, o, none⟩) 2 c] w fun e w' => e = .returned (.tuple #[.int .i64 (zQ k [x, y]).1, .int .i64 (zQ k [x, y]).2]) /\ za w w' := by
  rcases h with ⟨h1, h2⟩ | rfl
  · have d1 : decide (k <= 5) = false := by simp; omega
    have d2 : decide (k <= 11) = true := by simp; omega
    have e0 : zQ k [x, y] = if yN x y then (2, 0) else (0, 9) := by simp [zQ, show ¬ k <= 5 by omega, h2]
    cases hr : yN x y
    · have e : zQ k [x, y] = (0, 9) := by rw [e0, hr]; rfl
      rw [e]; clear e e0 h1 h2; go_enter Tryz.func148, Tryz.ntmps148; go_wp2
      go_quiet ((go_at_call 171; exact Calls.quiet_of_same (Q9 _ _ _)))
      go_wp2; exact qX_ o5_ rfl ⟨rfl, zi⟩
    · have e : zQ k [x, y] = (2, 0) := by rw [e0, hr]; rfl
      rw [e]; clear e e0 h1 h2; go_enter Tryz.func148, Tryz.ntmps148; go_wp2
      go_quiet ((go_at_call 171; exact Calls.quiet_of_same (Q9 _ _ _)))
      go_wp2; exact qX_ o5_ rfl ⟨rfl, zi⟩
  · have e0 : zQ 18 [x, y] = if yN x y then (qi x y, 0) else (0, 9) := by simp [zQ]
    cases hr : yN x y
    · have e : zQ 18 [x, y] = (0, 9) := by rw [e0, hr]; rfl
      rw [e]; clear e e0; go_enter Tryz.func148, Tryz.ntmps148; go_wp2
      go_quiet ((go_at_call 171; exact Calls.quiet_of_same (Q9 _ _ _)))
      go_wp2; exact qX_ o5_ rfl ⟨rfl, zi⟩
    · have e : zQ 18 [x, y] = (qi x y, 0) := by rw [e0, hr]; rfl
      rw [e]; clear e e0; go_enter Tryz.func148, Tryz.ntmps148; go_wp2
      go_quiet ((go_at_call 171; exact Calls.quiet_of_same (Q9 _ _ _)))
      go_wp2; exact qX_ o5_ rfl ⟨rfl, zi⟩
theorem Lm (x want : Int) (g o c : Nat) (w : World) (c0 : w.cell? ⟨g, o, none⟩ = some (.int .i64 x)) :
    Calls Tryz.prog 170 #[.slice (some ⟨g, o, none⟩) 1 c, .int .i64 want] w fun e w' => e = .returned (.bool (yN x want)) /\ w = w' := by
  have := jg [x] want (some ⟨g, o, none⟩) c w vV_ (fun i y hy => by
    match i, hy with
    | 0, hy => simp at hy; subst hy; exact ⟨g, o, rfl, c0⟩)
  simpa using this
theorem NN (x y z : Int) (g o c : Nat) (hc : 1 <= c) (w : World) (c0 : w.cell? ⟨g, o, none⟩ = some (.int .i64 x)) (c1 : w.cell? ⟨g, o + 1, none⟩ = some (.int .i64 y)) (c2 : w.cell? ⟨g, o + 2, none⟩ = some (.int .i64 z)) :
    Calls Tryz.prog 148 #[.int .i64 17, .slice (some ⟨g, o, none⟩) 3 c] w fun e w' => e = .returned (.tuple #[.int .i64 (zQ 17 [x, y, z]).1, .int .i64 (zQ 17 [x, y, z]).2]) /\ za w w' := by
  have cn : ∀ n, (w.drewN n).cell? ⟨g, o, none⟩ = some (.int .i64 x) := fun _ => c0
  have e0 : zQ 17 [x, y, z] = if yN y z && yN x 2 then (qi y z, 0) else (0, 9) := by simp [zQ]
  cases hr : yN y z
  · have e : zQ 17 [x, y, z] = (0, 9) := by rw [e0, hr]; rfl
    rw [e]; clear e e0; go_enter Tryz.func148, Tryz.ntmps148; go_wp2
    go_quiet ((go_at_call 171; exact Calls.quiet_of_same (Q9 _ _ _)))
    go_wp2; exact qX_ o5_ rfl ⟨rfl, zi⟩
  · cases hs : yN x 2
    · have e : zQ 17 [x, y, z] = (0, 9) := by rw [e0, hr, hs]; rfl
      rw [e]; clear e e0; go_enter Tryz.func148, Tryz.ntmps148; go_wp2
      go_quiet ((go_at_call 171; exact Calls.quiet_of_same (Q9 _ _ _)))
      go_wp2_with ((go_at_call 170; ((with_reducible refine (Lm _ _ _ _ _ _ (cn _)).mono ?_); rintro e w' ⟨rfl, rfl⟩)))
      exact qX_ o5_ rfl ⟨rfl, zi⟩
    · have e : zQ 17 [x, y, z] = (qi y z, 0) := by rw [e0, hr, hs]; rfl
      rw [e]; clear e e0; go_enter Tryz.func148, Tryz.ntmps148; go_wp2
      go_quiet ((go_at_call 171; exact Calls.quiet_of_same (Q9 _ _ _)))
      go_wp2_with ((go_at_call 170; ((with_reducible refine (Lm _ _ _ _ _ _ (cn _)).mono ?_); rintro e w' ⟨rfl, rfl⟩)))
      exact qX_ o5_ rfl ⟨rfl, zi⟩
end Go.Proofs.YthhbiemnbkfobaaGreat
namespace Go.Proofs.YthhbiemnbkfobaaGreat
open Go.ChangeShapes Go.WideShapes Go.ChangeAt Go.RowKit Go.Calm
set_option maxRecDepth 100000
section
variable {H : Type} {enc : TypeId × Value -> H} {w : World} {base : Nat} {spare : Nat -> Bool} {held : Bool}
theorem NL {fuel : Nat} {cs : List Value} {x : DataW H × List MemPlace} (h : DataW.trod enc Tryz.prog w base spare held fuel 55 cs = some x) :
    ∃ (A : Option Addr) (xs : List Int) (cap : Nat), cs = [.slice A xs.length cap] /\ xc w A xs /\ xs.length <= maxLen /\ xs.length <= cap /\ ∀ v ∈ xs, qp v := by
  obtain ⟨A, len, cap, n, D, hcs, hl, hcap, hi⟩ := qc (c := 1) Tryz.underlying55 vP_ vU_ h
  have pick : ∀ i, i < len -> ∃ v : Int, qp v /\ ∃ g o, A = some ⟨g, o, none⟩ /\ w.cell? ⟨g, o + i, none⟩ = some (.int .i64 v) := fun i hlt => by
    obtain ⟨g, o, ys, hA, hyl, hat, hd⟩ := hi i hlt; obtain ⟨v, hv, _, wv⟩ := DataW.trod_int Tryz.underlying3 hd; subst hv; exact ⟨v, Xi wv, g, o, hA, by simpa using hat 0 _ rfl⟩
  have build : ∀ m, m <= len -> ∃ xs : List Int, xs.length = m /\ (∀ v ∈ xs, qp v) /\ xc w A xs := v0_
  obtain ⟨xs, hxl, hxb, hxs⟩ := build len (Nat.le_refl _); exact ⟨A, xs, cap, by rw [hcs, hxl], hxs, by omega, by omega, hxb⟩
end
inductive E where
  | leaf : E
  | mk (kind : Int) (v : V) (col : Int) (A : Option Addr) (n cap : Nat) (kid : Nat -> E) : E
instance : Inhabited E := ⟨.leaf⟩
namespace E
def kind : E -> Int
  | .leaf => 0
  | .mk k _ _ _ _ _ _ => k
def v : E -> V
  | .leaf => ⟨0, 0, es⟩
  | .mk _ v _ _ _ _ _ => v
def col : E -> Int
  | .leaf => 0
  | .mk _ _ c _ _ _ _ => c
def A : E -> Option Addr
  | .leaf => none
  | .mk _ _ _ a _ _ _ => a
def n : E -> Nat
  | .leaf => 0
  | .mk _ _ _ _ n _ _ => n
def cap : E -> Nat
  | .leaf => 0
  | .mk _ _ _ _ _ c _ => c
def kid : E -> Nat -> E
  | .leaf, _ => .leaf
  | .mk _ _ _ _ _ _ k, i => k i
def cells (e : E) : List Value := [.int .i64 e.kind, .int .i64 e.v.k, .int .i64 e.v.n, .string e.v.s, .int .i64 e.col, .slice e.A e.n e.cap]
abbrev val (e : E) : Value := .agg #[.int .i64 e.kind, .int .i64 e.v.k, .int .i64 e.v.n, .string e.v.s, .int .i64 e.col, .slice e.A e.n e.cap]
end E
structure zA (w : World) (g o : Nat) (e : E) : Prop where
  c0 : w.cell? ⟨g, o, none⟩ = some (.int .i64 e.kind)
  c1 : w.cell? ⟨g, o + 1, none⟩ = some (.int .i64 e.v.k)
  c2 : w.cell? ⟨g, o + 2, none⟩ = some (.int .i64 e.v.n)
  c3 : w.cell? ⟨g, o + 3, none⟩ = some (.string e.v.s)
  c4 : w.cell? ⟨g, o + 4, none⟩ = some (.int .i64 e.col)
  c5 : w.cell? ⟨g, o + 5, none⟩ = some (.slice e.A e.n e.cap)
inductive EX (w : World) : E -> Prop
  | leaf : EX w .leaf
  | mk {k : Int} {v : V} {c : Int} {A : Option Addr} {n cap : Nat} {kid : Nat -> E} (hn : n <= maxLen) (hc : ∀ i, i < n -> ∃ g o, A = some ⟨g, o, none⟩ /\ zA w g (o + i * 6) (kid i)) (hk : ∀ i, i < n -> EX w (kid i)) (hv : VB v) (hi : qp k /\ qp c) : EX w (.mk k v c A n cap kid)
theorem zA.grow {w w' : World} (h : za w w') {g o : Nat} {e : E} (hc : zA w g o e) : zA w' g o e :=
  ⟨h.cell hc.c0, h.cell hc.c1, h.cell hc.c2, h.cell hc.c3, h.cell hc.c4, h.cell hc.c5⟩
theorem EX.grow {w w' : World} (h : za w w') {e : E} (he : EX w e) : EX w' e := by
  induction he with
  | leaf => exact .leaf
  | mk hn hc hk hv hi ih => exact .mk hn (fun i hi => by obtain ⟨g, o, h1, h2⟩ := hc i hi; exact ⟨g, o, h1, h2.grow h⟩) ih hv hi
section
variable {H : Type} {enc : TypeId × Value -> H} {w : World} {base : Nat} {spare : Nat -> Bool} {held : Bool}
theorem KO {t e : TypeId} {fuel c : Nat} {cs : List Value} {x : DataW H × List MemPlace} (ht : Tryz.prog.underlying t = some (.slice e)) (hc : Tryz.prog.cellsOf e = c) (hc0 : 0 < c) (h : DataW.trod enc Tryz.prog w base spare held fuel t cs = some x) :
    ∃ (A : Option Addr) (len cap n : Nat) (D : Nat -> DataW H × List MemPlace), n < fuel + 1 /\ cs = [.slice A len cap] /\ len <= maxLen /\ len <= cap /\ ∀ i, i < len -> n < fuel /\ ∃ g o ys, A = some ⟨g, o, none⟩ /\ ys.length = c /\ (∀ j y, ys[j]? = some y -> w.cell? ⟨g, o + i * c + j, none⟩ = some y) /\ DataW.trod enc Tryz.prog w base spare held n e ys = some (D i) := by
  rcases DataW.trod_slice ht h with ⟨h0, _⟩ | ⟨a, len, cap, elems, rest, n, hfu, hcs, _, hb, hl, hm, hlen, hel, _, _⟩
  · exact uZ_
  · refine ⟨some a, len, cap, n, fun i => elems.getD i (.nil, []), by omega, hcs, by omega, hl, fun i hi => ⟨by omega, ?_⟩⟩
    have get : ∀ i, i < len -> ∃ ys, w.cells? base (a.add (i * c)) c = some ys /\ DataW.trod enc Tryz.prog w base spare held n e ys = some (elems.getD i (.nil, [])) := fun i hi => v6_
    have hsp : a.spot = none := v3_
    obtain ⟨g, o, sp⟩ := a; simp only at hsp; subst hsp; obtain ⟨ys, hcell, hd⟩ := get i hi; obtain ⟨_, hyl, hat⟩ := World.cells?_some hcell; refine ⟨g, o, ys, rfl, hyl, fun j y hy => ?_, hd⟩; have hj : j < c := by rw [<- hyl]; exact (qQ9.1 hy).1
    have := hat j hj; rw [hy, jN, jN] at this; exact this
theorem QJ : ∀ (fuel : Nat) {cs : List Value} {x : DataW H × List MemPlace}, DataW.trod enc Tryz.prog w base spare held fuel 27 cs = some x ->
    ∃ e : E, cs = e.cells /\ EX w e := by
  intro fuel
  induction fuel using Nat.strongRecOn with
  | ind fuel ih =>
    intro cs x h; obtain ⟨xs, n, hfu, _, hlen, hxl, hf⟩ := DataW.trod_struct Tryz.underlying27 h; have h6 : cs.length = 6 := by rw [hlen]; kernel_rfl
    match cs, h6 with
    | [a, b, c, d, e, f], _ =>
      have f0 := hf 0 _ rfl; have f1 := hf 1 _ rfl; have f2 := hf 2 _ rfl; have f3 := hf 3 _ rfl; have g : ∀ i, i < 4 -> ∃ y, xs[i]? = some y := fun i hi => ⟨xs[i]' vt_, qQ_ _⟩
      obtain ⟨y0, e0⟩ := g 0 vU_; obtain ⟨y1, e1⟩ := g 1 vU_; obtain ⟨y2, e2⟩ := g 2 vU_; obtain ⟨y3, e3⟩ := g 3 vU_; rw [e0] at f0; rw [e1] at f1; rw [e2] at f2; rw [e3] at f3; obtain ⟨k, hk, _, wk⟩ := DataW.trod_int Tryz.underlying3 f0; obtain ⟨v, hv, bv⟩ := J4 f1; obtain ⟨m, hm, _, wm⟩ := DataW.trod_int Tryz.underlying3 f2; obtain ⟨A, len, cap, n', D, hn', hcs, hl, _, hi⟩ := KO (c := 6) Tryz.underlying25 vP_ vU_ f3; have c0 : Tryz.prog.cellsOf 3 = 1 := by kernel_rfl
      have c1 : Tryz.prog.cellsOf 24 = 3 := by kernel_rfl
      have c2 : Tryz.prog.cellsOf 25 = 1 := by kernel_rfl
      simp [c0] at hk; simp [c1] at hv; simp [c0] at hm; simp [c2] at hcs
      have pick : ∀ i, i < len -> ∃ e : E, (∃ g o, A = some ⟨g, o, none⟩ /\ zA w g (o + i * 6) e) /\ EX w e := fun i hlt => by
        obtain ⟨hlt', g, o, ys, hA, hyl, hat, hd⟩ := hi i hlt; obtain ⟨e, he, hx⟩ := ih n' vU_ hd; subst he; exact ⟨e, ⟨g, o, hA, hat 0 _ rfl, hat 1 _ rfl, hat 2 _ rfl, hat 3 _ rfl, hat 4 _ rfl, hat 5 _ rfl⟩, hx⟩
      obtain ⟨kid, hkid⟩ := Go.Deep.choose_lt pick; refine ⟨.mk k v m A len cap kid, ?_, .mk hl (fun i hi => (hkid i hi).1) (fun i hi => (hkid i hi).2) bv ⟨Xi wk, Xi wm⟩⟩; obtain ⟨h1, h2, h3⟩ := hv; simp [E.cells, E.kind, E.v, E.col, E.A, E.n, E.cap, hk, h1, h2, h3, hm, hcs]
end
end Go.Proofs.YthhbiemnbkfobaaGreat
namespace Go.Proofs.YthhbiemnbkfobaaGreat
open Go.RowKit Go.Calm
def yj (f : Nat -> Int -> Int × Int × Int) : Nat -> Nat -> Int -> List Int -> Int × Int × List Int
  | 0, _, m, ts => (0, m, ts)
  | r + 1, i, m, ts => if (f i m).2.1 = 0 then yj f r (i + 1) (f i m).2.2 (ts ++ [(f i m).1]) else ((f i m).2.1, (f i m).2.2, ts)
def y7 (cols : List Int) : E -> Int -> Int -> Int × Int × Int
  | .leaf, deep, m => if 200 < m + 1 \/ 20 < deep then (0, 4, m + 1) else (0, 1, m + 1)
  | .mk k v c _ n _ kid, deep, m =>
    if 200 < m + 1 \/ 20 < deep then (0, 4, m + 1)
    else if zy k < 0 then (0, 1, m + 1)
    else if (n : Int) ≠ zy k then (0, 5, m + 1)
    else
      let r := yj (fun i m' => y7 cols (kid i) (deep + 1) m') n 0 (m + 1) []
      if r.1 ≠ 0 then (0, r.1, r.2.1)
      else if k = 1 then (v.k, yC v, r.2.1)
      else if k = 2 then (if c < 0 \/ (cols.length : Int) <= c then (0, 7, r.2.1) else (cols.getD c.toNat 0, 0, r.2.1))
      else if k = 16 then (2, 0, r.2.1)
      else ((zQ k r.2.2).1, (zQ k r.2.2).2, r.2.1)
theorem Wq {f : Nat -> Int -> Int × Int × Int} (hf : ∀ i m, m <= 200 -> m <= (f i m).2.2 /\ (f i m).2.2 <= 201 /\ ((f i m).2.1 = 0 -> (f i m).2.2 <= 200)) : ∀ (r i : Nat) (m : Int) (ts : List Int), m <= 200 ->
    m <= (yj f r i m ts).2.1 /\ (yj f r i m ts).2.1 <= 201 /\ ((yj f r i m ts).1 = 0 -> (yj f r i m ts).2.1 <= 200 /\ (yj f r i m ts).2.2.length = ts.length + r)
  | 0, i, m, ts, h => by simp [yj]; omega
  | r + 1, i, m, ts, h => by
    unfold yj; obtain ⟨h1, h2, h3⟩ := hf i m h; split
    · rename_i h0
      have := h3 h0; obtain ⟨g1, g2, g3⟩ := Wq hf r (i + 1) (f i m).2.2 (ts ++ [(f i m).1]) this; refine ⟨by omega, g2, fun h => ?_⟩; obtain ⟨g4, g5⟩ := g3 h; refine ⟨g4, ?_⟩; rw [g5]; simp; omega
    · rename_i h0
      exact ⟨h1, h2, fun h => absurd h h0⟩
theorem Ce (cols : List Int) (e : E) : ∀ (deep m : Int), m <= 200 -> m <= (y7 cols e deep m).2.2 /\ (y7 cols e deep m).2.2 <= 201 /\ ((y7 cols e deep m).2.1 = 0 -> (y7 cols e deep m).2.2 <= 200) := by
  induction e with
  | leaf =>
    intro deep m h; unfold y7; split <;> simp <;> omega
  | mk k v c A n cap kid ih =>
    intro deep m h; unfold y7; split
    · simp; omega
    · split
      · simp; omega
      · split
        · simp; omega
        · obtain ⟨g1, g2, g3⟩ := Wq (f := fun i m' => y7 cols (kid i) (deep + 1) m') (fun i m hm => ih i (deep + 1) m hm) n 0 (m + 1) [] vU_
          simp only; split
          · exact ⟨by simp only; omega, by simp only; omega, fun h' => by rename_i h0; exact absurd h' h0⟩
          · rename_i h0
            obtain ⟨g4, g5⟩ := g3 vE_
            repeat' split
            all_goals exact ⟨by simp only; omega, by simp only; omega, fun _ => by simp only; omega⟩
def EA (cols : List Int) (Ac : Option Addr) (cc : Nat) (e : E) : Prop := ∀ (gx ox g : Nat) (deep m : Int) (w0 w : World), EX w0 e -> zA w0 gx ox e -> xc w0 Ac cols -> za w0 w -> w0.heap.size <= g ->
  zc w g 150 #[.slice Ac cols.length cc, .int .i64 m] -> 0 <= m -> m <= 200 -> 1 <= deep -> deep <= 21 ->
  Calls Tryz.prog 116 #[.pointer (some ⟨g, 0, none⟩), .pointer (some ⟨gx, ox, none⟩), .int .i64 deep] w fun en w' =>
    en = .returned (.tuple #[.int .i64 (y7 cols e deep m).1, .int .i64 (y7 cols e deep m).2.1]) /\ zc w' g 150 #[.slice Ac cols.length cc, .int .i64 (y7 cols e deep m).2.2] /\ GX g w w'
theorem MJ (cols : List Int) (Ac : Option Addr) (cc : Nat) (gx ox g : Nat) (deep m : Int) (w : World) (hb : zc w g 150 #[.slice Ac cols.length cc, .int .i64 m]) (h0 : 0 <= m) (h1 : m <= 200) (h : 200 < m + 1 \/ 20 < deep) :
  Calls Tryz.prog 116 #[.pointer (some ⟨g, 0, none⟩), .pointer (some ⟨gx, ox, none⟩), .int .i64 deep] w fun en w' =>
    en = .returned (.tuple #[.int .i64 0, .int .i64 4]) /\ zc w' g 150 #[.slice Ac cols.length cc, .int .i64 (m + 1)] /\ GX g w w' := by
  obtain ⟨c, f⟩ := hb.rules
  have d : (decide (200 < m + 1) = true) \/ (decide (200 < m + 1) = false /\ decide (20 < deep) = true) := uY_
  clear h; rcases d with d1 | ⟨d1, d2⟩
  · exact uU_
  · exact uU_
theorem MI (cols : List Int) (Ac : Option Addr) (cc : Nat) (e : E) (gx ox g : Nat) (deep m : Int) (w : World) (hb : zc w g 150 #[.slice Ac cols.length cc, .int .i64 m]) (hne : gx ≠ g) (hx : zA w gx ox e) (hn : e.n <= maxLen) (h0 : 0 <= m) (d1 : decide (200 < m + 1) = false) (d2 : decide (20 < deep) = false)
    (h : zy e.kind < 0 \/ ¬ zy e.kind < 0 /\ (e.n : Int) ≠ zy e.kind) :
  Calls Tryz.prog 116 #[.pointer (some ⟨g, 0, none⟩), .pointer (some ⟨gx, ox, none⟩), .int .i64 deep] w fun en w' =>
    en = .returned (.tuple #[.int .i64 0, .int .i64 (if zy e.kind < 0 then 1 else 5)]) /\ zc w' g 150 #[.slice Ac cols.length cc, .int .i64 (m + 1)] /\ GX g w w' := by
  obtain ⟨c, f⟩ := hb.rules; obtain ⟨c0, c1, c2, c3, c4, c5⟩ := hx; have hm : m + 1 <= 200 := by simp at d1; omega
  have d : (decide (zy e.kind < 0) = true) \/ (decide (zy e.kind < 0) = false /\ ((e.n : Int) != zy e.kind) = true) := wp_
  clear h; rcases d with d3 | ⟨d3, d4⟩
  · have e1 : (if zy e.kind < 0 then (1 : Int) else 5) = 1 := if_pos vF_
    rw [e1]; clear e1; go_enter Tryz.func116, Tryz.ntmps116
    go_wp2_with ((go_at_call 147; ((with_reducible refine (jl _ _).mono ?_); rintro e w' ⟨rfl, rfl⟩)))
    exact qX_ o6_ rfl ⟨rfl, hb.set 1 _, (GX.refl g w).set 1 _⟩
  · have e1 : (if zy e.kind < 0 then (1 : Int) else 5) = 5 := if_neg vF_
    rw [e1]; clear e1; go_enter Tryz.func116, Tryz.ntmps116
    go_wp2_with ((go_at_call 147; ((with_reducible refine (jl _ _).mono ?_); rintro e w' ⟨rfl, rfl⟩)))
    exact qX_ o6_ rfl ⟨rfl, hb.set 1 _, (GX.refl g w).set 1 _⟩
theorem zA.gx {w w' : World} {g gx ox : Nat} {e : E} (h : GX g w w') (hne : gx ≠ g) (hc : zA w gx ox e) : zA w' gx ox e :=
  ⟨h.cell hc.c0 vB_, h.cell hc.c1 vB_, h.cell hc.c2 vB_, h.cell hc.c3 vB_, h.cell hc.c4 vB_, h.cell hc.c5 vB_⟩
theorem Ch (cols : List Int) (Ac : Option Addr) (cc : Nat) (e : E) (gx ox g : Nat) (deep m : Int) (w : World) (hb : zc w g 150 #[.slice Ac cols.length cc, .int .i64 m]) (hne : gx ≠ g) (hx : zA w gx ox e) (h0 : 0 <= m) (d1 : decide (200 < m + 1) = false) (d2 : decide (20 < deep) = false) (hk : e.kind = 1) (hn : e.n = 0) :
  Calls Tryz.prog 116 #[.pointer (some ⟨g, 0, none⟩), .pointer (some ⟨gx, ox, none⟩), .int .i64 deep] w fun en w' =>
    en = .returned (.tuple #[.int .i64 e.v.k, .int .i64 (yC e.v)]) /\ zc w' g 150 #[.slice Ac cols.length cc, .int .i64 (m + 1)] /\ GX g w w' := by
  obtain ⟨c, f⟩ := hb.rules; have hx0 := hh_ hx; obtain ⟨c0, c1, c2, c3, c4, c5⟩ := hx; have hm : m + 1 <= 200 := by simp at d1; omega
  have kn : zy 1 = 0 := rfl; rw [hk] at c0; rw [hn] at c5; clear hk hn; go_enter Tryz.func116, Tryz.ntmps116
  go_wp2_with ((go_at_call 147; ((with_reducible refine (jl _ _).mono ?_); rintro e w' ⟨rfl, rfl⟩)))
  refine wp_loop_rounds 1 ?_; rw [rounds_succ]; go_wp2; refine zd (fun W => zA W gx ox e /\ zc W g 150 #[.slice Ac cols.length cc, .int .i64 (m + 1)] /\ GX g w W) ⟨hx0.out.gx ((GX.refl g w).set 1 _) hne, hb.set 1 _, (GX.refl g w).set 1 _⟩ ?_; clear c f c0 c1 c2 c3 c4 c5 hb hx0; rintro W ⟨hx, hb, hg⟩; apply zb 12 vP_ vP_
  case h' =>
    intro Q0 hQ0; simp only [List.take_succ_cons, List.take_zero]
    repeat ((first | ((first | apply zh rfl | apply zo rfl rfl rfl); case h1 => (intro w1 hw1 hF K hK; obtain ⟨c0, c1, c2, c3, c4, c5⟩ := hx.grow hw1; go_simp; first | exact hK _ (za.refl _) | (go_at_call 83; ((with_reducible refine (qA e.v _).mono ?_); rintro e w' ⟨rfl, hg⟩; exact ⟨_, rfl, hK _ hg⟩)))) | apply zm rfl rfl rfl rfl); intro K hK; go_simp; apply hK; clear hK K)
    refine zk ?_; intro w1 hw1 hF; apply hQ0; clear hQ0; simp only [List.drop_succ_cons, List.drop_zero]; clear hF; go_wp2; exact qX_ o6_ rfl ⟨rfl, hb.grow hw1, hg.grow hw1⟩
  case hp' => trivial
theorem UX (cols : List Int) (Ac : Option Addr) (cc : Nat) (e : E) (gx ox g : Nat) (deep m : Int) (w : World) (hb : zc w g 150 #[.slice Ac cols.length cc, .int .i64 m]) (hne : gx ≠ g) (hx : zA w gx ox e) (h0 : 0 <= m) (d1 : decide (200 < m + 1) = false) (d2 : decide (20 < deep) = false) (hk : e.kind = 2) (hn : e.n = 0) (h : e.col < 0 \/ (cols.length : Int) <= e.col) :
  Calls Tryz.prog 116 #[.pointer (some ⟨g, 0, none⟩), .pointer (some ⟨gx, ox, none⟩), .int .i64 deep] w fun en w' =>
    en = .returned (.tuple #[.int .i64 0, .int .i64 7]) /\ zc w' g 150 #[.slice Ac cols.length cc, .int .i64 (m + 1)] /\ GX g w w' := by
  obtain ⟨c, f⟩ := hb.rules; obtain ⟨c0, c1, c2, c3, c4, c5⟩ := hx; have hm : m + 1 <= 200 := by simp at d1; omega
  have kn : zy 2 = 0 := rfl; rw [hk] at c0; rw [hn] at c5
  have d : decide (e.col < 0) = true \/ decide (e.col < 0) = false /\ decide ((cols.length : Int) <= e.col) = true := uY_
  clear h hk hn; rcases d with d3 | ⟨d3, d4⟩
  · exact ur_
  · exact ur_
theorem Cg (cols : List Int) (Ac : Option Addr) (cc : Nat) (e : E) (gx ox g : Nat) (deep m : Int) (w : World) (hb : zc w g 150 #[.slice Ac cols.length cc, .int .i64 m]) (hne : gx ≠ g) (hx : zA w gx ox e) (h0 : 0 <= m) (d1 : decide (200 < m + 1) = false) (d2 : decide (20 < deep) = false) (hk : e.kind = 2) (hn : e.n = 0) (hcol : 0 <= e.col) (hlt : e.col < (cols.length : Int)) (hlen : cols.length <= 9223372036854775807) (hi : xc w Ac cols) (hg : ∀ a : Addr, Ac = some a -> a.block ≠ g) :
  Calls Tryz.prog 116 #[.pointer (some ⟨g, 0, none⟩), .pointer (some ⟨gx, ox, none⟩), .int .i64 deep] w fun en w' =>
    en = .returned (.tuple #[.int .i64 (cols.getD e.col.toNat 0), .int .i64 0]) /\ zc w' g 150 #[.slice Ac cols.length cc, .int .i64 (m + 1)] /\ GX g w w' := by
  obtain ⟨j, hj⟩ : ∃ j : Nat, e.col = j := ⟨e.col.toNat, by omega⟩
  have hjl : j < cols.length := by omega
  have hjv : cols[j]? = some (cols.getD e.col.toNat 0) := by rw [hj]; simp [hjl]
  obtain ⟨ga, oa, rfl, ca⟩ := hi j _ hjv; have hga : ga ≠ g := hg _ rfl; generalize cols.getD e.col.toNat 0 = t at *; obtain ⟨c, f⟩ := hb.rules; obtain ⟨c0, c1, c2, c3, c4, c5⟩ := hx; have hm : m + 1 <= 200 := by simp at d1; omega
  have kn : zy 2 = 0 := rfl; rw [hk] at c0; rw [hn] at c5; rw [hj] at c4; have d3 : decide ((j : Int) < 0) = false := by simp
  have d4 : decide ((cols.length : Int) <= (j : Int)) = false := by simp; omega
  clear hk hn hj hjv hlt hcol hi hg; go_enter Tryz.func116, Tryz.ntmps116
  go_wp2_with ((go_at_call 147; ((with_reducible refine (jl _ _).mono ?_); rintro e w' ⟨rfl, rfl⟩)))
  refine wp_loop_rounds 1 ?_; rw [rounds_succ]; go_wp2
  go_quiet (fail)
  go_wp2
  go_quiet (fail)
  go_wp2; exact qX_ o6_ rfl ⟨rfl, hb.set 1 _, (((GX.refl g w).set 1 _).drewN _).drewN _⟩
def XO (k : Int) (r : Int × Int × List Int) : Int × Int × Int :=
  if r.1 ≠ 0 then (0, r.1, r.2.1)
  else if k = 16 then (2, 0, r.2.1)
  else ((zQ k r.2.2).1, (zQ k r.2.2).2, r.2.1)
theorem SW (cols : List Int) (k : Int) (v : V) (c : Int) (A : Option Addr) (n cap : Nat) (kid : Nat -> E) (deep m : Int) (h1 : ¬ (200 < m + 1 \/ 20 < deep)) (h2 : 1 <= zy k) (h3 : (n : Int) = zy k) :
    y7 cols (.mk k v c A n cap kid) deep m = XO k (yj (fun i m' => y7 cols (kid i) (deep + 1) m') n 0 (m + 1) []) := by
  have hk1 : k ≠ 1 := by rintro rfl; have : zy 1 = 0 := rfl; omega
  have hk2 : k ≠ 2 := by rintro rfl; have : zy 2 = 0 := rfl; omega
  conv => lhs; unfold y7
  rw [if_neg h1, if_neg vU_, if_neg vU_]; simp only [if_neg hk1, if_neg hk2]; rfl
theorem Md (k : Int) : zy k <= 3 := by
  unfold zy
  repeat' split
  all_goals omega
theorem Pa {F : Nat -> Int -> Int × Int × Int} {n j : Nat} {m q1 q3 : Int} {ts : List Int} (hj : j < n) (h : F j m = (q1, 0, q3)) : yj F (n - j) j m ts = yj F (n - (j + 1)) (j + 1) q3 (ts ++ [q1]) := by
  rw [show n - j = (n - (j + 1)) + 1 by omega]
  conv => lhs; unfold yj
  rw [h]; simp
theorem N9 {F : Nat -> Int -> Int × Int × Int} {n j : Nat} {m q1 q2 q3 : Int} {ts : List Int} (hj : j < n) (h : F j m = (q1, q2, q3)) (hne : q2 ≠ 0) : yj F (n - j) j m ts = (q2, q3, ts) := by
  rw [show n - j = (n - (j + 1)) + 1 by omega]
  conv => lhs; unfold yj
  rw [h]; simp [hne]
theorem KI {w : World} {B g : Nat} {t : Value} {ts : List Value} {e : TypeId} {n : Nat} (h : w.ownsRow B e 1 t n ts) (hg : g < B) : t.ownBlock = none \/ t.ownBlock ≠ some g := by
  right; intro he; have := (h.lt g he).1; omega
theorem TQ : (Tryz.prog.info? 3).map (fun i => (i.zero, i.size, i.bytes)) = some (some (.int .i64 0), 1, 8) := by kernel_rfl
theorem jb : ∃ i, Tryz.prog.info? 3 = some i /\ i.zero = some (.int .i64 0) /\ i.size = 1 /\ i.bytes = 8 := by
  have h := TQ; cases hi : Tryz.prog.info? 3 with
  | none => rw [hi] at h; simp at h
  | some i => rw [hi] at h; simp at h; exact ⟨i, rfl, h.1, h.2.1, h.2.2⟩
abbrev C9 (w : World) (B : Nat) (t : Value) (ts : List Int) : Prop := w.ownsRow B 3 1 t ts.length (ts.map (Value.int .i64))
theorem T3 (k : Int) (t : Value) (ts : List Int) (B : Nat) (w : World) (h : C9 w B t ts) (hl : (ts.length : Int) = zy k) (h1 : 1 <= zy k) (h16 : k ≠ 16) :
    Calls Tryz.prog 148 #[.int .i64 k, t] w fun e w' => e = .returned (.tuple #[.int .i64 (zQ k ts).1, .int .i64 (zQ k ts).2]) /\ za w w' := by
  obtain ⟨_, h⟩ := h; rcases h with ⟨_, h0⟩ | ⟨g, cap, cur, rfl, hB, hg, hle, hmx, hcs, htk⟩
  · omega
  · have cell : ∀ (i : Nat) (x : Int), ts[i]? = some x -> w.cell? ⟨g, i, none⟩ = some (.int .i64 x) := fun i x hx => by
      have hi : i < ts.length := (qQ9.1 hx).1; have hb : zc w g 3 cur := hg; rw [hb.cell i]; have e : (ts.map (Value.int .i64))[i]? = some (.int .i64 x) := by simp [hx]
      rw [<- htk, List.getElem?_take] at e; simpa [hi] using e
    have hk : k <= 5 \/ (6 <= k /\ k <= 11 \/ k = 18) \/ (12 <= k /\ k <= 15) \/ k = 17 := by
      unfold zy at h1
      repeat' split at h1
      all_goals omega
    have hsl : xc w (some ⟨g, 0, none⟩) ts := fun i x hx => ⟨g, 0, rfl, by rw [Nat.zero_add]; exact cell i x hx⟩
    have hlen : ts.length <= 9223372036854775807 := by have := Md k; omega
    rcases hk with hk | hk | hk | rfl
    · exact Me k ts _ _ w hlen hsl (.inl hk)
    · have h2 : zy k = 2 := by
        unfold zy
        repeat' split
        all_goals omega
      match ts, hl, cell with
      | [x, y], _, cell => exact T4 k x y g 0 cap w (cell 0 x rfl) (cell 1 y rfl) hk
      | [], hl, _ => simp at hl; omega
      | [_], hl, _ => simp at hl; omega
      | _ :: _ :: _ :: _, hl, _ => simp at hl; omega
    · exact Me k ts _ _ w hlen hsl (.inr hk)
    · have h3 : zy 17 = 3 := rfl
      match ts, hl, cell, hle with
      | [x, y, z], _, cell, hle => exact NN x y z g 0 cap (by simp at hle; omega) w (cell 0 x rfl) (cell 1 y rfl) (cell 2 z rfl)
      | [], hl, _, _ => simp at hl; omega
      | [_], hl, _, _ => simp at hl; omega
      | [_, _], hl, _, _ => simp at hl; omega
      | _ :: _ :: _ :: _ :: _, hl, _, _ => simp at hl; omega
theorem UW (cols : List Int) (Ac : Option Addr) (cc : Nat) (k : Int) (v : V) (c : Int) (A : Option Addr) (n cap : Nat) (kid : Nat -> E) (ih : ∀ i, EA cols Ac cc (kid i))
    (gx ox g : Nat) (deep m : Int) (w0 w : World) (hE : EX w0 (.mk k v c A n cap kid)) (hx : zA w0 gx ox (.mk k v c A n cap kid)) (hcols : xc w0 Ac cols) (hg0 : za w0 w) (hlt : w0.heap.size <= g)
    (hb : zc w g 150 #[.slice Ac cols.length cc, .int .i64 m]) (h0 : 0 <= m) (d1 : decide (200 < m + 1) = false) (d2 : decide (20 < deep) = false) (hd0 : 1 <= deep) (hkn : 1 <= zy k) (hn : (n : Int) = zy k)
    (T ER M : Int) (hT : XO k (yj (fun i m' => y7 cols (kid i) (deep + 1) m') n 0 (m + 1) []) = (T, ER, M)) :
  Calls Tryz.prog 116 #[.pointer (some ⟨g, 0, none⟩), .pointer (some ⟨gx, ox, none⟩), .int .i64 deep] w fun en w' =>
    en = .returned (.tuple #[.int .i64 T, .int .i64 ER]) /\ zc w' g 150 #[.slice Ac cols.length cc, .int .i64 M] /\ GX g w w' := by
  have Hx := hh_ hx; have Hb := hh_ hb; have HT := hh_ hT; have Hn := hh_ hn; have d3 : decide (zy k < 0) = false := by simp; omega
  have d4 : ((n : Int) != zy k) = false := by simpa using hn
  obtain ⟨cb, fb⟩ := hb.rules; have hgN : g < w.heap.size := hb.lt; have hn3 : n <= 3 := by have := Md k; omega
  have hm : m + 1 <= 200 := by simp at d1; omega
  have hd : deep <= 20 := by simp at d2; omega
  have hne : gx ≠ g := ux_
  have hxw := hx.grow hg0; obtain ⟨c0, c1, c2, c3, c4, c5⟩ := hxw; simp only [E.kind, E.v, E.col, E.A, E.n, E.cap] at c0 c1 c2 c3 c4 c5; clear hT hn hx hb; go_enter Tryz.func116, Tryz.ntmps116
  go_wp2_with ((go_at_call 147; ((with_reducible refine (jl _ _).mono ?_); rintro e w' ⟨rfl, rfl⟩)))
  go_loopw [9, 50] (fun t i wr => ∃ (j : Nat) (m' : Int) (ts : List Int), j <= n /\ i = .int .i64 j /\ C9 wr w.heap.size t ts /\ zc wr g 150 #[.slice Ac cols.length cc, .int .i64 m'] /\ GX g w wr /\ 0 <= m' /\ m' <= 200 /\ ts.length = j /\
      yj (fun i m' => y7 cols (kid i) (deep + 1) m') (n - j) j m' ts = yj (fun i m' => y7 cols (kid i) (deep + 1) m') n 0 (m + 1) []) (fun _ i _ => n - (intOf i).toNat)
  case atStart => exact ⟨0, m + 1, [], Nat.zero_le _, rfl, World.ownsRow_nil _ _ _ _, Hb.out.set 1 _, (GX.refl g w).set 1 _, by omega, by omega, rfl, rfl⟩
  case round =>
    obtain ⟨j, m', ts, hj, rfl, hown, hbr, hgx, hm0, hm1, htl, hR⟩ := hrel; have hgw := GX.base hg0 hlt hgx; have Own := hh_ hown; have HR := hh_ hR; have hbs := hh_ hbr; obtain ⟨c0, c1, c2, c3, c4, c5⟩ := Hx.out.grow hgw; simp only [E.kind, E.v, E.col, E.A, E.n, E.cap] at c0 c1 c2 c3 c4 c5; clear hown hR hbr; have Ti := hh_ jb
    by_cases hlt : j < n
    · obtain ⟨gk, ok, hA, hck, hEk⟩ : ∃ gk ok, A = some ⟨gk, ok, none⟩ /\ zA w0 gk (ok + j * 6) (kid j) /\ EX w0 (kid j) := by
        cases hE with
        | mk hn' hc hk hv hi =>
          obtain ⟨gk, ok, h1, h2⟩ := hc j hlt; exact ⟨gk, ok, h1, h2, hk j hlt⟩
      subst hA; obtain ⟨q1, q2, q3, hq⟩ : ∃ q1 q2 q3, y7 cols (kid j) (deep + 1) m' = (q1, q2, q3) := ⟨_, _, _, rfl⟩
      have hbd := Ce cols (kid j) (deep + 1) m' hm1; have ihj := ih j gk (ok + j * 6) g (deep + 1) m' w0 wr hEk hck hcols hgw vO_ hbs.out hm0 hm1 vU_ vU_; rw [hq] at hbd ihj; simp only at hbd ihj; have Hq := hh_ hq; clear hq hck hEk
      by_cases h2 : q2 = 0
      · subst h2
        obtain ⟨ti, hi, hz0, hz1, hz2⟩ := Ti.out
        go_wp2_with (first
          | (at_builtin; refine wpList_append_own _ rfl _ _ 55 rfl w.heap.size 3 ti (.int .i64 0) 1 8 Tryz.underlying55 hi hz0 hz1 hz2 rfl vT_ _ _ _ rfl (Own2.out.alloc _) ⟨w2.heap.size, 0, none⟩ 1 1 [.int .i64 q1] rfl rfl ?c1 ?c2 ?c3 ?c4 ?c5 ?_)
          | (go_at_call 116; ((with_reducible refine ihj.mono ?_); rintro e w2 ⟨rfl, hb2, hg2⟩; have Own2 := hh_ (Own.out.kept hg2 (KI Own.out hgN)))))
        case c1 => exact wi_
        case c2 => intro u hu; simp at hu; subst hu; rfl
        case c3 => unfold maxLen; omega
        case c4 => omega
        case c5 => have := hgx.size; have := hg2.size; simp; omega
        · intro v' w3 hown' hgrow _
          have Fin := hh_ (Pa (F := fun i m' => y7 cols (kid i) (deep + 1) m') (ts := ts) hlt Hq.out)
          have hb3 : zc w3 g 150 #[.slice Ac cols.length cc, .int .i64 q3] := by
            have h1 := hb2.al (.cells #[.int .i64 q1] 3); have h2 := h1.lt; unfold zc at h1 ⊢; rw [hgrow.block g h2 (fun e => by rcases KI Own.out hgN with h | h <;> rw [<- e] at h <;> simp at h)]; exact h1
          have hg3 : GX g w w3 := GX.own ((hgx.trans hg2).al _) hgrow (fun i hi => (Own.out.lt i hi).1); clear hgrow hb2 hg2 ihj; go_wp2; go_roundw
          case rel => exact ⟨j + 1, q3, ts ++ [q1], by omega, by go_num, by unfold C9; simpa [htl] using hown', hb3, hg3, by have := hbd.1; omega, by simpa using hbd.2.2, by simp [htl], by rw [<- Fin.out]; exact HR.out⟩
          case measure => exact vZ_
      · have dq : (q2 != 0) = true := by simpa using h2
        have fin : XO k (yj (fun i m' => y7 cols (kid i) (deep + 1) m') n 0 (m + 1) []) = (0, q2, q3) := by
          rw [<- HR.out, N9 (F := fun i m' => y7 cols (kid i) (deep + 1) m') hlt Hq.out h2]; simp [XO, h2]
        obtain ⟨rfl, rfl, rfl⟩ : T = 0 /\ ER = q2 /\ M = q3 := by simpa using HT.out.symm.trans fin
        clear fin h2
        go_wp2_with (go_at_call 116; ((with_reducible refine ihj.mono ?_); rintro e w2 ⟨rfl, hb2, hg2⟩))
        exact qX_ o6_ rfl ⟨rfl, hb2, hgx.trans hg2⟩
    · obtain rfl : j = n := by omega
      have dk1 : (k == 1) = false := by simp; rintro rfl; have : zy 1 = 0 := rfl; omega
      have dk2 : (k == 2) = false := by simp; rintro rfl; have : zy 2 = 0 := rfl; omega
      have fin : XO k (0, m', ts) = (T, ER, M) := by
        rw [<- HT.out, <- HR.out, Nat.sub_self]; rfl
      by_cases h16 : k = 16
      · subst h16
        obtain ⟨rfl, rfl, rfl⟩ : T = 2 /\ ER = 0 /\ M = m' := by
          have : XO 16 (0, m', ts) = (2, 0, m') := by simp [XO]
          simpa using fin.symm.trans this
        clear fin; go_wp2; exact qX_ o6_ rfl ⟨rfl, hbs.out, hgx⟩
      · have dk3 : (k == 16) = false := by simpa using h16
        obtain ⟨rfl, rfl, rfl⟩ : T = (zQ k ts).1 /\ ER = (zQ k ts).2 /\ M = m' := by
          have : XO k (0, m', ts) = ((zQ k ts).1, (zQ k ts).2, m') := by simp [XO, h16]
          simpa using fin.symm.trans this
        have ck := T3 k _ ts _ wr Own.out (by rw [htl]; exact Hn.out) hkn h16; clear fin h16
        go_wp2_with (go_at_call 148; ((with_reducible refine ck.mono ?_); rintro e w2 ⟨rfl, hg2⟩))
        exact qX_ o6_ rfl ⟨rfl, hbs.out.grow hg2, hgx.grow hg2⟩
theorem Jy {k : Int} (h : zy k = 0) : k = 1 \/ k = 2 := by
  unfold zy at h
  repeat' split at h
  all_goals omega
theorem Cf (cols : List Int) (Ac : Option Addr) (cc : Nat) (hlen : cols.length <= 9223372036854775807) (e : E) : EA cols Ac cc e := by
  induction e with
  | leaf =>
    intro gx ox g deep m w0 w hE hx hcols hg0 hlt hb h0 h1 hd0 hd1
    have hne : gx ≠ g := ux_
    unfold y7
    by_cases hm : 200 < m + 1 \/ 20 < deep
    · rw [if_pos hm]; exact MJ cols Ac cc gx ox g deep m w hb h0 h1 hm
    · rw [if_neg hm]
      exact MI cols Ac cc .leaf gx ox g deep m w hb hne (hx.grow hg0) (Nat.zero_le _) h0 vN_ vN_ (.inl vT_)
  | mk k v c A n cap kid ih =>
    intro gx ox g deep m w0 w hE hx hcols hg0 hlt hb h0 h1 hd0 hd1
    have hne : gx ≠ g := ux_
    have hn : n <= maxLen := by cases hE with | mk hn => exact hn
    by_cases hm : 200 < m + 1 \/ 20 < deep
    · unfold y7
      rw [if_pos hm]; exact MJ cols Ac cc gx ox g deep m w hb h0 h1 hm
    · have d1 : decide (200 < m + 1) = false := by simp; omega
      have d2 : decide (20 < deep) = false := by simp; omega
      have hxw := hx.grow hg0
      by_cases hf : zy k < 0 \/ ¬ zy k < 0 /\ (n : Int) ≠ zy k
      · have e : y7 cols (.mk k v c A n cap kid) deep m = (0, if zy k < 0 then 1 else 5, m + 1) := by
          unfold y7; rw [if_neg hm]; rcases hf with hf | ⟨hf, hf2⟩
          · rw [if_pos hf, if_pos hf]
          · rw [if_neg hf, if_pos hf2, if_neg hf]
        rw [e]; exact MI cols Ac cc (.mk k v c A n cap kid) gx ox g deep m w hb hne hxw hn h0 d1 d2 hf
      · have hk0 : ¬ zy k < 0 := fun h => hf (.inl h)
        have hnk : (n : Int) = zy k := Classical.byContradiction fun h => hf (.inr ⟨hk0, h⟩)
        by_cases hz : zy k = 0
        · have hn0 : n = 0 := by omega
          subst hn0; rcases Jy hz with rfl | rfl
          · have e : y7 cols (.mk 1 v c A 0 cap kid) deep m = (v.k, yC v, m + 1) := by
              unfold y7; rw [if_neg hm, if_neg hk0, if_neg vU_]; simp [yj]
            rw [e]; exact Ch cols Ac cc (.mk 1 v c A 0 cap kid) gx ox g deep m w hb hne hxw h0 d1 d2 rfl rfl
          · by_cases hc : c < 0 \/ (cols.length : Int) <= c
            · have e : y7 cols (.mk 2 v c A 0 cap kid) deep m = (0, 7, m + 1) := by
                unfold y7; rw [if_neg hm, if_neg hk0, if_neg vU_]; simp [yj, hc]
              rw [e]; exact UX cols Ac cc (.mk 2 v c A 0 cap kid) gx ox g deep m w hb hne hxw h0 d1 d2 rfl rfl hc
            · have e : y7 cols (.mk 2 v c A 0 cap kid) deep m = (cols.getD c.toNat 0, 0, m + 1) := by
                unfold y7; rw [if_neg hm, if_neg hk0, if_neg vU_]; simp only [yj]; rw [if_neg vV_, if_neg vT_, if_pos trivial, if_neg hc]
              rw [e]; refine Cg cols Ac cc (.mk 2 v c A 0 cap kid) gx ox g deep m w hb hne hxw h0 d1 d2 rfl rfl ?_ ?_ hlen (hcols.grow hg0) (fun a ha => ?_)
              · show 0 <= c; omega
              · show c < (cols.length : Int); omega
              · have hl : 0 < cols.length := by omega
                obtain ⟨ga, oa, h1, h2⟩ := hcols 0 (cols[0]) (by simp [hl]); rw [h1] at ha; cases ha; have : ga < w0.heap.size := za.lt h2; simp only; omega
        · rw [SW cols k v c A n cap kid deep m hm vU_ hnk]
          obtain ⟨T, ER, M, hT⟩ : ∃ T ER M, XO k (yj (fun i m' => y7 cols (kid i) (deep + 1) m') n 0 (m + 1) []) = (T, ER, M) := ⟨_, _, _, rfl⟩
          rw [hT]; exact UW cols Ac cc k v c A n cap kid ih gx ox g deep m w0 w hE hx hcols hg0 hlt hb h0 d1 d2 hd0 vU_ hnk T ER M hT
def jr (t : Int) : Bool := decide (1 <= t) && decide (t <= 4)
def zH (cols : List Int) (e : E) : Int × Int :=
  if 16 < cols.length then (0, 5)
  else if cols.all jr = false then (0, 1)
  else if (y7 cols e 1 0).2.1 ≠ 0 then (0, (y7 cols e 1 0).2.1)
  else ((y7 cols e 1 0).1, 0)
theorem Ps {t : Int} (h : jr t = false) : decide (t < 1) = true \/ decide (t < 1) = false /\ decide (4 < t) = true := by
  simp [jr] at h; simp only [decide_eq_true_eq, decide_eq_false_iff_not]; omega
theorem Pt {t : Int} (h : jr t = true) : decide (t < 1) = false /\ decide (4 < t) = false := by
  simp [jr] at h; simp only [decide_eq_false_iff_not]; omega
theorem Y0 (cols : List Int) (Ac : Option Addr) (cc : Nat) (e : E) (w : World) (hlen : cols.length <= 9223372036854775807) (hcols : xc w Ac cols) (hE : EX w e) :
    Calls Tryz.prog 79 #[.slice Ac cols.length cc, e.val] w fun en w' => en = .returned (.tuple #[.int .i64 (zH cols e).1, .int .i64 (zH cols e).2]) /\ za w w' := by
  have HE := hh_ hE; have Hcols := hh_ hcols; clear hE hcols
  by_cases h16 : 16 < cols.length
  · have e1 : zH cols e = (0, 5) := by simp [zH, h16]
    rw [e1]; clear e1; have d1 : decide (16 < (cols.length : Int)) = true := by simp; omega
    clear h16; unfold E.val; go_enter Tryz.func79, Tryz.ntmps79; go_wp2; exact qX_ o8_ rfl ⟨rfl, zi⟩
  · have d1 : decide (16 < (cols.length : Int)) = false := by simp; omega
    obtain ⟨T, ER, hT⟩ : ∃ T ER, zH cols e = (T, ER) := ⟨_, _, rfl⟩
    rw [hT]; have HT := hh_ hT; have H16 := hh_ h16; clear hT h16; unfold E.val; go_enter Tryz.func79, Tryz.ntmps79; go_wp2; refine zd (fun W => zc W w.heap.size 27 #[.int .i64 e.kind, .int .i64 e.v.k, .int .i64 e.v.n, .string e.v.s, .int .i64 e.col, .slice e.A e.n e.cap] /\ za w W) ⟨zc.new _ _ _, zi⟩ ?_; rintro W ⟨B, G⟩
    go_loopw [15] (fun i wr => ∃ k : Nat, k <= cols.length /\ i = .int .i64 k /\ (cols.take k).all jr = true /\ wr = W) (fun i _ => cols.length - (intOf i).toNat)
    case atStart => exact u1_
    case round =>
      obtain ⟨k, hk, rfl, hall, rfl⟩ := hrel; have Hall := hh_ hall; clear hall
      by_cases hlt : k < cols.length
      · obtain ⟨x, hxk⟩ : ∃ x, cols[k]? = some x := ⟨_, qQ_ hlt⟩
        obtain ⟨g, o, rfl, c1⟩ := (Hcols.out.grow G) k x hxk; have Hxk := hh_ hxk; clear hxk; cases hr : jr x
        · have fin : zH cols e = (0, 1) := by
            have := Xp jr cols k x Hxk.out hr; unfold zH; rw [if_neg H16.out, if_pos this]
          obtain ⟨rfl, rfl⟩ : T = 0 /\ ER = 1 := by simpa using HT.out.symm.trans fin
          clear fin; rcases Ps hr with d2 | ⟨d2, d3⟩
          · go_wp2
            exact qX_ o8_ rfl ⟨rfl, zi⟩
          · go_wp2
            exact qX_ o8_ rfl ⟨rfl, zi⟩
        · have Hr := hh_ (Yu jr cols k x Hxk.out Hall.out hr)
          obtain ⟨d2, d3⟩ := Pt hr; go_wp2; go_roundw
          case rel => exact ⟨k + 1, by omega, by go_num, Hr.out, trivial⟩
          case measure => exact vZ_
      · have hall : cols.all jr = true := by
          have := Hall.out
          rwa [List.take_of_length_le vU_] at this
        obtain ⟨q1, q2, q3, hq⟩ : ∃ q1 q2 q3, y7 cols e 1 0 = (q1, q2, q3) := ⟨_, _, _, rfl⟩
        have hxe : zA wr w.heap.size 0 e := ⟨B.cells rfl, B.cells rfl, B.cells rfl, B.cells rfl, B.cells rfl, B.cells rfl⟩
        have ct := fun W' (h1 : za wr W') hb => Cf cols Ac cc hlen e w.heap.size 0 wr.heap.size 1 0 wr W' (HE.out.grow G) hxe (Hcols.out.grow G) h1 (Nat.le_refl _) hb vU_ vU_ vU_ vU_
        rw [hq] at ct; simp only at ct; have Gs := G.size
        by_cases h2 : q2 = 0
        · have fin : zH cols e = (q1, 0) := by
            unfold zH; rw [if_neg H16.out, if_neg (by simp [hall]), hq, if_neg (by simp [h2])]
          obtain ⟨rfl, rfl⟩ : T = q1 /\ ER = 0 := by simpa using HT.out.symm.trans fin
          subst h2; clear fin hq hall hxe
          go_wp2_with (go_at_call 116; ((with_reducible refine (ct _ ((za.refl _).al _) (zc.new _ _ _)).mono ?_); rintro en w2 ⟨rfl, hb2, hg2⟩))
          exact qX_ o8_ rfl ⟨rfl, GX.base (G.al _) Gs hg2⟩
        · have fin : zH cols e = (0, q2) := by
            unfold zH; rw [if_neg H16.out, if_neg (by simp [hall]), hq, if_pos (by simp [h2])]
          have dq : (q2 != 0) = true := by simpa using h2
          obtain ⟨rfl, rfl⟩ : T = 0 /\ ER = q2 := by simpa using HT.out.symm.trans fin
          clear fin hq hall hxe h2
          go_wp2_with (go_at_call 116; ((with_reducible refine (ct _ ((za.refl _).al _) (zc.new _ _ _)).mono ?_); rintro en w2 ⟨rfl, hb2, hg2⟩))
          exact qX_ o8_ rfl ⟨rfl, GX.base (G.al _) Gs hg2⟩
def Ty (t : Int) : Prop := 1 <= t /\ t <= 4
theorem Ty.cases {t : Int} (h : Ty t) : t = 1 \/ t = 2 \/ t = 3 \/ t = 4 := by unfold Ty at h; omega
