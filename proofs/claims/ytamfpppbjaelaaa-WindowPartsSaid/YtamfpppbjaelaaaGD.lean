/-
  Joined texts of this claim: Ex1, Ex2, Ex3, ReadI, Ex, Ex4, Ex5, Ex6, Ex7, Ex8, Ex9. What each proves its own head says; no condition beside those that each theorem names.
-/
import Derived.Test.YtamfpppbjaelaaaGB
import Derived.BigGuardPart
import Derived.BigQuiet
import Derived.Deep.QuietTactic
import Derived.Deep.Slices
import Derived.Test.YtamfpppbjaelaaaGA
import Derived.Deep.DeepCutAuto
set_option maxRecDepth 100000
set_option maxHeartbeats 4000000
namespace Go.Proofs.Ytamfpppbjaelaaa
open Go.RowKit Go.Calm
set_option linter.unusedSimpArgs false
set_option linter.unusedVariables false
def kidsN (k : Int) : Int :=
  if k = 1 ∨ k = 2 then 0
  else if k = 3 ∨ k = 16 then 1
  else if (4 ≤ k ∧ k ≤ 15) ∨ k = 18 then 2
  else if k = 17 then 3
  else -1
theorem kids_any (k : Int) (w : World) : Calls Try.prog 85 #[.int .i64 k] w fun e w' => e = .returned (.int .i64 (kidsN k)) ∧ w = w' := by
  go_enter Try.func85, Try.ntmps85
  go_wp2
  all_goals
    go_ret
    refine ret_int ?_ rfl
    (try simp only [beq_iff_eq, beq_eq_false_iff_ne, bne_iff_ne, ne_eq, bne_eq_false_iff_eq, Bool.not_eq_true', Bool.not_eq_false', decide_eq_true_eq, decide_eq_false_iff_not] at *)
    unfold kidsN
    repeat' split
    all_goals first | rfl | omega

def oneT (a b : Int) : Int := if a = b ∨ b = 1 then a else if a = 1 then b else 0
def oneB (a b : Int) : Bool := decide (a = b) || decide (b = 1) || decide (a = 1)
theorem one_any (a b : Int) (w : World) : Calls Try.prog 96 #[.int .i64 a, .int .i64 b] w fun e w' => e = .returned (.tuple #[.int .i64 (oneT a b), .bool (oneB a b)]) ∧ w = w' := by
  by_cases h1 : a = b
  · have hd1 : (a == b) = true := by simpa using h1
    have e1 : oneT a b = a := by simp [oneT, h1]
    have e2 : oneB a b = true := by simp [oneB, h1]
    rw [e1, e2]; clear e1 e2 h1
    go_enter Try.func96, Try.ntmps96
    go_wp2
    exact bodyPost_ret (by simp [results, Try.results96, go_sem]) rfl ⟨rfl, rfl⟩
  · have hd1 : (a == b) = false := by simpa using h1
    by_cases h2 : b = 1
    · have hd2 : (b == 1) = true := by simpa using h2
      have e1 : oneT a b = a := by simp [oneT, h2]
      have e2 : oneB a b = true := by simp [oneB, h2]
      rw [e1, e2]; clear e1 e2 h1 h2
      go_enter Try.func96, Try.ntmps96
      go_wp2
      exact bodyPost_ret (by simp [results, Try.results96, go_sem]) rfl ⟨rfl, rfl⟩
    · have hd2 : (b == 1) = false := by simpa using h2
      by_cases h3 : a = 1
      · have hd3 : (a == 1) = true := by simpa using h3
        have e1 : oneT a b = b := by unfold oneT; rw [if_neg (by omega), if_pos h3]
        have e2 : oneB a b = true := by simp [oneB, h3]
        rw [e1, e2]; clear e1 e2 h1 h2 h3
        go_enter Try.func96, Try.ntmps96
        go_wp2
        exact bodyPost_ret (by simp [results, Try.results96, go_sem]) rfl ⟨rfl, rfl⟩
      · have hd3 : (a == 1) = false := by simpa using h3
        have e1 : oneT a b = 0 := by unfold oneT; rw [if_neg (by omega), if_neg h3]
        have e2 : oneB a b = false := by simp [oneB, h1, h2, h3]
        rw [e1, e2]; clear e1 e2 h1 h2 h3
        go_enter Try.func96, Try.ntmps96
        go_wp2
        exact bodyPost_ret (by simp [results, Try.results96, go_sem]) rfl ⟨rfl, rfl⟩

def lett (t : Int) : Int := if t = 1 then 97 else if t = 2 then 98 else if t = 3 then 105 else if t = 4 then 116 else 63
def ISl (w : World) (A : Option Addr) (xs : List Int) : Prop := ∀ i x, xs[i]? = some x → ∃ g o, A = some ⟨g, o, none⟩ ∧ w.cell? ⟨g, o + i, none⟩ = some (.int .i64 x)
theorem ISl.grow {w w' : World} {A : Option Addr} {xs : List Int} (h : ISl w A xs) (hg : Grow w w') : ISl w' A xs := fun i x hx => by
  obtain ⟨g, o, h1, h2⟩ := h i x hx
  exact ⟨g, o, h1, hg.cell h2⟩

theorem all_take {α : Type} (p : α → Bool) (xs : List α) (k : Nat) (x : α) (hx : xs[k]? = some x) (h : (xs.take k).all p = true) (hp : p x = true) : (xs.take (k + 1)).all p = true := by
  rw [List.take_add_one, hx]
  simp [List.all_append, h, hp]
theorem all_fails {α : Type} (p : α → Bool) (xs : List α) (k : Nat) (x : α) (hx : xs[k]? = some x) (hp : p x = false) : xs.all p = false := by
  rw [List.all_eq_false]
  exact ⟨x, List.mem_of_getElem? hx, by simp [hp]⟩

theorem alls_any (xs : List Int) (want : Int) (A : Option Addr) (c : Nat) (w : World) (hlen : xs.length ≤ 9223372036854775807) (hx : ISl w A xs) :
    Calls Try.prog 95 #[.slice A xs.length c, .int .i64 want] w fun e w' => e = .returned (.bool (xs.all (oneB · want))) ∧ w = w' := by
  have Hx := Lib.hid hx
  clear hx
  go_enter Try.func95, Try.ntmps95
  go_wp2
  go_loopw [11] (fun i wr => ∃ k : Nat, k ≤ xs.length ∧ i = .int .i64 k ∧ (xs.take k).all (oneB · want) = true ∧ wr = w) (fun i _ => xs.length - (intOf i).toNat)
  case atStart => exact ⟨0, Nat.zero_le _, rfl, rfl, rfl⟩
  case round =>
    obtain ⟨k, hk, rfl, hall, rfl⟩ := hrel
    have Hall := Lib.hid hall
    clear hall
    by_cases hlt : k < xs.length
    · obtain ⟨x, hxk⟩ : ∃ x, xs[k]? = some x := ⟨_, List.getElem?_eq_getElem hlt⟩
      obtain ⟨g, o, rfl, c1⟩ := Hx.out k x hxk
      have Hxk := Lib.hid hxk
      clear hxk
      cases hr : oneB x want
      · have Fin := Lib.hid (all_fails (oneB · want) xs k x Hxk.out hr)
        go_wp2_with ((go_at_call 96; ((with_reducible refine (one_any _ _ _).mono ?_); rintro e w' ⟨rfl, rfl⟩)))
        go_ret
        exact ret_bool Fin.out.symm rfl
      · have Hr := Lib.hid (all_take (oneB · want) xs k x Hxk.out Hall.out hr)
        go_wp2_with ((go_at_call 96; ((with_reducible refine (one_any _ _ _).mono ?_); rintro e w' ⟨rfl, rfl⟩)))
        go_roundw
        case rel => exact ⟨k + 1, by omega, by go_num, Hr.out, trivial⟩
        case measure => simp [intOf]; omega
    · have fin : xs.all (oneB · want) = true := by
        have := Hall.out
        rwa [List.take_of_length_le (by omega)] at this
      have Fin := Lib.hid fin
      clear fin
      go_wp2
      go_ret
      exact ret_bool Fin.out.symm rfl
def kindE (k : Int) (t : List Int) : Int × Int :=
  if k ≤ 5 then (if t.all (oneB · 2) then (2, 0) else (0, 9))
  else if k ≤ 11 then (if oneB (t.getD 0 0) (t.getD 1 0) then (2, 0) else (0, 9))
  else if k ≤ 14 then (if t.all (oneB · 3) then (3, 0) else (0, 9))
  else if k = 15 then (if t.all (oneB · 4) then (4, 0) else (0, 9))
  else if k = 17 then (if oneB (t.getD 1 0) (t.getD 2 0) && (t.take 1).all (oneB · 2) then (oneT (t.getD 1 0) (t.getD 2 0), 0) else (0, 9))
  else (if oneB (t.getD 0 0) (t.getD 1 0) then (oneT (t.getD 0 0) (t.getD 1 0), 0) else (0, 9))

theorem kind_all (k : Int) (xs : List Int) (A : Option Addr) (c : Nat) (w : World) (hlen : xs.length ≤ 9223372036854775807) (hx : ISl w A xs) (h : k ≤ 5 ∨ (12 ≤ k ∧ k ≤ 15)) :
    Calls Try.prog 86 #[.int .i64 k, .slice A xs.length c] w fun e w' => e = .returned (.tuple #[.int .i64 (kindE k xs).1, .int .i64 (kindE k xs).2]) ∧ Grow w w' := by
  have h5 : (k ≤ 5) ∨ (¬ k ≤ 5 ∧ ¬ k ≤ 11 ∧ k ≤ 14) ∨ (¬ k ≤ 5 ∧ ¬ k ≤ 11 ∧ ¬ k ≤ 14 ∧ k = 15) := by omega
  clear h
  rcases h5 with h1 | ⟨h1, h2, h3⟩ | ⟨h1, h2, h3, rfl⟩
  · cases hr : xs.all (oneB · 2)
    · have e : kindE k xs = (0, 9) := by simp [kindE, h1, hr]
      rw [e]; clear e
      have d1 : decide (k ≤ 5) = true := by simpa using h1
      clear h1
      go_enter Try.func86, Try.ntmps86
      go_wp2_with ((go_at_call 95; ((with_reducible refine (alls_any xs _ _ _ _ hlen hx).mono ?_); rintro e w' ⟨rfl, rfl⟩)))
      exact bodyPost_ret (by simp [results, Try.results86, go_sem]) rfl ⟨rfl, growW⟩
    · have e : kindE k xs = (2, 0) := by simp [kindE, h1, hr]
      rw [e]; clear e
      have d1 : decide (k ≤ 5) = true := by simpa using h1
      clear h1
      go_enter Try.func86, Try.ntmps86
      go_wp2_with ((go_at_call 95; ((with_reducible refine (alls_any xs _ _ _ _ hlen hx).mono ?_); rintro e w' ⟨rfl, rfl⟩)))
      exact bodyPost_ret (by simp [results, Try.results86, go_sem]) rfl ⟨rfl, growW⟩
  · cases hr : xs.all (oneB · 3)
    · have e : kindE k xs = (0, 9) := by simp [kindE, h1, h2, h3, hr]
      rw [e]; clear e
      have d1 : decide (k ≤ 5) = false := by simpa using h1
      have d2 : decide (k ≤ 11) = false := by simpa using h2
      have d3 : decide (k ≤ 14) = true := by simpa using h3
      clear h1 h2 h3
      go_enter Try.func86, Try.ntmps86
      go_wp2_with ((go_at_call 95; ((with_reducible refine (alls_any xs _ _ _ _ hlen hx).mono ?_); rintro e w' ⟨rfl, rfl⟩)))
      exact bodyPost_ret (by simp [results, Try.results86, go_sem]) rfl ⟨rfl, growW⟩
    · have e : kindE k xs = (3, 0) := by simp [kindE, h1, h2, h3, hr]
      rw [e]; clear e
      have d1 : decide (k ≤ 5) = false := by simpa using h1
      have d2 : decide (k ≤ 11) = false := by simpa using h2
      have d3 : decide (k ≤ 14) = true := by simpa using h3
      clear h1 h2 h3
      go_enter Try.func86, Try.ntmps86
      go_wp2_with ((go_at_call 95; ((with_reducible refine (alls_any xs _ _ _ _ hlen hx).mono ?_); rintro e w' ⟨rfl, rfl⟩)))
      exact bodyPost_ret (by simp [results, Try.results86, go_sem]) rfl ⟨rfl, growW⟩
  · cases hr : xs.all (oneB · 4)
    · have e : kindE 15 xs = (0, 9) := by simp [kindE, hr]
      rw [e]; clear e
      clear h1 h2 h3
      go_enter Try.func86, Try.ntmps86
      go_wp2_with ((go_at_call 95; ((with_reducible refine (alls_any xs _ _ _ _ hlen hx).mono ?_); rintro e w' ⟨rfl, rfl⟩)))
      exact bodyPost_ret (by simp [results, Try.results86, go_sem]) rfl ⟨rfl, growW⟩
    · have e : kindE 15 xs = (4, 0) := by simp [kindE, hr]
      rw [e]; clear e
      clear h1 h2 h3
      go_enter Try.func86, Try.ntmps86
      go_wp2_with ((go_at_call 95; ((with_reducible refine (alls_any xs _ _ _ _ hlen hx).mono ?_); rintro e w' ⟨rfl, rfl⟩)))
      exact bodyPost_ret (by simp [results, Try.results86, go_sem]) rfl ⟨rfl, growW⟩
theorem one_q (a b : Int) (w : World) : Calls Try.prog 96 #[.int .i64 a, .int .i64 b] w fun e w' => e = .returned (.tuple #[.int .i64 (oneT a b), .bool (oneB a b)]) ∧ w' = w := (one_any a b w).mono fun _ _ ⟨h1, h2⟩ => ⟨h1, h2.symm⟩

theorem kind_two (k : Int) (x y : Int) (g o c : Nat) (w : World) (c0 : w.cell? ⟨g, o, none⟩ = some (.int .i64 x)) (c1 : w.cell? ⟨g, o + 1, none⟩ = some (.int .i64 y)) (h : 6 ≤ k ∧ k ≤ 11 ∨ k = 18) :
    Calls Try.prog 86 #[.int .i64 k, .slice (some ⟨g, o, none⟩) 2 c] w fun e w' => e = .returned (.tuple #[.int .i64 (kindE k [x, y]).1, .int .i64 (kindE k [x, y]).2]) ∧ Grow w w' := by
  rcases h with ⟨h1, h2⟩ | rfl
  · have d1 : decide (k ≤ 5) = false := by simp; omega
    have d2 : decide (k ≤ 11) = true := by simp; omega
    have e0 : kindE k [x, y] = if oneB x y then (2, 0) else (0, 9) := by simp [kindE, show ¬ k ≤ 5 by omega, h2]
    cases hr : oneB x y
    · have e : kindE k [x, y] = (0, 9) := by rw [e0, hr]; rfl
      rw [e]; clear e e0 h1 h2
      go_enter Try.func86, Try.ntmps86
      go_wp2
      go_quiet ((go_at_call 96; exact Calls.quiet_of_same (one_q _ _ _)))
      go_wp2
      exact bodyPost_ret (by simp [results, Try.results86, go_sem]) rfl ⟨rfl, growW⟩
    · have e : kindE k [x, y] = (2, 0) := by rw [e0, hr]; rfl
      rw [e]; clear e e0 h1 h2
      go_enter Try.func86, Try.ntmps86
      go_wp2
      go_quiet ((go_at_call 96; exact Calls.quiet_of_same (one_q _ _ _)))
      go_wp2
      exact bodyPost_ret (by simp [results, Try.results86, go_sem]) rfl ⟨rfl, growW⟩
  · have e0 : kindE 18 [x, y] = if oneB x y then (oneT x y, 0) else (0, 9) := by simp [kindE]
    cases hr : oneB x y
    · have e : kindE 18 [x, y] = (0, 9) := by rw [e0, hr]; rfl
      rw [e]; clear e e0
      go_enter Try.func86, Try.ntmps86
      go_wp2
      go_quiet ((go_at_call 96; exact Calls.quiet_of_same (one_q _ _ _)))
      go_wp2
      exact bodyPost_ret (by simp [results, Try.results86, go_sem]) rfl ⟨rfl, growW⟩
    · have e : kindE 18 [x, y] = (oneT x y, 0) := by rw [e0, hr]; rfl
      rw [e]; clear e e0
      go_enter Try.func86, Try.ntmps86
      go_wp2
      go_quiet ((go_at_call 96; exact Calls.quiet_of_same (one_q _ _ _)))
      go_wp2
      exact bodyPost_ret (by simp [results, Try.results86, go_sem]) rfl ⟨rfl, growW⟩
theorem alls_one (x want : Int) (g o c : Nat) (w : World) (c0 : w.cell? ⟨g, o, none⟩ = some (.int .i64 x)) :
    Calls Try.prog 95 #[.slice (some ⟨g, o, none⟩) 1 c, .int .i64 want] w fun e w' => e = .returned (.bool (oneB x want)) ∧ w = w' := by
  have := alls_any [x] want (some ⟨g, o, none⟩) c w (by simp) (fun i y hy => by
    match i, hy with
    | 0, hy => simp at hy; subst hy; exact ⟨g, o, rfl, c0⟩)
  simpa using this

theorem kind_three (x y z : Int) (g o c : Nat) (hc : 1 ≤ c) (w : World) (c0 : w.cell? ⟨g, o, none⟩ = some (.int .i64 x)) (c1 : w.cell? ⟨g, o + 1, none⟩ = some (.int .i64 y)) (c2 : w.cell? ⟨g, o + 2, none⟩ = some (.int .i64 z)) :
    Calls Try.prog 86 #[.int .i64 17, .slice (some ⟨g, o, none⟩) 3 c] w fun e w' => e = .returned (.tuple #[.int .i64 (kindE 17 [x, y, z]).1, .int .i64 (kindE 17 [x, y, z]).2]) ∧ Grow w w' := by
  have cn : ∀ n, (w.drewN n).cell? ⟨g, o, none⟩ = some (.int .i64 x) := fun _ => c0
  have e0 : kindE 17 [x, y, z] = if oneB y z && oneB x 2 then (oneT y z, 0) else (0, 9) := by simp [kindE]
  cases hr : oneB y z
  · have e : kindE 17 [x, y, z] = (0, 9) := by rw [e0, hr]; rfl
    rw [e]; clear e e0
    go_enter Try.func86, Try.ntmps86
    go_wp2
    go_quiet ((go_at_call 96; exact Calls.quiet_of_same (one_q _ _ _)))
    go_wp2
    exact bodyPost_ret (by simp [results, Try.results86, go_sem]) rfl ⟨rfl, growW⟩
  · cases hs : oneB x 2
    · have e : kindE 17 [x, y, z] = (0, 9) := by rw [e0, hr, hs]; rfl
      rw [e]; clear e e0
      go_enter Try.func86, Try.ntmps86
      go_wp2
      go_quiet ((go_at_call 96; exact Calls.quiet_of_same (one_q _ _ _)))
      go_wp2_with ((go_at_call 95; ((with_reducible refine (alls_one _ _ _ _ _ _ (cn _)).mono ?_); rintro e w' ⟨rfl, rfl⟩)))
      exact bodyPost_ret (by simp [results, Try.results86, go_sem]) rfl ⟨rfl, growW⟩
    · have e : kindE 17 [x, y, z] = (oneT y z, 0) := by rw [e0, hr, hs]; rfl
      rw [e]; clear e e0
      go_enter Try.func86, Try.ntmps86
      go_wp2
      go_quiet ((go_at_call 96; exact Calls.quiet_of_same (one_q _ _ _)))
      go_wp2_with ((go_at_call 95; ((with_reducible refine (alls_one _ _ _ _ _ _ (cn _)).mono ?_); rintro e w' ⟨rfl, rfl⟩)))
      exact bodyPost_ret (by simp [results, Try.results86, go_sem]) rfl ⟨rfl, growW⟩
end Go.Proofs.Ytamfpppbjaelaaa

namespace Go.Proofs.Ytamfpppbjaelaaa
open Go.ChangeShapes Go.WideShapes Go.ChangeAt Go.RowKit Go.Calm
set_option maxRecDepth 100000
set_option linter.unusedVariables false
set_option linter.unusedSimpArgs false
section
variable {H : Type} {enc : TypeId × Value → H} {w : World} {base : Nat} {spare : Nat → Bool} {held : Bool}
theorem ints_cells {fuel : Nat} {cs : List Value} {x : DataW H × List MemPlace} (h : DataW.trod enc Try.prog w base spare held fuel 22 cs = some x) :
    ∃ (A : Option Addr) (xs : List Int) (cap : Nat), cs = [.slice A xs.length cap] ∧ ISl w A xs ∧ xs.length ≤ maxLen ∧ xs.length ≤ cap ∧ ∀ v ∈ xs, inI64 v := by
  obtain ⟨A, len, cap, n, D, hcs, hl, hcap, hi⟩ := slice_cells (c := 1) Try.underlying22 (by kernel_rfl) (by omega) h
  have pick : ∀ i, i < len → ∃ v : Int, inI64 v ∧ ∃ g o, A = some ⟨g, o, none⟩ ∧ w.cell? ⟨g, o + i, none⟩ = some (.int .i64 v) := fun i hlt => by
    obtain ⟨g, o, ys, hA, hyl, hat, hd⟩ := hi i hlt
    obtain ⟨v, hv, _, wv⟩ := DataW.trod_int Try.underlying3 hd
    subst hv
    exact ⟨v, wf_i64 wv, g, o, hA, by simpa using hat 0 _ rfl⟩
  have build : ∀ m, m ≤ len → ∃ xs : List Int, xs.length = m ∧ (∀ v ∈ xs, inI64 v) ∧ ISl w A xs := by
    intro m
    induction m with
    | zero => exact fun _ => ⟨[], rfl, by simp, fun i x hx => by simp at hx⟩
    | succ m ih =>
      intro hm
      obtain ⟨xs, hxl, hxb, hxs⟩ := ih (by omega)
      obtain ⟨v, hb, g, o, hA, hc⟩ := pick m (by omega)
      refine ⟨xs ++ [v], by simp [hxl], fun u hu => ?_, fun i x hx => ?_⟩
      · rcases List.mem_append.1 hu with h' | h'
        · exact hxb u h'
        · simp at h'; subst h'; exact hb
      · rcases Nat.lt_or_ge i xs.length with h' | h'
        · rw [List.getElem?_append_left h'] at hx
          exact hxs i x hx
        · rw [List.getElem?_append_right h'] at hx
          have : i - xs.length = 0 := by
            rcases Nat.eq_zero_or_pos (i - xs.length) with h0 | h0
            · exact h0
            · rw [List.getElem?_eq_none (by simp; omega)] at hx; cases hx
          rw [this] at hx
          simp at hx
          subst hx
          have hi' : i = m := by omega
          subst hi'
          exact ⟨g, o, hA, hc⟩
  obtain ⟨xs, hxl, hxb, hxs⟩ := build len (Nat.le_refl _)
  exact ⟨A, xs, cap, by rw [hcs, hxl], hxs, by omega, by omega, hxb⟩
theorem ints_read {r : Reach} {b0 : Nat} {v : Value} {d : DataW H} {p : List MemPlace} (hv : Value.okWide Try.prog w r b0 22 v) (h : DataW.Trod enc Try.prog w base spare held 22 v d p) :
    ∃ (A : Option Addr) (xs : List Int) (cap : Nat), v = .slice A xs.length cap ∧ ISl w A xs ∧ xs.length ≤ maxLen ∧ xs.length ≤ cap ∧ ∀ v ∈ xs, inI64 v := by
  obtain ⟨a, len, cap, rfl⟩ := okWide_slice Try.underlying22 hv
  obtain ⟨fuel, hf⟩ := h
  obtain ⟨A, xs, c, hcs, h1, h2, h3, h4⟩ := ints_cells hf
  simp [Value.cells] at hcs
  obtain ⟨rfl, rfl, rfl⟩ := hcs
  exact ⟨_, xs, _, rfl, h1, h2, h3, h4⟩
end
inductive E where
  | leaf : E
  | mk (kind : Int) (v : V) (col : Int) (A : Option Addr) (n cap : Nat) (kid : Nat → E) : E
instance : Inhabited E := ⟨.leaf⟩
namespace E
def kind : E → Int
  | .leaf => 0
  | .mk k _ _ _ _ _ _ => k
def v : E → V
  | .leaf => ⟨0, 0, es⟩
  | .mk _ v _ _ _ _ _ => v
def col : E → Int
  | .leaf => 0
  | .mk _ _ c _ _ _ _ => c
def A : E → Option Addr
  | .leaf => none
  | .mk _ _ _ a _ _ _ => a
def n : E → Nat
  | .leaf => 0
  | .mk _ _ _ _ n _ _ => n
def cap : E → Nat
  | .leaf => 0
  | .mk _ _ _ _ _ c _ => c
def kid : E → Nat → E
  | .leaf, _ => .leaf
  | .mk _ _ _ _ _ _ k, i => k i
def cells (e : E) : List Value := [.int .i64 e.kind, .int .i64 e.v.k, .int .i64 e.v.n, .string e.v.s, .int .i64 e.col, .slice e.A e.n e.cap]
abbrev val (e : E) : Value := .agg #[.int .i64 e.kind, .int .i64 e.v.k, .int .i64 e.v.n, .string e.v.s, .int .i64 e.col, .slice e.A e.n e.cap]
end E

structure ECells (w : World) (g o : Nat) (e : E) : Prop where
  c0 : w.cell? ⟨g, o, none⟩ = some (.int .i64 e.kind)
  c1 : w.cell? ⟨g, o + 1, none⟩ = some (.int .i64 e.v.k)
  c2 : w.cell? ⟨g, o + 2, none⟩ = some (.int .i64 e.v.n)
  c3 : w.cell? ⟨g, o + 3, none⟩ = some (.string e.v.s)
  c4 : w.cell? ⟨g, o + 4, none⟩ = some (.int .i64 e.col)
  c5 : w.cell? ⟨g, o + 5, none⟩ = some (.slice e.A e.n e.cap)

inductive EX (w : World) : E → Prop
  | leaf : EX w .leaf
  | mk {k : Int} {v : V} {c : Int} {A : Option Addr} {n cap : Nat} {kid : Nat → E} (hn : n ≤ maxLen) (hc : ∀ i, i < n → ∃ g o, A = some ⟨g, o, none⟩ ∧ ECells w g (o + i * 6) (kid i)) (hk : ∀ i, i < n → EX w (kid i)) (hv : VB v) (hi : inI64 k ∧ inI64 c) : EX w (.mk k v c A n cap kid)
theorem ECells.grow {w w' : World} (h : Grow w w') {g o : Nat} {e : E} (hc : ECells w g o e) : ECells w' g o e :=
  ⟨h.cell hc.c0, h.cell hc.c1, h.cell hc.c2, h.cell hc.c3, h.cell hc.c4, h.cell hc.c5⟩
theorem EX.grow {w w' : World} (h : Grow w w') {e : E} (he : EX w e) : EX w' e := by
  induction he with
  | leaf => exact .leaf
  | mk hn hc hk hv hi ih => exact .mk hn (fun i hi => by obtain ⟨g, o, h1, h2⟩ := hc i hi; exact ⟨g, o, h1, h2.grow h⟩) ih hv hi

section
variable {H : Type} {enc : TypeId × Value → H} {w : World} {base : Nat} {spare : Nat → Bool} {held : Bool}

theorem slice_cells' {t e : TypeId} {fuel c : Nat} {cs : List Value} {x : DataW H × List MemPlace} (ht : Try.prog.underlying t = some (.slice e)) (hc : Try.prog.cellsOf e = c) (hc0 : 0 < c) (h : DataW.trod enc Try.prog w base spare held fuel t cs = some x) :
    ∃ (A : Option Addr) (len cap n : Nat) (D : Nat → DataW H × List MemPlace), n < fuel + 1 ∧ cs = [.slice A len cap] ∧ len ≤ maxLen ∧ len ≤ cap ∧ ∀ i, i < len → n < fuel ∧ ∃ g o ys, A = some ⟨g, o, none⟩ ∧ ys.length = c ∧ (∀ j y, ys[j]? = some y → w.cell? ⟨g, o + i * c + j, none⟩ = some y) ∧ DataW.trod enc Try.prog w base spare held n e ys = some (D i) := by
  rcases DataW.trod_slice ht h with ⟨h0, _⟩ | ⟨a, len, cap, elems, rest, n, hfu, hcs, _, hb, hl, hm, hlen, hel, _, _⟩
  · exact ⟨none, 0, 0, 0, fun _ => (.nil, []), by omega, h0, Nat.zero_le _, Nat.le_refl _, fun i hi => by omega⟩
  · refine ⟨some a, len, cap, n, fun i => elems.getD i (.nil, []), by omega, hcs, by omega, hl, fun i hi => ⟨by omega, ?_⟩⟩
    have get : ∀ i, i < len → ∃ ys, w.cells? base (a.add (i * c)) c = some ys ∧ DataW.trod enc Try.prog w base spare held n e ys = some (elems.getD i (.nil, [])) := fun i hi => by
      have h1 := hel i hi
      rw [hc] at h1
      have h2 : elems[i]? = some (elems.getD i (.nil, [])) := by simp [hlen, hi]
      rw [h2] at h1
      cases hcell : w.cells? base (a.add (i * c)) c with
      | none => rw [hcell] at h1; cases h1
      | some ys => rw [hcell] at h1; exact ⟨ys, rfl, h1⟩
    have hsp : a.spot = none := by
      obtain ⟨ys, hcell, _⟩ := get 0 (by omega)
      obtain ⟨_, hyl, hat⟩ := World.cells?_some hcell
      have h1 := hat 0 hc0
      have h2 : ys[0]? = some (ys[0]'(by omega)) := List.getElem?_eq_getElem _
      rw [h2, Nat.zero_mul] at h1
      have e : (a.add 0) = a := rfl
      rw [e] at h1
      rcases spot_none h1 with h3 | h3
      · exact h3
      · exact absurd rfl h3
    obtain ⟨g, o, sp⟩ := a
    simp only at hsp
    subst hsp
    obtain ⟨ys, hcell, hd⟩ := get i hi
    obtain ⟨_, hyl, hat⟩ := World.cells?_some hcell
    refine ⟨g, o, ys, rfl, hyl, fun j y hy => ?_, hd⟩
    have hj : j < c := by rw [← hyl]; exact (List.getElem?_eq_some_iff.1 hy).1
    have := hat j hj
    rw [hy, add_flat, add_flat] at this
    exact this

theorem ex_cells : ∀ (fuel : Nat) {cs : List Value} {x : DataW H × List MemPlace}, DataW.trod enc Try.prog w base spare held fuel 32 cs = some x →
    ∃ e : E, cs = e.cells ∧ EX w e := by
  intro fuel
  induction fuel using Nat.strongRecOn with
  | ind fuel ih =>
    intro cs x h
    obtain ⟨xs, n, hfu, _, hlen, hxl, hf⟩ := DataW.trod_struct Try.underlying32 h
    have h6 : cs.length = 6 := by rw [hlen]; kernel_rfl
    match cs, h6 with
    | [a, b, c, d, e, f], _ =>
      have f0 := hf 0 _ rfl
      have f1 := hf 1 _ rfl
      have f2 := hf 2 _ rfl
      have f3 := hf 3 _ rfl
      have g : ∀ i, i < 4 → ∃ y, xs[i]? = some y := fun i hi => ⟨xs[i]'(by rw [hxl]; exact hi), List.getElem?_eq_getElem _⟩
      obtain ⟨y0, e0⟩ := g 0 (by omega)
      obtain ⟨y1, e1⟩ := g 1 (by omega)
      obtain ⟨y2, e2⟩ := g 2 (by omega)
      obtain ⟨y3, e3⟩ := g 3 (by omega)
      rw [e0] at f0
      rw [e1] at f1
      rw [e2] at f2
      rw [e3] at f3
      obtain ⟨k, hk, _, wk⟩ := DataW.trod_int Try.underlying3 f0
      obtain ⟨v, hv, bv⟩ := val_cells f1
      obtain ⟨m, hm, _, wm⟩ := DataW.trod_int Try.underlying3 f2
      obtain ⟨A, len, cap, n', D, hn', hcs, hl, _, hi⟩ := slice_cells' (c := 6) Try.underlying23 (by kernel_rfl) (by omega) f3
      have c0 : Try.prog.cellsOf 3 = 1 := by kernel_rfl
      have c1 : Try.prog.cellsOf 30 = 3 := by kernel_rfl
      have c2 : Try.prog.cellsOf 23 = 1 := by kernel_rfl
      simp [c0] at hk
      simp [c1] at hv
      simp [c0] at hm
      simp [c2] at hcs
      have pick : ∀ i, i < len → ∃ e : E, (∃ g o, A = some ⟨g, o, none⟩ ∧ ECells w g (o + i * 6) e) ∧ EX w e := fun i hlt => by
        obtain ⟨hlt', g, o, ys, hA, hyl, hat, hd⟩ := hi i hlt
        obtain ⟨e, he, hx⟩ := ih n' (by omega) hd
        subst he
        exact ⟨e, ⟨g, o, hA, hat 0 _ rfl, hat 1 _ rfl, hat 2 _ rfl, hat 3 _ rfl, hat 4 _ rfl, hat 5 _ rfl⟩, hx⟩
      obtain ⟨kid, hkid⟩ := Go.Deep.choose_lt pick
      refine ⟨.mk k v m A len cap kid, ?_, .mk hl (fun i hi => (hkid i hi).1) (fun i hi => (hkid i hi).2) bv ⟨wf_i64 wk, wf_i64 wm⟩⟩
      obtain ⟨h1, h2, h3⟩ := hv
      simp [E.cells, E.kind, E.v, E.col, E.A, E.n, E.cap, hk, h1, h2, h3, hm, hcs]

theorem ex_read {r : Reach} {b0 : Nat} {v : Value} {d : DataW H} {p : List MemPlace} (hv : Value.okWide Try.prog w r b0 32 v) (h : DataW.Trod enc Try.prog w base spare held 32 v d p) : ∃ e : E, v = e.val ∧ EX w e := by
  obtain ⟨cs, rfl, _⟩ := okWide_struct Try.underlying32 hv
  obtain ⟨fuel, hf⟩ := h
  obtain ⟨e, he, hx⟩ := ex_cells fuel hf
  refine ⟨e, ?_, hx⟩
  have : cs.toList = e.cells := by simpa [Value.cells] using he
  cases cs
  simp at this
  rw [this]
  rfl
end
end Go.Proofs.Ytamfpppbjaelaaa

namespace Go.Proofs.Ytamfpppbjaelaaa
open Go.RowKit Go.Calm
set_option linter.unusedSimpArgs false
set_option linter.unusedVariables false
def typKids (f : Nat → Int → Int × Int × Int) : Nat → Nat → Int → List Int → Int × Int × List Int
  | 0, _, m, ts => (0, m, ts)
  | r + 1, i, m, ts => if (f i m).2.1 = 0 then typKids f r (i + 1) (f i m).2.2 (ts ++ [(f i m).1]) else ((f i m).2.1, (f i m).2.2, ts)
def typE (cols : List Int) : E → Int → Int → Int × Int × Int
  | .leaf, deep, m => if 200 < m + 1 ∨ 20 < deep then (0, 4, m + 1) else (0, 1, m + 1)
  | .mk k v c _ n _ kid, deep, m =>
    if 200 < m + 1 ∨ 20 < deep then (0, 4, m + 1)
    else if kidsN k < 0 then (0, 1, m + 1)
    else if (n : Int) ≠ kidsN k then (0, 5, m + 1)
    else
      let r := typKids (fun i m' => typE cols (kid i) (deep + 1) m') n 0 (m + 1) []
      if r.1 ≠ 0 then (0, r.1, r.2.1)
      else if k = 1 then (v.k, wrongV v, r.2.1)
      else if k = 2 then (if c < 0 ∨ (cols.length : Int) ≤ c then (0, 7, r.2.1) else (cols.getD c.toNat 0, 0, r.2.1))
      else if k = 16 then (2, 0, r.2.1)
      else ((kindE k r.2.2).1, (kindE k r.2.2).2, r.2.1)

theorem typKids_bd {f : Nat → Int → Int × Int × Int} (hf : ∀ i m, m ≤ 200 → m ≤ (f i m).2.2 ∧ (f i m).2.2 ≤ 201 ∧ ((f i m).2.1 = 0 → (f i m).2.2 ≤ 200)) : ∀ (r i : Nat) (m : Int) (ts : List Int), m ≤ 200 →
    m ≤ (typKids f r i m ts).2.1 ∧ (typKids f r i m ts).2.1 ≤ 201 ∧ ((typKids f r i m ts).1 = 0 → (typKids f r i m ts).2.1 ≤ 200 ∧ (typKids f r i m ts).2.2.length = ts.length + r)
  | 0, i, m, ts, h => by simp [typKids]; omega
  | r + 1, i, m, ts, h => by
    unfold typKids
    obtain ⟨h1, h2, h3⟩ := hf i m h
    split
    · rename_i h0
      have := h3 h0
      obtain ⟨g1, g2, g3⟩ := typKids_bd hf r (i + 1) (f i m).2.2 (ts ++ [(f i m).1]) this
      refine ⟨by omega, g2, fun h => ?_⟩
      obtain ⟨g4, g5⟩ := g3 h
      refine ⟨g4, ?_⟩
      rw [g5]; simp; omega
    · rename_i h0
      exact ⟨h1, h2, fun h => absurd h h0⟩
theorem typE_bd (cols : List Int) (e : E) : ∀ (deep m : Int), m ≤ 200 → m ≤ (typE cols e deep m).2.2 ∧ (typE cols e deep m).2.2 ≤ 201 ∧ ((typE cols e deep m).2.1 = 0 → (typE cols e deep m).2.2 ≤ 200) := by
  induction e with
  | leaf =>
    intro deep m h
    unfold typE
    split <;> simp <;> omega
  | mk k v c A n cap kid ih =>
    intro deep m h
    unfold typE
    split
    · simp; omega
    · split
      · simp; omega
      · split
        · simp; omega
        · obtain ⟨g1, g2, g3⟩ := typKids_bd (f := fun i m' => typE cols (kid i) (deep + 1) m') (fun i m hm => ih i (deep + 1) m hm) n 0 (m + 1) [] (by omega)
          simp only
          split
          · exact ⟨by simp only; omega, by simp only; omega, fun h' => by rename_i h0; exact absurd h' h0⟩
          · rename_i h0
            obtain ⟨g4, g5⟩ := g3 (by simpa using h0)
            repeat' split
            all_goals exact ⟨by simp only; omega, by simp only; omega, fun _ => by simp only; omega⟩
def TypC (cols : List Int) (Ac : Option Addr) (cc : Nat) (e : E) : Prop := ∀ (gx ox g : Nat) (deep m : Int) (w0 w : World), EX w0 e → ECells w0 gx ox e → ISl w0 Ac cols → Grow w0 w → w0.heap.size ≤ g →
  Blk w g 113 #[.slice Ac cols.length cc, .int .i64 m] → 0 ≤ m → m ≤ 200 → 1 ≤ deep → deep ≤ 21 →
  Calls Try.prog 67 #[.pointer (some ⟨g, 0, none⟩), .pointer (some ⟨gx, ox, none⟩), .int .i64 deep] w fun en w' =>
    en = .returned (.tuple #[.int .i64 (typE cols e deep m).1, .int .i64 (typE cols e deep m).2.1]) ∧ Blk w' g 113 #[.slice Ac cols.length cc, .int .i64 (typE cols e deep m).2.2] ∧ GX g w w'

theorem typ_much (cols : List Int) (Ac : Option Addr) (cc : Nat) (gx ox g : Nat) (deep m : Int) (w : World) (hb : Blk w g 113 #[.slice Ac cols.length cc, .int .i64 m]) (h0 : 0 ≤ m) (h1 : m ≤ 200) (h : 200 < m + 1 ∨ 20 < deep) :
  Calls Try.prog 67 #[.pointer (some ⟨g, 0, none⟩), .pointer (some ⟨gx, ox, none⟩), .int .i64 deep] w fun en w' =>
    en = .returned (.tuple #[.int .i64 0, .int .i64 4]) ∧ Blk w' g 113 #[.slice Ac cols.length cc, .int .i64 (m + 1)] ∧ GX g w w' := by
  obtain ⟨c, f⟩ := hb.rules
  have d : (decide (200 < m + 1) = true) ∨ (decide (200 < m + 1) = false ∧ decide (20 < deep) = true) := by
    simp only [decide_eq_true_eq, decide_eq_false_iff_not]; omega
  clear h
  rcases d with d1 | ⟨d1, d2⟩
  · go_enter Try.func67, Try.ntmps67
    go_wp2
    exact bodyPost_ret (by simp [results, Try.results67, go_sem]) rfl ⟨rfl, hb.set 1 _, (GX.refl g w).set 1 _⟩
  · go_enter Try.func67, Try.ntmps67
    go_wp2
    exact bodyPost_ret (by simp [results, Try.results67, go_sem]) rfl ⟨rfl, hb.set 1 _, (GX.refl g w).set 1 _⟩
theorem typ_form (cols : List Int) (Ac : Option Addr) (cc : Nat) (e : E) (gx ox g : Nat) (deep m : Int) (w : World) (hb : Blk w g 113 #[.slice Ac cols.length cc, .int .i64 m]) (hne : gx ≠ g) (hx : ECells w gx ox e) (hn : e.n ≤ maxLen) (h0 : 0 ≤ m) (d1 : decide (200 < m + 1) = false) (d2 : decide (20 < deep) = false)
    (h : kidsN e.kind < 0 ∨ ¬ kidsN e.kind < 0 ∧ (e.n : Int) ≠ kidsN e.kind) :
  Calls Try.prog 67 #[.pointer (some ⟨g, 0, none⟩), .pointer (some ⟨gx, ox, none⟩), .int .i64 deep] w fun en w' =>
    en = .returned (.tuple #[.int .i64 0, .int .i64 (if kidsN e.kind < 0 then 1 else 5)]) ∧ Blk w' g 113 #[.slice Ac cols.length cc, .int .i64 (m + 1)] ∧ GX g w w' := by
  obtain ⟨c, f⟩ := hb.rules
  obtain ⟨c0, c1, c2, c3, c4, c5⟩ := hx
  have hm : m + 1 ≤ 200 := by simp at d1; omega
  have d : (decide (kidsN e.kind < 0) = true) ∨ (decide (kidsN e.kind < 0) = false ∧ ((e.n : Int) != kidsN e.kind) = true) := by
    simp only [decide_eq_true_eq, decide_eq_false_iff_not, bne_iff_ne]; omega
  clear h
  rcases d with d3 | ⟨d3, d4⟩
  · have e1 : (if kidsN e.kind < 0 then (1 : Int) else 5) = 1 := if_pos (by simpa using d3)
    rw [e1]; clear e1
    go_enter Try.func67, Try.ntmps67
    go_wp2_with ((go_at_call 85; ((with_reducible refine (kids_any _ _).mono ?_); rintro e w' ⟨rfl, rfl⟩)))
    exact bodyPost_ret (by simp [results, Try.results67, go_sem]) rfl ⟨rfl, hb.set 1 _, (GX.refl g w).set 1 _⟩
  · have e1 : (if kidsN e.kind < 0 then (1 : Int) else 5) = 5 := if_neg (by simpa using d3)
    rw [e1]; clear e1
    go_enter Try.func67, Try.ntmps67
    go_wp2_with ((go_at_call 85; ((with_reducible refine (kids_any _ _).mono ?_); rintro e w' ⟨rfl, rfl⟩)))
    exact bodyPost_ret (by simp [results, Try.results67, go_sem]) rfl ⟨rfl, hb.set 1 _, (GX.refl g w).set 1 _⟩
theorem ECells.gx {w w' : World} {g gx ox : Nat} {e : E} (h : GX g w w') (hne : gx ≠ g) (hc : ECells w gx ox e) : ECells w' gx ox e :=
  ⟨h.cell hc.c0 (by simpa using hne), h.cell hc.c1 (by simpa using hne), h.cell hc.c2 (by simpa using hne), h.cell hc.c3 (by simpa using hne), h.cell hc.c4 (by simpa using hne), h.cell hc.c5 (by simpa using hne)⟩

theorem typ_lit (cols : List Int) (Ac : Option Addr) (cc : Nat) (e : E) (gx ox g : Nat) (deep m : Int) (w : World) (hb : Blk w g 113 #[.slice Ac cols.length cc, .int .i64 m]) (hne : gx ≠ g) (hx : ECells w gx ox e) (h0 : 0 ≤ m) (d1 : decide (200 < m + 1) = false) (d2 : decide (20 < deep) = false) (hk : e.kind = 1) (hn : e.n = 0) :
  Calls Try.prog 67 #[.pointer (some ⟨g, 0, none⟩), .pointer (some ⟨gx, ox, none⟩), .int .i64 deep] w fun en w' =>
    en = .returned (.tuple #[.int .i64 e.v.k, .int .i64 (wrongV e.v)]) ∧ Blk w' g 113 #[.slice Ac cols.length cc, .int .i64 (m + 1)] ∧ GX g w w' := by
  obtain ⟨c, f⟩ := hb.rules
  have hx0 := Lib.hid hx
  obtain ⟨c0, c1, c2, c3, c4, c5⟩ := hx
  have hm : m + 1 ≤ 200 := by simp at d1; omega
  have kn : kidsN 1 = 0 := rfl
  rw [hk] at c0
  rw [hn] at c5
  clear hk hn
  go_enter Try.func67, Try.ntmps67
  go_wp2_with ((go_at_call 85; ((with_reducible refine (kids_any _ _).mono ?_); rintro e w' ⟨rfl, rfl⟩)))
  refine wp_loop_rounds 1 ?_
  rw [rounds_succ]
  go_wp2
  refine wp_forget (fun W => ECells W gx ox e ∧ Blk W g 113 #[.slice Ac cols.length cc, .int .i64 (m + 1)] ∧ GX g w W) ⟨hx0.out.gx ((GX.refl g w).set 1 _) hne, hb.set 1 _, (GX.refl g w).set 1 _⟩ ?_
  clear c f c0 c1 c2 c3 c4 c5 hb hx0
  rintro W ⟨hx, hb, hg⟩
  apply wp_region_calm 12 (by kernel_rfl) (by kernel_rfl)
  case h' =>
    intro Q0 hQ0
    simp only [List.take_succ_cons, List.take_zero]
    repeat ((first | ((first | apply calm_p rfl | apply calm_y rfl rfl rfl); case h1 => (intro w1 hw1 hF K hK; obtain ⟨c0, c1, c2, c3, c4, c5⟩ := hx.grow hw1; go_simp; first | exact hK _ (Grow.refl _) | (go_at_call 68; ((with_reducible refine (wrong_any e.v _).mono ?_); rintro e w' ⟨rfl, hg⟩; exact ⟨_, rfl, hK _ hg⟩)))) | apply calm_n rfl rfl rfl rfl); intro K hK; go_simp; apply hK; clear hK K)
    refine calm_nil ?_
    intro w1 hw1 hF
    apply hQ0
    clear hQ0
    simp only [List.drop_succ_cons, List.drop_zero]
    clear hF
    go_wp2
    exact bodyPost_ret (by simp [results, Try.results67, go_sem]) rfl ⟨rfl, hb.grow hw1, hg.grow hw1⟩
  case hp' => trivial
theorem typ_name (cols : List Int) (Ac : Option Addr) (cc : Nat) (e : E) (gx ox g : Nat) (deep m : Int) (w : World) (hb : Blk w g 113 #[.slice Ac cols.length cc, .int .i64 m]) (hne : gx ≠ g) (hx : ECells w gx ox e) (h0 : 0 ≤ m) (d1 : decide (200 < m + 1) = false) (d2 : decide (20 < deep) = false) (hk : e.kind = 2) (hn : e.n = 0) (h : e.col < 0 ∨ (cols.length : Int) ≤ e.col) :
  Calls Try.prog 67 #[.pointer (some ⟨g, 0, none⟩), .pointer (some ⟨gx, ox, none⟩), .int .i64 deep] w fun en w' =>
    en = .returned (.tuple #[.int .i64 0, .int .i64 7]) ∧ Blk w' g 113 #[.slice Ac cols.length cc, .int .i64 (m + 1)] ∧ GX g w w' := by
  obtain ⟨c, f⟩ := hb.rules
  obtain ⟨c0, c1, c2, c3, c4, c5⟩ := hx
  have hm : m + 1 ≤ 200 := by simp at d1; omega
  have kn : kidsN 2 = 0 := rfl
  rw [hk] at c0
  rw [hn] at c5
  have d : decide (e.col < 0) = true ∨ decide (e.col < 0) = false ∧ decide ((cols.length : Int) ≤ e.col) = true := by
    simp only [decide_eq_true_eq, decide_eq_false_iff_not]; omega
  clear h hk hn
  rcases d with d3 | ⟨d3, d4⟩
  · go_enter Try.func67, Try.ntmps67
    go_wp2_with ((go_at_call 85; ((with_reducible refine (kids_any _ _).mono ?_); rintro e w' ⟨rfl, rfl⟩)))
    refine wp_loop_rounds 1 ?_
    rw [rounds_succ]
    go_wp2
    go_quiet (fail)
    go_wp2
    exact bodyPost_ret (by simp [results, Try.results67, go_sem]) rfl ⟨rfl, hb.set 1 _, ((GX.refl g w).set 1 _).drewN _⟩
  · go_enter Try.func67, Try.ntmps67
    go_wp2_with ((go_at_call 85; ((with_reducible refine (kids_any _ _).mono ?_); rintro e w' ⟨rfl, rfl⟩)))
    refine wp_loop_rounds 1 ?_
    rw [rounds_succ]
    go_wp2
    go_quiet (fail)
    go_wp2
    exact bodyPost_ret (by simp [results, Try.results67, go_sem]) rfl ⟨rfl, hb.set 1 _, ((GX.refl g w).set 1 _).drewN _⟩

theorem typ_col (cols : List Int) (Ac : Option Addr) (cc : Nat) (e : E) (gx ox g : Nat) (deep m : Int) (w : World) (hb : Blk w g 113 #[.slice Ac cols.length cc, .int .i64 m]) (hne : gx ≠ g) (hx : ECells w gx ox e) (h0 : 0 ≤ m) (d1 : decide (200 < m + 1) = false) (d2 : decide (20 < deep) = false) (hk : e.kind = 2) (hn : e.n = 0) (hcol : 0 ≤ e.col) (hlt : e.col < (cols.length : Int)) (hlen : cols.length ≤ 9223372036854775807) (hi : ISl w Ac cols) (hg : ∀ a : Addr, Ac = some a → a.block ≠ g) :
  Calls Try.prog 67 #[.pointer (some ⟨g, 0, none⟩), .pointer (some ⟨gx, ox, none⟩), .int .i64 deep] w fun en w' =>
    en = .returned (.tuple #[.int .i64 (cols.getD e.col.toNat 0), .int .i64 0]) ∧ Blk w' g 113 #[.slice Ac cols.length cc, .int .i64 (m + 1)] ∧ GX g w w' := by
  obtain ⟨j, hj⟩ : ∃ j : Nat, e.col = j := ⟨e.col.toNat, by omega⟩
  have hjl : j < cols.length := by omega
  have hjv : cols[j]? = some (cols.getD e.col.toNat 0) := by rw [hj]; simp [hjl]
  obtain ⟨ga, oa, rfl, ca⟩ := hi j _ hjv
  have hga : ga ≠ g := hg _ rfl
  generalize cols.getD e.col.toNat 0 = t at *
  obtain ⟨c, f⟩ := hb.rules
  obtain ⟨c0, c1, c2, c3, c4, c5⟩ := hx
  have hm : m + 1 ≤ 200 := by simp at d1; omega
  have kn : kidsN 2 = 0 := rfl
  rw [hk] at c0
  rw [hn] at c5
  rw [hj] at c4
  have d3 : decide ((j : Int) < 0) = false := by simp
  have d4 : decide ((cols.length : Int) ≤ (j : Int)) = false := by simp; omega
  clear hk hn hj hjv hlt hcol hi hg
  go_enter Try.func67, Try.ntmps67
  go_wp2_with ((go_at_call 85; ((with_reducible refine (kids_any _ _).mono ?_); rintro e w' ⟨rfl, rfl⟩)))
  refine wp_loop_rounds 1 ?_
  rw [rounds_succ]
  go_wp2
  go_quiet (fail)
  go_wp2
  go_quiet (fail)
  go_wp2
  exact bodyPost_ret (by simp [results, Try.results67, go_sem]) rfl ⟨rfl, hb.set 1 _, (((GX.refl g w).set 1 _).drewN _).drewN _⟩
def typOf (k : Int) (r : Int × Int × List Int) : Int × Int × Int :=
  if r.1 ≠ 0 then (0, r.1, r.2.1)
  else if k = 16 then (2, 0, r.2.1)
  else ((kindE k r.2.2).1, (kindE k r.2.2).2, r.2.1)
theorem typE_kids (cols : List Int) (k : Int) (v : V) (c : Int) (A : Option Addr) (n cap : Nat) (kid : Nat → E) (deep m : Int) (h1 : ¬ (200 < m + 1 ∨ 20 < deep)) (h2 : 1 ≤ kidsN k) (h3 : (n : Int) = kidsN k) :
    typE cols (.mk k v c A n cap kid) deep m = typOf k (typKids (fun i m' => typE cols (kid i) (deep + 1) m') n 0 (m + 1) []) := by
  have hk1 : k ≠ 1 := by rintro rfl; have : kidsN 1 = 0 := rfl; omega
  have hk2 : k ≠ 2 := by rintro rfl; have : kidsN 2 = 0 := rfl; omega
  conv => lhs; unfold typE
  rw [if_neg h1, if_neg (by omega), if_neg (by omega)]
  simp only [if_neg hk1, if_neg hk2]
  rfl

theorem kidsN_le (k : Int) : kidsN k ≤ 3 := by
  unfold kidsN
  repeat' split
  all_goals omega
theorem typKids_ok {F : Nat → Int → Int × Int × Int} {n j : Nat} {m q1 q3 : Int} {ts : List Int} (hj : j < n) (h : F j m = (q1, 0, q3)) : typKids F (n - j) j m ts = typKids F (n - (j + 1)) (j + 1) q3 (ts ++ [q1]) := by
  rw [show n - j = (n - (j + 1)) + 1 by omega]
  conv => lhs; unfold typKids
  rw [h]; simp
theorem typKids_no {F : Nat → Int → Int × Int × Int} {n j : Nat} {m q1 q2 q3 : Int} {ts : List Int} (hj : j < n) (h : F j m = (q1, q2, q3)) (hne : q2 ≠ 0) : typKids F (n - j) j m ts = (q2, q3, ts) := by
  rw [show n - j = (n - (j + 1)) + 1 by omega]
  conv => lhs; unfold typKids
  rw [h]; simp [hne]
theorem own_ne {w : World} {B g : Nat} {t : Value} {ts : List Value} {e : TypeId} {n : Nat} (h : w.ownsRow B e 1 t n ts) (hg : g < B) : t.ownBlock = none ∨ t.ownBlock ≠ some g := by
  right
  intro he
  have := (h.lt g he).1
  omega

theorem info_int : (Try.prog.info? 3).map (fun i => (i.zero, i.size, i.bytes)) = some (some (.int .i64 0), 1, 8) := by kernel_rfl
theorem info_int' : ∃ i, Try.prog.info? 3 = some i ∧ i.zero = some (.int .i64 0) ∧ i.size = 1 ∧ i.bytes = 8 := by
  have h := info_int
  cases hi : Try.prog.info? 3 with
  | none => rw [hi] at h; simp at h
  | some i => rw [hi] at h; simp at h; exact ⟨i, rfl, h.1, h.2.1, h.2.2⟩

abbrev Owns (w : World) (B : Nat) (t : Value) (ts : List Int) : Prop := w.ownsRow B 3 1 t ts.length (ts.map (Value.int .i64))

theorem kind_own (k : Int) (t : Value) (ts : List Int) (B : Nat) (w : World) (h : Owns w B t ts) (hl : (ts.length : Int) = kidsN k) (h1 : 1 ≤ kidsN k) (h16 : k ≠ 16) :
    Calls Try.prog 86 #[.int .i64 k, t] w fun e w' => e = .returned (.tuple #[.int .i64 (kindE k ts).1, .int .i64 (kindE k ts).2]) ∧ Grow w w' := by
  obtain ⟨_, h⟩ := h
  rcases h with ⟨_, h0⟩ | ⟨g, cap, cur, rfl, hB, hg, hle, hmx, hcs, htk⟩
  · omega
  · have cell : ∀ (i : Nat) (x : Int), ts[i]? = some x → w.cell? ⟨g, i, none⟩ = some (.int .i64 x) := fun i x hx => by
      have hi : i < ts.length := (List.getElem?_eq_some_iff.1 hx).1
      have hb : Blk w g 3 cur := hg
      rw [hb.cell i]
      have e : (ts.map (Value.int .i64))[i]? = some (.int .i64 x) := by simp [hx]
      rw [← htk, List.getElem?_take] at e
      simpa [hi] using e
    have hk : k ≤ 5 ∨ (6 ≤ k ∧ k ≤ 11 ∨ k = 18) ∨ (12 ≤ k ∧ k ≤ 15) ∨ k = 17 := by
      unfold kidsN at h1
      repeat' split at h1
      all_goals omega
    have hsl : ISl w (some ⟨g, 0, none⟩) ts := fun i x hx => ⟨g, 0, rfl, by rw [Nat.zero_add]; exact cell i x hx⟩
    have hlen : ts.length ≤ 9223372036854775807 := by have := kidsN_le k; omega
    rcases hk with hk | hk | hk | rfl
    · exact kind_all k ts _ _ w hlen hsl (.inl hk)
    · have h2 : kidsN k = 2 := by
        unfold kidsN
        repeat' split
        all_goals omega
      match ts, hl, cell with
      | [x, y], _, cell => exact kind_two k x y g 0 cap w (cell 0 x rfl) (cell 1 y rfl) hk
      | [], hl, _ => simp at hl; omega
      | [_], hl, _ => simp at hl; omega
      | _ :: _ :: _ :: _, hl, _ => simp at hl; omega
    · exact kind_all k ts _ _ w hlen hsl (.inr hk)
    · have h3 : kidsN 17 = 3 := rfl
      match ts, hl, cell, hle with
      | [x, y, z], _, cell, hle => exact kind_three x y z g 0 cap (by simp at hle; omega) w (cell 0 x rfl) (cell 1 y rfl) (cell 2 z rfl)
      | [], hl, _, _ => simp at hl; omega
      | [_], hl, _, _ => simp at hl; omega
      | [_, _], hl, _, _ => simp at hl; omega
      | _ :: _ :: _ :: _ :: _, hl, _, _ => simp at hl; omega

theorem typ_kids (cols : List Int) (Ac : Option Addr) (cc : Nat) (k : Int) (v : V) (c : Int) (A : Option Addr) (n cap : Nat) (kid : Nat → E) (ih : ∀ i, TypC cols Ac cc (kid i))
    (gx ox g : Nat) (deep m : Int) (w0 w : World) (hE : EX w0 (.mk k v c A n cap kid)) (hx : ECells w0 gx ox (.mk k v c A n cap kid)) (hcols : ISl w0 Ac cols) (hg0 : Grow w0 w) (hlt : w0.heap.size ≤ g)
    (hb : Blk w g 113 #[.slice Ac cols.length cc, .int .i64 m]) (h0 : 0 ≤ m) (d1 : decide (200 < m + 1) = false) (d2 : decide (20 < deep) = false) (hd0 : 1 ≤ deep) (hkn : 1 ≤ kidsN k) (hn : (n : Int) = kidsN k)
    (T ER M : Int) (hT : typOf k (typKids (fun i m' => typE cols (kid i) (deep + 1) m') n 0 (m + 1) []) = (T, ER, M)) :
  Calls Try.prog 67 #[.pointer (some ⟨g, 0, none⟩), .pointer (some ⟨gx, ox, none⟩), .int .i64 deep] w fun en w' =>
    en = .returned (.tuple #[.int .i64 T, .int .i64 ER]) ∧ Blk w' g 113 #[.slice Ac cols.length cc, .int .i64 M] ∧ GX g w w' := by
  have Hx := Lib.hid hx
  have Hb := Lib.hid hb
  have HT := Lib.hid hT
  have Hn := Lib.hid hn
  have d3 : decide (kidsN k < 0) = false := by simp; omega
  have d4 : ((n : Int) != kidsN k) = false := by simpa using hn
  obtain ⟨cb, fb⟩ := hb.rules
  have hgN : g < w.heap.size := hb.lt
  have hn3 : n ≤ 3 := by have := kidsN_le k; omega
  have hm : m + 1 ≤ 200 := by simp at d1; omega
  have hd : deep ≤ 20 := by simp at d2; omega
  have hne : gx ≠ g := by
    have h : gx < w0.heap.size := Grow.lt hx.c0
    omega
  have hxw := hx.grow hg0
  obtain ⟨c0, c1, c2, c3, c4, c5⟩ := hxw
  simp only [E.kind, E.v, E.col, E.A, E.n, E.cap] at c0 c1 c2 c3 c4 c5
  clear hT hn hx hb
  go_enter Try.func67, Try.ntmps67
  go_wp2_with ((go_at_call 85; ((with_reducible refine (kids_any _ _).mono ?_); rintro e w' ⟨rfl, rfl⟩)))
  go_loopw [9, 50] (fun t i wr => ∃ (j : Nat) (m' : Int) (ts : List Int), j ≤ n ∧ i = .int .i64 j ∧ Owns wr w.heap.size t ts ∧ Blk wr g 113 #[.slice Ac cols.length cc, .int .i64 m'] ∧ GX g w wr ∧ 0 ≤ m' ∧ m' ≤ 200 ∧ ts.length = j ∧
      typKids (fun i m' => typE cols (kid i) (deep + 1) m') (n - j) j m' ts = typKids (fun i m' => typE cols (kid i) (deep + 1) m') n 0 (m + 1) []) (fun _ i _ => n - (intOf i).toNat)
  case atStart => exact ⟨0, m + 1, [], Nat.zero_le _, rfl, World.ownsRow_nil _ _ _ _, Hb.out.set 1 _, (GX.refl g w).set 1 _, by omega, by omega, rfl, rfl⟩
  case round =>
    obtain ⟨j, m', ts, hj, rfl, hown, hbr, hgx, hm0, hm1, htl, hR⟩ := hrel
    have hgw := GX.base hg0 hlt hgx
    have Own := Lib.hid hown
    have HR := Lib.hid hR
    have hbs := Lib.hid hbr
    obtain ⟨c0, c1, c2, c3, c4, c5⟩ := Hx.out.grow hgw
    simp only [E.kind, E.v, E.col, E.A, E.n, E.cap] at c0 c1 c2 c3 c4 c5
    clear hown hR hbr
    have Ti := Lib.hid info_int'
    by_cases hlt : j < n
    · obtain ⟨gk, ok, hA, hck, hEk⟩ : ∃ gk ok, A = some ⟨gk, ok, none⟩ ∧ ECells w0 gk (ok + j * 6) (kid j) ∧ EX w0 (kid j) := by
        cases hE with
        | mk hn' hc hk hv hi =>
          obtain ⟨gk, ok, h1, h2⟩ := hc j hlt
          exact ⟨gk, ok, h1, h2, hk j hlt⟩
      subst hA
      obtain ⟨q1, q2, q3, hq⟩ : ∃ q1 q2 q3, typE cols (kid j) (deep + 1) m' = (q1, q2, q3) := ⟨_, _, _, rfl⟩
      have hbd := typE_bd cols (kid j) (deep + 1) m' hm1
      have ihj := ih j gk (ok + j * 6) g (deep + 1) m' w0 wr hEk hck hcols hgw (by assumption) hbs.out hm0 hm1 (by omega) (by omega)
      rw [hq] at hbd ihj
      simp only at hbd ihj
      have Hq := Lib.hid hq
      clear hq hck hEk
      by_cases h2 : q2 = 0
      · subst h2
        obtain ⟨ti, hi, hz0, hz1, hz2⟩ := Ti.out
        go_wp2_with (first
          | (at_builtin; refine wpList_append_own _ rfl _ _ 22 rfl w.heap.size 3 ti (.int .i64 0) 1 8 Try.underlying22 hi hz0 hz1 hz2 rfl (by decide) _ _ _ rfl (Own2.out.alloc _) ⟨w2.heap.size, 0, none⟩ 1 1 [.int .i64 q1] rfl rfl ?c1 ?c2 ?c3 ?c4 ?c5 ?_)
          | (go_at_call 67; ((with_reducible refine ihj.mono ?_); rintro e w2 ⟨rfl, hb2, hg2⟩; have Own2 := Lib.hid (Own.out.kept hg2 (own_ne Own.out hgN)))))
        case c1 =>
          intro j u hj
          match j, hj with
          | 0, hj => simp at hj; subst hj; simp [Addr.add]
        case c2 => intro u hu; simp at hu; subst hu; rfl
        case c3 => unfold maxLen; omega
        case c4 => omega
        case c5 => have := hgx.size; have := hg2.size; simp; omega
        · intro v' w3 hown' hgrow _
          have Fin := Lib.hid (typKids_ok (F := fun i m' => typE cols (kid i) (deep + 1) m') (ts := ts) hlt Hq.out)
          have hb3 : Blk w3 g 113 #[.slice Ac cols.length cc, .int .i64 q3] := by
            have h1 := hb2.al (.cells #[.int .i64 q1] 3)
            have h2 := h1.lt
            unfold Blk at h1 ⊢
            rw [hgrow.block g h2 (fun e => by rcases own_ne Own.out hgN with h | h <;> rw [← e] at h <;> simp at h)]
            exact h1
          have hg3 : GX g w w3 := GX.own ((hgx.trans hg2).al _) hgrow (fun i hi => (Own.out.lt i hi).1)
          clear hgrow hb2 hg2 ihj
          go_wp2
          go_roundw
          case rel => exact ⟨j + 1, q3, ts ++ [q1], by omega, by go_num, by unfold Owns; simpa [htl] using hown', hb3, hg3, by have := hbd.1; omega, by simpa using hbd.2.2, by simp [htl], by rw [← Fin.out]; exact HR.out⟩
          case measure => simp [intOf]; omega
      · have dq : (q2 != 0) = true := by simpa using h2
        have fin : typOf k (typKids (fun i m' => typE cols (kid i) (deep + 1) m') n 0 (m + 1) []) = (0, q2, q3) := by
          rw [← HR.out, typKids_no (F := fun i m' => typE cols (kid i) (deep + 1) m') hlt Hq.out h2]
          simp [typOf, h2]
        obtain ⟨rfl, rfl, rfl⟩ : T = 0 ∧ ER = q2 ∧ M = q3 := by simpa using HT.out.symm.trans fin
        clear fin h2
        go_wp2_with (go_at_call 67; ((with_reducible refine ihj.mono ?_); rintro e w2 ⟨rfl, hb2, hg2⟩))
        exact bodyPost_ret (by simp [results, Try.results67, go_sem]) rfl ⟨rfl, hb2, hgx.trans hg2⟩
    · obtain rfl : j = n := by omega
      have dk1 : (k == 1) = false := by simp; rintro rfl; have : kidsN 1 = 0 := rfl; omega
      have dk2 : (k == 2) = false := by simp; rintro rfl; have : kidsN 2 = 0 := rfl; omega
      have fin : typOf k (0, m', ts) = (T, ER, M) := by
        rw [← HT.out, ← HR.out, Nat.sub_self]; rfl
      by_cases h16 : k = 16
      · subst h16
        obtain ⟨rfl, rfl, rfl⟩ : T = 2 ∧ ER = 0 ∧ M = m' := by
          have : typOf 16 (0, m', ts) = (2, 0, m') := by simp [typOf]
          simpa using fin.symm.trans this
        clear fin
        go_wp2
        exact bodyPost_ret (by simp [results, Try.results67, go_sem]) rfl ⟨rfl, hbs.out, hgx⟩
      · have dk3 : (k == 16) = false := by simpa using h16
        obtain ⟨rfl, rfl, rfl⟩ : T = (kindE k ts).1 ∧ ER = (kindE k ts).2 ∧ M = m' := by
          have : typOf k (0, m', ts) = ((kindE k ts).1, (kindE k ts).2, m') := by simp [typOf, h16]
          simpa using fin.symm.trans this
        have ck := kind_own k _ ts _ wr Own.out (by rw [htl]; exact Hn.out) hkn h16
        clear fin h16
        go_wp2_with (go_at_call 86; ((with_reducible refine ck.mono ?_); rintro e w2 ⟨rfl, hg2⟩))
        exact bodyPost_ret (by simp [results, Try.results67, go_sem]) rfl ⟨rfl, hbs.out.grow hg2, hgx.grow hg2⟩
theorem kids_zero {k : Int} (h : kidsN k = 0) : k = 1 ∨ k = 2 := by
  unfold kidsN at h
  repeat' split at h
  all_goals omega

theorem typ_any (cols : List Int) (Ac : Option Addr) (cc : Nat) (hlen : cols.length ≤ 9223372036854775807) (e : E) : TypC cols Ac cc e := by
  induction e with
  | leaf =>
    intro gx ox g deep m w0 w hE hx hcols hg0 hlt hb h0 h1 hd0 hd1
    have hne : gx ≠ g := by
      have h : gx < w0.heap.size := Grow.lt hx.c0
      omega
    unfold typE
    by_cases hm : 200 < m + 1 ∨ 20 < deep
    · rw [if_pos hm]; exact typ_much cols Ac cc gx ox g deep m w hb h0 h1 hm
    · rw [if_neg hm]
      exact typ_form cols Ac cc .leaf gx ox g deep m w hb hne (hx.grow hg0) (Nat.zero_le _) h0 (by simp; omega) (by simp; omega) (.inl (by decide))
  | mk k v c A n cap kid ih =>
    intro gx ox g deep m w0 w hE hx hcols hg0 hlt hb h0 h1 hd0 hd1
    have hne : gx ≠ g := by
      have h : gx < w0.heap.size := Grow.lt hx.c0
      omega
    have hn : n ≤ maxLen := by cases hE with | mk hn => exact hn
    by_cases hm : 200 < m + 1 ∨ 20 < deep
    · unfold typE
      rw [if_pos hm]; exact typ_much cols Ac cc gx ox g deep m w hb h0 h1 hm
    · have d1 : decide (200 < m + 1) = false := by simp; omega
      have d2 : decide (20 < deep) = false := by simp; omega
      have hxw := hx.grow hg0
      by_cases hf : kidsN k < 0 ∨ ¬ kidsN k < 0 ∧ (n : Int) ≠ kidsN k
      · have e : typE cols (.mk k v c A n cap kid) deep m = (0, if kidsN k < 0 then 1 else 5, m + 1) := by
          unfold typE
          rw [if_neg hm]
          rcases hf with hf | ⟨hf, hf2⟩
          · rw [if_pos hf, if_pos hf]
          · rw [if_neg hf, if_pos hf2, if_neg hf]
        rw [e]
        exact typ_form cols Ac cc (.mk k v c A n cap kid) gx ox g deep m w hb hne hxw hn h0 d1 d2 hf
      · have hk0 : ¬ kidsN k < 0 := fun h => hf (.inl h)
        have hnk : (n : Int) = kidsN k := Classical.byContradiction fun h => hf (.inr ⟨hk0, h⟩)
        by_cases hz : kidsN k = 0
        · have hn0 : n = 0 := by omega
          subst hn0
          rcases kids_zero hz with rfl | rfl
          · have e : typE cols (.mk 1 v c A 0 cap kid) deep m = (v.k, wrongV v, m + 1) := by
              unfold typE
              rw [if_neg hm, if_neg hk0, if_neg (by omega)]
              simp [typKids]
            rw [e]
            exact typ_lit cols Ac cc (.mk 1 v c A 0 cap kid) gx ox g deep m w hb hne hxw h0 d1 d2 rfl rfl
          · by_cases hc : c < 0 ∨ (cols.length : Int) ≤ c
            · have e : typE cols (.mk 2 v c A 0 cap kid) deep m = (0, 7, m + 1) := by
                unfold typE
                rw [if_neg hm, if_neg hk0, if_neg (by omega)]
                simp [typKids, hc]
              rw [e]
              exact typ_name cols Ac cc (.mk 2 v c A 0 cap kid) gx ox g deep m w hb hne hxw h0 d1 d2 rfl rfl hc
            · have e : typE cols (.mk 2 v c A 0 cap kid) deep m = (cols.getD c.toNat 0, 0, m + 1) := by
                unfold typE
                rw [if_neg hm, if_neg hk0, if_neg (by omega)]
                simp only [typKids]
                rw [if_neg (by simp), if_neg (by decide), if_pos trivial, if_neg hc]
              rw [e]
              refine typ_col cols Ac cc (.mk 2 v c A 0 cap kid) gx ox g deep m w hb hne hxw h0 d1 d2 rfl rfl ?_ ?_ hlen (hcols.grow hg0) (fun a ha => ?_)
              · show 0 ≤ c; omega
              · show c < (cols.length : Int); omega
              · have hl : 0 < cols.length := by omega
                obtain ⟨ga, oa, h1, h2⟩ := hcols 0 (cols[0]) (by simp [hl])
                rw [h1] at ha
                cases ha
                have : ga < w0.heap.size := Grow.lt h2
                simp only
                omega
        · rw [typE_kids cols k v c A n cap kid deep m hm (by omega) hnk]
          obtain ⟨T, ER, M, hT⟩ : ∃ T ER M, typOf k (typKids (fun i m' => typE cols (kid i) (deep + 1) m') n 0 (m + 1) []) = (T, ER, M) := ⟨_, _, _, rfl⟩
          rw [hT]
          exact typ_kids cols Ac cc k v c A n cap kid ih gx ox g deep m w0 w hE hx hcols hg0 hlt hb h0 d1 d2 hd0 (by omega) hnk T ER M hT
def colB (t : Int) : Bool := decide (1 ≤ t) && decide (t ≤ 4)
def typeE (cols : List Int) (e : E) : Int × Int :=
  if 16 < cols.length then (0, 5)
  else if cols.all colB = false then (0, 1)
  else if (typE cols e 1 0).2.1 ≠ 0 then (0, (typE cols e 1 0).2.1)
  else ((typE cols e 1 0).1, 0)

theorem colB_no {t : Int} (h : colB t = false) : decide (t < 1) = true ∨ decide (t < 1) = false ∧ decide (4 < t) = true := by
  simp [colB] at h
  simp only [decide_eq_true_eq, decide_eq_false_iff_not]; omega
theorem colB_ok {t : Int} (h : colB t = true) : decide (t < 1) = false ∧ decide (4 < t) = false := by
  simp [colB] at h
  simp only [decide_eq_false_iff_not]; omega

theorem type_any (cols : List Int) (Ac : Option Addr) (cc : Nat) (e : E) (w : World) (hlen : cols.length ≤ 9223372036854775807) (hcols : ISl w Ac cols) (hE : EX w e) :
    Calls Try.prog 39 #[.slice Ac cols.length cc, e.val] w fun en w' => en = .returned (.tuple #[.int .i64 (typeE cols e).1, .int .i64 (typeE cols e).2]) ∧ Grow w w' := by
  have HE := Lib.hid hE
  have Hcols := Lib.hid hcols
  clear hE hcols
  by_cases h16 : 16 < cols.length
  · have e1 : typeE cols e = (0, 5) := by simp [typeE, h16]
    rw [e1]; clear e1
    have d1 : decide (16 < (cols.length : Int)) = true := by simp; omega
    clear h16
    unfold E.val
    go_enter Try.func39, Try.ntmps39
    go_wp2
    exact bodyPost_ret (by simp [results, Try.results39, go_sem]) rfl ⟨rfl, growW⟩
  · have d1 : decide (16 < (cols.length : Int)) = false := by simp; omega
    obtain ⟨T, ER, hT⟩ : ∃ T ER, typeE cols e = (T, ER) := ⟨_, _, rfl⟩
    rw [hT]
    have HT := Lib.hid hT
    have H16 := Lib.hid h16
    clear hT h16
    unfold E.val
    go_enter Try.func39, Try.ntmps39
    go_wp2
    refine wp_forget (fun W => Blk W w.heap.size 32 #[.int .i64 e.kind, .int .i64 e.v.k, .int .i64 e.v.n, .string e.v.s, .int .i64 e.col, .slice e.A e.n e.cap] ∧ Grow w W) ⟨Blk.new _ _ _, growW⟩ ?_
    rintro W ⟨B, G⟩
    go_loopw [15] (fun i wr => ∃ k : Nat, k ≤ cols.length ∧ i = .int .i64 k ∧ (cols.take k).all colB = true ∧ wr = W) (fun i _ => cols.length - (intOf i).toNat)
    case atStart => exact ⟨0, Nat.zero_le _, rfl, rfl, rfl⟩
    case round =>
      obtain ⟨k, hk, rfl, hall, rfl⟩ := hrel
      have Hall := Lib.hid hall
      clear hall
      by_cases hlt : k < cols.length
      · obtain ⟨x, hxk⟩ : ∃ x, cols[k]? = some x := ⟨_, List.getElem?_eq_getElem hlt⟩
        obtain ⟨g, o, rfl, c1⟩ := (Hcols.out.grow G) k x hxk
        have Hxk := Lib.hid hxk
        clear hxk
        cases hr : colB x
        · have fin : typeE cols e = (0, 1) := by
            have := all_fails colB cols k x Hxk.out hr
            unfold typeE
            rw [if_neg H16.out, if_pos this]
          obtain ⟨rfl, rfl⟩ : T = 0 ∧ ER = 1 := by simpa using HT.out.symm.trans fin
          clear fin
          rcases colB_no hr with d2 | ⟨d2, d3⟩
          · go_wp2
            exact bodyPost_ret (by simp [results, Try.results39, go_sem]) rfl ⟨rfl, growW⟩
          · go_wp2
            exact bodyPost_ret (by simp [results, Try.results39, go_sem]) rfl ⟨rfl, growW⟩
        · have Hr := Lib.hid (all_take colB cols k x Hxk.out Hall.out hr)
          obtain ⟨d2, d3⟩ := colB_ok hr
          go_wp2
          go_roundw
          case rel => exact ⟨k + 1, by omega, by go_num, Hr.out, trivial⟩
          case measure => simp [intOf]; omega
      · have hall : cols.all colB = true := by
          have := Hall.out
          rwa [List.take_of_length_le (by omega)] at this
        obtain ⟨q1, q2, q3, hq⟩ : ∃ q1 q2 q3, typE cols e 1 0 = (q1, q2, q3) := ⟨_, _, _, rfl⟩
        have hxe : ECells wr w.heap.size 0 e := ⟨B.cells rfl, B.cells rfl, B.cells rfl, B.cells rfl, B.cells rfl, B.cells rfl⟩
        have ct := fun W' (h1 : Grow wr W') hb => typ_any cols Ac cc hlen e w.heap.size 0 wr.heap.size 1 0 wr W' (HE.out.grow G) hxe (Hcols.out.grow G) h1 (Nat.le_refl _) hb (by omega) (by omega) (by omega) (by omega)
        rw [hq] at ct
        simp only at ct
        have Gs := G.size
        by_cases h2 : q2 = 0
        · have fin : typeE cols e = (q1, 0) := by
            unfold typeE
            rw [if_neg H16.out, if_neg (by simp [hall]), hq, if_neg (by simp [h2])]
          obtain ⟨rfl, rfl⟩ : T = q1 ∧ ER = 0 := by simpa using HT.out.symm.trans fin
          subst h2
          clear fin hq hall hxe
          go_wp2_with (go_at_call 67; ((with_reducible refine (ct _ ((Grow.refl _).al _) (Blk.new _ _ _)).mono ?_); rintro en w2 ⟨rfl, hb2, hg2⟩))
          exact bodyPost_ret (by simp [results, Try.results39, go_sem]) rfl ⟨rfl, GX.base (G.al _) Gs hg2⟩
        · have fin : typeE cols e = (0, q2) := by
            unfold typeE
            rw [if_neg H16.out, if_neg (by simp [hall]), hq, if_pos (by simp [h2])]
          have dq : (q2 != 0) = true := by simpa using h2
          obtain ⟨rfl, rfl⟩ : T = 0 ∧ ER = q2 := by simpa using HT.out.symm.trans fin
          clear fin hq hall hxe h2
          go_wp2_with (go_at_call 67; ((with_reducible refine (ct _ ((Grow.refl _).al _) (Blk.new _ _ _)).mono ?_); rintro en w2 ⟨rfl, hb2, hg2⟩))
          exact bodyPost_ret (by simp [results, Try.results39, go_sem]) rfl ⟨rfl, GX.base (G.al _) Gs hg2⟩
def Ty (t : Int) : Prop := 1 ≤ t ∧ t ≤ 4
theorem Ty.cases {t : Int} (h : Ty t) : t = 1 ∨ t = 2 ∨ t = 3 ∨ t = 4 := by unfold Ty at h; omega
end Go.Proofs.Ytamfpppbjaelaaa
