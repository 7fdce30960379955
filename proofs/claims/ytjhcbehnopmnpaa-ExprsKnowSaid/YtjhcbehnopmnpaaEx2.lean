/-
  Slices of int; exprs.all.
-/
import Derived.Test.YtjhcbehnopmnpaaSl
import Derived.Test.YtjhcbehnopmnpaaEx1
namespace Go.Proofs.Ytjhcbehnopmnpaa
open Go.RowKit Go.Calm
set_option linter.unusedSimpArgs false
set_option linter.unusedVariables false

def ISl (w : World) (A : Option Addr) (xs : List Int) : Prop := ∀ i x, xs[i]? = some x → ∃ g o, A = some ⟨g, o, none⟩ ∧ w.cell? ⟨g, o + i, none⟩ = some (.int .i64 x)
theorem ISl.grow {w w' : World} {A : Option Addr} {xs : List Int} (h : ISl w A xs) (hg : Grow w w') : ISl w' A xs := fun i x hx => by
  obtain ⟨g, o, h1, h2⟩ := h i x hx
  exact ⟨g, o, h1, hg.cell h2⟩

theorem all_take {α : Type} (p : α → Bool) (xs : List α) (k : Nat) (x : α) (hx : xs[k]? = some x) (h : (xs.take k).all p = true) (hp : p x = true) : (xs.take (k + 1)).all p = true := by
  rw [List.take_add_one, hx]
  simp [List.all_append, h, hp]
theorem all_fails {α : Type} (p : α → Bool) (xs : List α) (k : Nat) (x : α) (hx : xs[k]? = some x) (hp : p x = false) : xs.all p = false := by
  rw [List.all_eq_false]
  exact ⟨x, List.mem_of_getElem? hx, by simp [hp]⟩

set_option maxHeartbeats 400000 in
theorem alls_any (xs : List Int) (want : Int) (A : Option Addr) (c : Nat) (w : World) (hlen : xs.length ≤ 9223372036854775807) (hx : ISl w A xs) :
    Calls Try.prog 155 #[.slice A xs.length c, .int .i64 want] w fun e w' => e = .returned (.bool (xs.all (oneB · want))) ∧ w = w' := by
  have Hx := Lib.hid hx
  clear hx
  go_enter Try.func155, Try.ntmps155
  go_wp2
  go_loopw [11] (fun i wr => ∃ k : Nat, k ≤ xs.length ∧ i = .int .i64 k ∧ (xs.take k).all (oneB · want) = true ∧ wr = w) (fun i _ => xs.length - (intOf i).toNat)
  case atStart => exact ⟨0, Nat.zero_le _, rfl, rfl, rfl⟩
  case round =>
    obtain ⟨k, hk, rfl, hall, rfl⟩ := hrel
    have Hall := Lib.hid hall
    clear hall
    by_cases hlt : k < xs.length
    · obtain ⟨x, hxk⟩ : ∃ x, xs[k]? = some x := ⟨_, List.getElem?_eq_getElem hlt⟩
      obtain ⟨g, o, rfl, c1⟩ := Hx.out k x hxk
      have Hxk := Lib.hid hxk
      clear hxk
      cases hr : oneB x want
      · have Fin := Lib.hid (all_fails (oneB · want) xs k x Hxk.out hr)
        go_wp2_with ((go_at_call 156; ((with_reducible refine (one_any _ _ _).mono ?_); rintro e w' ⟨rfl, rfl⟩)))
        go_ret
        exact ret_bool Fin.out.symm rfl
      · have Hr := Lib.hid (all_take (oneB · want) xs k x Hxk.out Hall.out hr)
        go_wp2_with ((go_at_call 156; ((with_reducible refine (one_any _ _ _).mono ?_); rintro e w' ⟨rfl, rfl⟩)))
        go_roundw
        case rel => exact ⟨k + 1, by omega, by go_num, Hr.out, trivial⟩
        case measure => simp [intOf]; omega
    · have fin : xs.all (oneB · want) = true := by
        have := Hall.out
        rwa [List.take_of_length_le (by omega)] at this
      have Fin := Lib.hid fin
      clear fin
      go_wp2
      go_ret
      exact ret_bool Fin.out.symm rfl
end Go.Proofs.Ytjhcbehnopmnpaa
