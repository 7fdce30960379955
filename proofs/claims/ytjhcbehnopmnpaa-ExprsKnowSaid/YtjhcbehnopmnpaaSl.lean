/-
  Slices of values, as lists; tidelaw1.right; the rows' orders.
-/
import Derived.Test.YtjhcbehnopmnpaaVals3
import Derived.Lib.Hide
namespace Go.Proofs.Ytjhcbehnopmnpaa
open Go.RowKit Go.Calm
set_option linter.unusedSimpArgs false
set_option linter.unusedVariables false

def VCells (w : World) (g o : Nat) (v : V) : Prop := w.cell? ⟨g, o, none⟩ = some (.int .i64 v.k) ∧ w.cell? ⟨g, o + 1, none⟩ = some (.int .i64 v.n) ∧ w.cell? ⟨g, o + 2, none⟩ = some (.string v.s)
def VSl (w : World) (A : Option Addr) (xs : List V) : Prop := ∀ i x, xs[i]? = some x → ∃ g o, A = some ⟨g, o, none⟩ ∧ VCells w g (o + i * 3) x
theorem VCells.grow {w w' : World} {g o : Nat} {v : V} (h : VCells w g o v) (hg : Grow w w') : VCells w' g o v := ⟨hg.cell h.1, hg.cell h.2.1, hg.cell h.2.2⟩
theorem VSl.grow {w w' : World} {A : Option Addr} {xs : List V} (h : VSl w A xs) (hg : Grow w w') : VSl w' A xs := fun i x hx => by
  obtain ⟨g, o, hA, hc⟩ := h i x hx
  exact ⟨g, o, hA, hc.grow hg⟩
def rightB (v : V) : Bool := wrongV v == 0

theorem take_all {α : Type} (p : α → Bool) (xs : List α) (k : Nat) (x : α) (h : xs[k]? = some x) (hk : (xs.take k).all p = true) (hx : p x = true) : (xs.take (k + 1)).all p = true := by
  have hlt : k < xs.length := (List.getElem?_eq_some_iff.1 h).1
  have e : xs[k] = x := (List.getElem?_eq_some_iff.1 h).2
  rw [List.take_succ_eq_append_getElem hlt, e, List.all_append, hk]
  simp [hx]
theorem not_all {α : Type} (p : α → Bool) (xs : List α) (k : Nat) (x : α) (h : xs[k]? = some x) (hx : p x = false) : xs.all p = false := by
  rw [List.all_eq_false]
  exact ⟨x, List.mem_of_getElem? h, by simp [hx]⟩

set_option maxHeartbeats 400000 in
theorem right_any (xs : List V) (A : Option Addr) (c : Nat) (w : World) (hlen : xs.length ≤ 9223372036854775807) (hx : VSl w A xs) :
    Calls Try.prog 25 #[.slice A xs.length c] w fun e w' => e = .returned (.bool (xs.all rightB)) ∧ Grow w w' := by
  have Hx := Lib.hid hx
  clear hx
  go_enter Try.func25, Try.ntmps25
  go_wp2
  go_loopw [7] (fun i wr => ∃ k : Nat, k ≤ xs.length ∧ i = .int .i64 k ∧ (xs.take k).all rightB = true ∧ Grow w wr) (fun i _ => xs.length - (intOf i).toNat)
  case atStart => exact ⟨0, Nat.zero_le _, rfl, rfl, Grow.refl _⟩
  case round =>
    obtain ⟨k, hk, rfl, hall, hg⟩ := hrel
    have Hall := Lib.hid hall
    clear hall
    by_cases hlt : k < xs.length
    · obtain ⟨x, hxk⟩ : ∃ x, xs[k]? = some x := ⟨_, List.getElem?_eq_getElem hlt⟩
      obtain ⟨g, o, rfl, hc1, hc2, hc3⟩ := Hx.out k x hxk
      have c1 := hg.cell hc1
      have c2 := hg.cell hc2
      have c3 := hg.cell hc3
      have Hxk := Lib.hid hxk
      clear hc1 hc2 hc3 hxk
      cases hr : rightB x
      · have hw : (wrongV x != 0) = true := by simpa [rightB] using hr
        have Fin := Lib.hid (not_all rightB xs k x Hxk.out hr)
        clear hr
        go_wp2_with ((go_at_call 42; ((with_reducible refine (rwrong_any x _).mono ?_); rintro e w1' ⟨rfl, hg1⟩; obtain ⟨hc1, hf1, hz1⟩ := hg1.rules)))
        go_ret
        exact ret_bool Fin.out.symm ((hg.al _).trans hg1)
      · have hw : (wrongV x != 0) = false := by simpa [rightB] using hr
        have Hr := Lib.hid hr
        clear hr
        go_wp2_with ((go_at_call 42; ((with_reducible refine (rwrong_any x _).mono ?_); rintro e w1' ⟨rfl, hg1⟩; obtain ⟨hc1, hf1, hz1⟩ := hg1.rules)))
        go_roundw
        case rel => exact ⟨k + 1, by omega, by go_num, take_all _ _ _ _ Hxk.out Hall.out Hr.out, (hg.al _).trans hg1⟩
        case measure => simp [intOf]; omega
    · have fin : xs.all rightB = true := by
        have := Hall.out
        rwa [List.take_of_length_le (by omega)] at this
      have Fin := Lib.hid fin
      clear fin
      go_wp2
      go_ret
      exact ret_bool Fin.out.symm hg
end Go.Proofs.Ytjhcbehnopmnpaa
