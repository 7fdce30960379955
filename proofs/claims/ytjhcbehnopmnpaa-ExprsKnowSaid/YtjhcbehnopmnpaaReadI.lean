/-
  How slices of ints are read out of memory.
-/
import Derived.Test.YtjhcbehnopmnpaaRead
import Derived.Test.YtjhcbehnopmnpaaEx2
namespace Go.Proofs.Ytjhcbehnopmnpaa
open Go.ChangeShapes Go.WideShapes Go.ChangeAt Go.RowKit Go.Calm
set_option maxRecDepth 100000
set_option linter.unusedVariables false
set_option linter.unusedSimpArgs false
section
variable {H : Type} {enc : TypeId × Value → H} {w : World} {base : Nat} {spare : Nat → Bool} {held : Bool}
theorem ints_cells {fuel : Nat} {cs : List Value} {x : DataW H × List MemPlace} (h : DataW.trod enc Try.prog w base spare held fuel 44 cs = some x) :
    ∃ (A : Option Addr) (xs : List Int) (cap : Nat), cs = [.slice A xs.length cap] ∧ ISl w A xs ∧ xs.length ≤ maxLen ∧ xs.length ≤ cap ∧ ∀ v ∈ xs, inI64 v := by
  obtain ⟨A, len, cap, n, D, hcs, hl, hcap, hi⟩ := slice_cells (c := 1) Try.underlying44 (by kernel_rfl) (by omega) h
  have pick : ∀ i, i < len → ∃ v : Int, inI64 v ∧ ∃ g o, A = some ⟨g, o, none⟩ ∧ w.cell? ⟨g, o + i, none⟩ = some (.int .i64 v) := fun i hlt => by
    obtain ⟨g, o, ys, hA, hyl, hat, hd⟩ := hi i hlt
    obtain ⟨v, hv, _, wv⟩ := DataW.trod_int Try.underlying3 hd
    subst hv
    exact ⟨v, wf_i64 wv, g, o, hA, by simpa using hat 0 _ rfl⟩
  have build : ∀ m, m ≤ len → ∃ xs : List Int, xs.length = m ∧ (∀ v ∈ xs, inI64 v) ∧ ISl w A xs := by
    intro m
    induction m with
    | zero => exact fun _ => ⟨[], rfl, by simp, fun i x hx => by simp at hx⟩
    | succ m ih =>
      intro hm
      obtain ⟨xs, hxl, hxb, hxs⟩ := ih (by omega)
      obtain ⟨v, hb, g, o, hA, hc⟩ := pick m (by omega)
      refine ⟨xs ++ [v], by simp [hxl], fun u hu => ?_, fun i x hx => ?_⟩
      · rcases List.mem_append.1 hu with h' | h'
        · exact hxb u h'
        · simp at h'; subst h'; exact hb
      · rcases Nat.lt_or_ge i xs.length with h' | h'
        · rw [List.getElem?_append_left h'] at hx
          exact hxs i x hx
        · rw [List.getElem?_append_right h'] at hx
          have : i - xs.length = 0 := by
            rcases Nat.eq_zero_or_pos (i - xs.length) with h0 | h0
            · exact h0
            · rw [List.getElem?_eq_none (by simp; omega)] at hx; cases hx
          rw [this] at hx
          simp at hx
          subst hx
          have hi' : i = m := by omega
          subst hi'
          exact ⟨g, o, hA, hc⟩
  obtain ⟨xs, hxl, hxb, hxs⟩ := build len (Nat.le_refl _)
  exact ⟨A, xs, cap, by rw [hcs, hxl], hxs, by omega, by omega, hxb⟩
theorem ints_read {r : Reach} {b0 : Nat} {v : Value} {d : DataW H} {p : List MemPlace} (hv : Value.okWide Try.prog w r b0 44 v) (h : DataW.Trod enc Try.prog w base spare held 44 v d p) :
    ∃ (A : Option Addr) (xs : List Int) (cap : Nat), v = .slice A xs.length cap ∧ ISl w A xs ∧ xs.length ≤ maxLen ∧ xs.length ≤ cap ∧ ∀ v ∈ xs, inI64 v := by
  obtain ⟨a, len, cap, rfl⟩ := okWide_slice Try.underlying44 hv
  obtain ⟨fuel, hf⟩ := h
  obtain ⟨A, xs, c, hcs, h1, h2, h3, h4⟩ := ints_cells hf
  simp [Value.cells] at hcs
  obtain ⟨rfl, rfl, rfl⟩ := hcs
  exact ⟨_, xs, _, rfl, h1, h2, h3, h4⟩
end
end Go.Proofs.Ytjhcbehnopmnpaa
