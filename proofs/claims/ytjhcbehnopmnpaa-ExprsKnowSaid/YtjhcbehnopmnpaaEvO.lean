/-
  A row with another value in one place: in memory.
-/
import Derived.Test.YtjhcbehnopmnpaaEvV
import Derived.Test.YtjhcbehnopmnpaaEvU
namespace Go.Proofs.Ytjhcbehnopmnpaa
open Go.RowKit Go.Calm
set_option linter.unusedSimpArgs false
set_option linter.unusedVariables false

/-- a row's cells -/
def flatV : List V → List Value
  | [] => []
  | v :: vs => .int .i64 v.k :: .int .i64 v.n :: .string v.s :: flatV vs
theorem flatV_len : ∀ row : List V, (flatV row).length = row.length * 3
  | [] => rfl
  | v :: vs => by simp [flatV, flatV_len vs]; omega
theorem flatV_get : ∀ (row : List V) (i : Nat) (x : V), row[i]? = some x → (flatV row)[i * 3]? = some (.int .i64 x.k) ∧ (flatV row)[i * 3 + 1]? = some (.int .i64 x.n) ∧ (flatV row)[i * 3 + 2]? = some (.string x.s)
  | [], i, x, h => by simp at h
  | v :: vs, 0, x, h => by simp at h; subst h; simp [flatV]
  | v :: vs, i + 1, x, h => by
    have := flatV_get vs i x (by simpa using h)
    rw [show (i + 1) * 3 = i * 3 + 3 by omega]
    simpa [flatV] using this
theorem flatV_inv : ∀ (row : List V) (j : Nat) (u : Value), (flatV row)[j]? = some u → ∃ i x, row[i]? = some x ∧ (j = i * 3 ∧ u = .int .i64 x.k ∨ j = i * 3 + 1 ∧ u = .int .i64 x.n ∨ j = i * 3 + 2 ∧ u = .string x.s)
  | [], j, u, h => by simp [flatV] at h
  | v :: vs, 0, u, h => by simp [flatV] at h; exact ⟨0, v, rfl, .inl ⟨rfl, h.symm⟩⟩
  | v :: vs, 1, u, h => by simp [flatV] at h; exact ⟨0, v, rfl, .inr (.inl ⟨rfl, h.symm⟩)⟩
  | v :: vs, 2, u, h => by simp [flatV] at h; exact ⟨0, v, rfl, .inr (.inr ⟨rfl, h.symm⟩)⟩
  | v :: vs, j + 3, u, h => by
    obtain ⟨i, x, hx, hc⟩ := flatV_inv vs j u (by simpa [flatV] using h)
    refine ⟨i + 1, x, by simpa using hx, ?_⟩
    rcases hc with ⟨h1, h2⟩ | ⟨h1, h2⟩ | ⟨h1, h2⟩
    · exact .inl ⟨by omega, h2⟩
    · exact .inr (.inl ⟨by omega, h2⟩)
    · exact .inr (.inr ⟨by omega, h2⟩)
theorem flatV_cell {w : World} {g o : Nat} {row : List V} (h : VSl w (some ⟨g, o, none⟩) row) (j : Nat) (u : Value) (hu : (flatV row)[j]? = some u) : w.cell? ⟨g, o + j, none⟩ = some u := by
  obtain ⟨i, x, hx, hc⟩ := flatV_inv row j u hu
  obtain ⟨g', o', hA, c1, c2, c3⟩ := h i x hx
  cases hA
  rcases hc with ⟨rfl, rfl⟩ | ⟨rfl, rfl⟩ | ⟨rfl, rfl⟩
  · exact c1
  · rw [← Nat.add_assoc]; exact c2
  · rw [← Nat.add_assoc]; exact c3
theorem flatV_one (row : List V) : ∀ u ∈ flatV row, u.oneCell' = true := by
  induction row with
  | nil => intro u hu; simp [flatV] at hu
  | cons v vs ih =>
    intro u hu
    simp only [flatV, List.mem_cons] at hu
    rcases hu with rfl | rfl | rfl | hu
    · rfl
    · rfl
    · rfl
    · exact ih u hu
theorem info_val : (Try.prog.info? 29).map (fun i => (i.zero, i.size, i.bytes)) = some (some (.agg #[.int .i64 0, .int .i64 0, .string ⟨#[]⟩]), 3, 32) := by kernel_rfl
theorem info_val' : ∃ i, Try.prog.info? 29 = some i ∧ i.zero = some (.agg #[.int .i64 0, .int .i64 0, .string ⟨#[]⟩]) ∧ i.size = 3 ∧ i.bytes = 32 := by
  have h := info_val
  cases hi : Try.prog.info? 29 with
  | none => rw [hi] at h; simp at h
  | some i => rw [hi] at h; simp at h; exact ⟨i, rfl, h.1, h.2.1, h.2.2⟩
/-- a copy of one's own -/
structure OwnV (w : World) (base : Nat) (g cap : Nat) (row : List V) : Prop where
  ge : base ≤ g
  ex : ∃ cur, Blk w g 29 cur ∧ cur.toList.take (row.length * 3) = flatV row ∧ row.length ≤ cap
theorem own_v {w : World} {base : Nat} {t : Value} {row : List V} {n : Nat} (hn : n = row.length) (hne : row ≠ []) (h : w.ownsRow base 29 3 t n (flatV row)) : ∃ g cap, t = .slice (some ⟨g, 0, none⟩) row.length cap ∧ OwnV w base g cap row := by
  subst hn
  obtain ⟨_, h⟩ := h
  rcases h with ⟨_, h0⟩ | ⟨g, cap, cur, rfl, hB, hg, hle, hmx, hcs, htk⟩
  · exact absurd (List.length_eq_zero_iff.1 h0) hne
  · exact ⟨g, cap, rfl, hB, cur, hg, htk, hle⟩
theorem OwnV.at {w : World} {base g cap : Nat} {row : List V} (h : OwnV w base g cap row) {i : Nat} {x : V} (hx : row[i]? = some x) : w.cell? ⟨g, i * 3, none⟩ = some (.int .i64 x.k) ∧ w.cell? ⟨g, i * 3 + 1, none⟩ = some (.int .i64 x.n) ∧ w.cell? ⟨g, i * 3 + 2, none⟩ = some (.string x.s) := by
  obtain ⟨cur, hb, htk, _⟩ := h.ex
  have hi : i < row.length := (List.getElem?_eq_some_iff.1 hx).1
  obtain ⟨a, b, c⟩ := flatV_get row i x hx
  rw [← htk, List.getElem?_take] at a b c
  rw [hb.cell, hb.cell, hb.cell]
  rw [if_pos (by omega)] at a b c
  exact ⟨by simpa using a, by simpa using b, by simpa using c⟩
theorem OwnV.frozen {w : World} {base g cap : Nat} {row : List V} (h : OwnV w base g cap row) (i : Nat) : w.frozen? ⟨g, i, none⟩ = false := by
  obtain ⟨cur, hb, _, _⟩ := h.ex
  exact hb.frozen i
theorem OwnV.lt {w : World} {base g cap : Nat} {row : List V} (h : OwnV w base g cap row) : g < w.heap.size := by
  obtain ⟨cur, hb, _, _⟩ := h.ex
  exact hb.lt
/-- another value in one place -/
theorem OwnV.set {w : World} {base g cap : Nat} {row : List V} (h : OwnV w base g cap row) {k : Nat} (hk : k < row.length) (v : V) : VSl (((w.setCell ⟨g, k * 3, none⟩ (.int .i64 v.k)).setCell ⟨g, k * 3 + 1, none⟩ (.int .i64 v.n)).setCell ⟨g, k * 3 + 2, none⟩ (.string v.s)) (some ⟨g, 0, none⟩) (row.set k v) := by
  obtain ⟨cur, hb, htk, _⟩ := h.ex
  have hB := ((hb.set (k * 3) (.int .i64 v.k)).set (k * 3 + 1) (.int .i64 v.n)).set (k * 3 + 2) (.string v.s)
  have hsz : row.length * 3 ≤ cur.size := by
    have := congrArg List.length htk
    rw [flatV_len, List.length_take] at this
    simp at this; omega
  intro i x hx
  refine ⟨g, 0, rfl, ?_⟩
  rw [Nat.zero_add]
  by_cases hik : i = k
  · subst hik
    rw [List.getElem?_set_self hk] at hx
    cases hx
    refine ⟨?_, ?_, ?_⟩
    · rw [hB.cell]
      rw [Array.getElem?_setIfInBounds_ne (by omega), Array.getElem?_setIfInBounds_ne (by omega), Array.getElem?_setIfInBounds_self_of_lt (by omega)]
    · rw [hB.cell]
      rw [Array.getElem?_setIfInBounds_ne (by omega), Array.getElem?_setIfInBounds_self_of_lt (by simp; omega)]
    · rw [hB.cell]
      rw [Array.getElem?_setIfInBounds_self_of_lt (by simp; omega)]
  · rw [List.getElem?_set_ne (by omega)] at hx
    obtain ⟨a, b, c⟩ := OwnV.at ⟨h.ge, cur, hb, htk, ‹_›⟩ hx
    rw [hb.cell] at a b c
    refine ⟨?_, ?_, ?_⟩
    · rw [hB.cell, Array.getElem?_setIfInBounds_ne (by omega), Array.getElem?_setIfInBounds_ne (by omega), Array.getElem?_setIfInBounds_ne (by omega)]; exact a
    · rw [hB.cell, Array.getElem?_setIfInBounds_ne (by omega), Array.getElem?_setIfInBounds_ne (by omega), Array.getElem?_setIfInBounds_ne (by omega)]; exact b
    · rw [hB.cell, Array.getElem?_setIfInBounds_ne (by omega), Array.getElem?_setIfInBounds_ne (by omega), Array.getElem?_setIfInBounds_ne (by omega)]; exact c
end Go.Proofs.Ytjhcbehnopmnpaa
