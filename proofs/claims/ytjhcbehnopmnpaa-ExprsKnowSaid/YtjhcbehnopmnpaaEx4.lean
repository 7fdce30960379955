/-
  The type of an expression, plainly.
-/
import Derived.Test.YtjhcbehnopmnpaaEx
import Derived.Test.YtjhcbehnopmnpaaEx3
namespace Go.Proofs.Ytjhcbehnopmnpaa
open Go.RowKit Go.Calm
set_option linter.unusedSimpArgs false
set_option linter.unusedVariables false

/-- kid for kid, until one is wrong: the error, how many nodes there were, the types -/
def typKids (f : Nat → Int → Int × Int × Int) : Nat → Nat → Int → List Int → Int × Int × List Int
  | 0, _, m, ts => (0, m, ts)
  | r + 1, i, m, ts => if (f i m).2.1 = 0 then typKids f r (i + 1) (f i m).2.2 (ts ++ [(f i m).1]) else ((f i m).2.1, (f i m).2.2, ts)
/-- the type, the error, how many nodes there were -/
def typE (cols : List Int) : E → Int → Int → Int × Int × Int
  | .leaf, deep, m => if 200 < m + 1 ∨ 20 < deep then (0, 4, m + 1) else (0, 1, m + 1)
  | .mk k v c _ n _ kid, deep, m =>
    if 200 < m + 1 ∨ 20 < deep then (0, 4, m + 1)
    else if kidsN k < 0 then (0, 1, m + 1)
    else if (n : Int) ≠ kidsN k then (0, 5, m + 1)
    else
      let r := typKids (fun i m' => typE cols (kid i) (deep + 1) m') n 0 (m + 1) []
      if r.1 ≠ 0 then (0, r.1, r.2.1)
      else if k = 1 then (v.k, wrongV v, r.2.1)
      else if k = 2 then (if c < 0 ∨ (cols.length : Int) ≤ c then (0, 7, r.2.1) else (cols.getD c.toNat 0, 0, r.2.1))
      else if k = 16 then (2, 0, r.2.1)
      else ((kindE k r.2.2).1, (kindE k r.2.2).2, r.2.1)

theorem typKids_bd {f : Nat → Int → Int × Int × Int} (hf : ∀ i m, m ≤ 200 → m ≤ (f i m).2.2 ∧ (f i m).2.2 ≤ 201 ∧ ((f i m).2.1 = 0 → (f i m).2.2 ≤ 200)) : ∀ (r i : Nat) (m : Int) (ts : List Int), m ≤ 200 →
    m ≤ (typKids f r i m ts).2.1 ∧ (typKids f r i m ts).2.1 ≤ 201 ∧ ((typKids f r i m ts).1 = 0 → (typKids f r i m ts).2.1 ≤ 200 ∧ (typKids f r i m ts).2.2.length = ts.length + r)
  | 0, i, m, ts, h => by simp [typKids]; omega
  | r + 1, i, m, ts, h => by
    unfold typKids
    obtain ⟨h1, h2, h3⟩ := hf i m h
    split
    · rename_i h0
      have := h3 h0
      obtain ⟨g1, g2, g3⟩ := typKids_bd hf r (i + 1) (f i m).2.2 (ts ++ [(f i m).1]) this
      refine ⟨by omega, g2, fun h => ?_⟩
      obtain ⟨g4, g5⟩ := g3 h
      refine ⟨g4, ?_⟩
      rw [g5]; simp; omega
    · rename_i h0
      exact ⟨h1, h2, fun h => absurd h h0⟩
theorem typE_bd (cols : List Int) (e : E) : ∀ (deep m : Int), m ≤ 200 → m ≤ (typE cols e deep m).2.2 ∧ (typE cols e deep m).2.2 ≤ 201 ∧ ((typE cols e deep m).2.1 = 0 → (typE cols e deep m).2.2 ≤ 200) := by
  induction e with
  | leaf =>
    intro deep m h
    unfold typE
    split <;> simp <;> omega
  | mk k v c A n cap kid ih =>
    intro deep m h
    unfold typE
    split
    · simp; omega
    · split
      · simp; omega
      · split
        · simp; omega
        · obtain ⟨g1, g2, g3⟩ := typKids_bd (f := fun i m' => typE cols (kid i) (deep + 1) m') (fun i m hm => ih i (deep + 1) m hm) n 0 (m + 1) [] (by omega)
          simp only
          split
          · exact ⟨by simp only; omega, by simp only; omega, fun h' => by rename_i h0; exact absurd h' h0⟩
          · rename_i h0
            obtain ⟨g4, g5⟩ := g3 (by simpa using h0)
            repeat' split
            all_goals exact ⟨by simp only; omega, by simp only; omega, fun _ => by simp only; omega⟩
end Go.Proofs.Ytjhcbehnopmnpaa
