/-
  Letters of types, plainly; what typE gives is a type.
-/
import Derived.Test.YtjhcbehnopmnpaaEx8
namespace Go.Proofs.Ytjhcbehnopmnpaa
open Go.RowKit Go.Calm
set_option linter.unusedSimpArgs false
set_option linter.unusedVariables false

def Ty (t : Int) : Prop := 1 ≤ t ∧ t ≤ 4
theorem Ty.cases {t : Int} (h : Ty t) : t = 1 ∨ t = 2 ∨ t = 3 ∨ t = 4 := by unfold Ty at h; omega
theorem tog_want {x w : Int} (hx : Ty x) (hw : w = 2 ∨ w = 3 ∨ w = 4) : (togL (lett x) (lett w) == lett w) = oneB x w := by
  rcases hx.cases with rfl | rfl | rfl | rfl <;> rcases hw with rfl | rfl | rfl <;> rfl
theorem tog_two {x y : Int} (hx : Ty x) (hy : Ty y) : togL (lett x) (lett y) = if oneB x y then lett (oneT x y) else 0 := by
  rcases hx.cases with rfl | rfl | rfl | rfl <;> rcases hy.cases with rfl | rfl | rfl | rfl <;> rfl
theorem one_ty {x y : Int} (hx : Ty x) (hy : Ty y) (h : oneB x y = true) : Ty (oneT x y) := by
  rcases hx.cases with rfl | rfl | rfl | rfl <;> rcases hy.cases with rfl | rfl | rfl | rfl <;> first | (exfalso; revert h; decide) | (constructor <;> decide)
theorem lett_ne {t : Int} : lett t ≠ 0 := by unfold lett; repeat' split
                                             all_goals omega
/-- the letter that goes with a type and an error -/
def letE (t e : Int) : Int := if e = 0 then lett t else 0

theorem kindE_ty {k : Int} {ts : List Int} (ht : ∀ x ∈ ts, Ty x) (hl : (ts.length : Int) = kidsN k) (h1 : 1 ≤ kidsN k) (h16 : k ≠ 16) (h0 : (kindE k ts).2 = 0) : Ty (kindE k ts).1 := by
  have hk : k ≤ 11 ∨ (12 ≤ k ∧ k ≤ 15) ∨ k = 17 ∨ k = 18 := by
    unfold kidsN at h1
    repeat' split at h1
    all_goals omega
  unfold kindE at h0 ⊢
  rcases hk with hk | hk | rfl | rfl
  · repeat' split
    all_goals first | (constructor <;> decide) | (exfalso; simp_all; done) | omega
  · repeat' split
    all_goals first | (constructor <;> decide) | (exfalso; simp_all; done) | omega
  · have h3 : kidsN 17 = 3 := rfl
    match ts, hl, ht with
    | [x, y, z], _, ht =>
      simp at h0 ⊢
      by_cases h : oneB y z = true ∧ oneB x 2 = true
      · rw [if_pos h]
        exact one_ty (ht y (by simp)) (ht z (by simp)) h.1
      · rw [if_neg h] at h0; simp at h0
    | [], hl, _ => simp at hl; omega
    | [_], hl, _ => simp at hl; omega
    | [_, _], hl, _ => simp at hl; omega
    | _ :: _ :: _ :: _ :: _, hl, _ => simp at hl; omega
  · have h3 : kidsN 18 = 2 := rfl
    match ts, hl, ht with
    | [x, y], _, ht =>
      simp at h0 ⊢
      by_cases h : oneB x y = true
      · rw [if_pos h]
        exact one_ty (ht x (by simp)) (ht y (by simp)) h
      · rw [if_neg h] at h0; simp at h0
    | [], hl, _ => simp at hl; omega
    | [_], hl, _ => simp at hl; omega
    | _ :: _ :: _ :: _, hl, _ => simp at hl; omega

theorem typKids_ty {f : Nat → Int → Int × Int × Int} (hf : ∀ i m, (f i m).2.1 = 0 → Ty (f i m).1) : ∀ (r i : Nat) (m : Int) (ts : List Int), (∀ x ∈ ts, Ty x) → (typKids f r i m ts).1 = 0 → (∀ x ∈ (typKids f r i m ts).2.2, Ty x) ∧ (typKids f r i m ts).2.2.length = ts.length + r
  | 0, i, m, ts, h, h0 => by simp [typKids]; exact h
  | r + 1, i, m, ts, h, h0 => by
    unfold typKids at h0 ⊢
    split at h0
    · rename_i he
      rw [if_pos he]
      obtain ⟨g1, g2⟩ := typKids_ty hf r (i + 1) (f i m).2.2 (ts ++ [(f i m).1]) (fun x hx => by
        rcases List.mem_append.1 hx with hx | hx
        · exact h x hx
        · simp at hx; subst hx; exact hf i m he) h0
      refine ⟨g1, ?_⟩
      rw [g2]; simp; omega
    · rename_i he
      exact absurd h0 he
theorem wrong_kind {v : V} (h : wrongV v = 0) : Ty v.k := by
  have := ((RV.of v).1 h).kind
  unfold Ty; omega
theorem typE_ty (cols : List Int) (hc : cols.all colB = true) (e : E) : ∀ (deep m : Int), (typE cols e deep m).2.1 = 0 → Ty (typE cols e deep m).1 := by
  induction e with
  | leaf =>
    intro deep m h
    unfold typE at h
    split at h <;> simp at h
  | mk k v c A n cap kid ih =>
    intro deep m h
    unfold typE at h ⊢
    split at h
    · simp at h
    · split at h
      · simp at h
      · split at h
        · simp at h
        · rename_i h1 h2 h3
          rw [if_neg h1, if_neg h2, if_neg h3]
          simp only at h ⊢
          split at h
          · rename_i h4; exact absurd h h4
          · rename_i h4
            rw [if_neg h4]
            obtain ⟨g1, g2⟩ := typKids_ty (f := fun i m' => typE cols (kid i) (deep + 1) m') (fun i m => ih i (deep + 1) m) n 0 (m + 1) [] (by simp) (by simpa using h4)
            split at h
            · rename_i h5; rw [if_pos h5]; exact wrong_kind h
            · rename_i h5
              rw [if_neg h5]
              split at h
              · rename_i h6
                rw [if_pos h6]
                split at h
                · simp at h
                · rename_i h7
                  rw [if_neg h7]
                  have hl : c.toNat < cols.length := by omega
                  have := List.all_eq_true.1 hc (cols[c.toNat]) (List.getElem_mem hl)
                  simp only [List.getD_eq_getElem?_getD, List.getElem?_eq_getElem hl, Option.getD_some]
                  simp [colB] at this
                  exact this
              · rename_i h6
                rw [if_neg h6]
                split at h
                · rename_i h7; rw [if_pos h7]; exact (⟨by decide, by decide⟩ : Ty 2)
                · rename_i h7
                  rw [if_neg h7]
                  have hz : kidsN k ≠ 0 := fun hz => by rcases kids_zero hz with h8 | h8 <;> contradiction
                  simp only at h ⊢
                  exact kindE_ty g1 (by rw [g2]; simp; omega) (by omega) h7 h
end Go.Proofs.Ytjhcbehnopmnpaa
