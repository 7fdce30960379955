/-
  looker.typ, whole.
-/
import Derived.Test.YtjhcbehnopmnpaaEx6
namespace Go.Proofs.Ytjhcbehnopmnpaa
open Go.RowKit Go.Calm
set_option linter.unusedSimpArgs false
set_option linter.unusedVariables false

theorem kids_zero {k : Int} (h : kidsN k = 0) : k = 1 ∨ k = 2 := by
  unfold kidsN at h
  repeat' split at h
  all_goals omega

theorem typ_any (cols : List Int) (Ac : Option Addr) (cc : Nat) (hlen : cols.length ≤ 9223372036854775807) (e : E) : TypC cols Ac cc e := by
  induction e with
  | leaf =>
    intro gx ox g deep m w0 w hE hx hcols hg0 hlt hb h0 h1 hd0 hd1
    have hne : gx ≠ g := by
      have h : gx < w0.heap.size := Grow.lt hx.c0
      omega
    unfold typE
    by_cases hm : 200 < m + 1 ∨ 20 < deep
    · rw [if_pos hm]; exact typ_much cols Ac cc gx ox g deep m w hb h0 h1 hm
    · rw [if_neg hm]
      exact typ_form cols Ac cc .leaf gx ox g deep m w hb hne (hx.grow hg0) (Nat.zero_le _) h0 (by simp; omega) (by simp; omega) (.inl (by decide))
  | mk k v c A n cap kid ih =>
    intro gx ox g deep m w0 w hE hx hcols hg0 hlt hb h0 h1 hd0 hd1
    have hne : gx ≠ g := by
      have h : gx < w0.heap.size := Grow.lt hx.c0
      omega
    have hn : n ≤ maxLen := by cases hE with | mk hn => exact hn
    by_cases hm : 200 < m + 1 ∨ 20 < deep
    · unfold typE
      rw [if_pos hm]; exact typ_much cols Ac cc gx ox g deep m w hb h0 h1 hm
    · have d1 : decide (200 < m + 1) = false := by simp; omega
      have d2 : decide (20 < deep) = false := by simp; omega
      have hxw := hx.grow hg0
      by_cases hf : kidsN k < 0 ∨ ¬ kidsN k < 0 ∧ (n : Int) ≠ kidsN k
      · have e : typE cols (.mk k v c A n cap kid) deep m = (0, if kidsN k < 0 then 1 else 5, m + 1) := by
          unfold typE
          rw [if_neg hm]
          rcases hf with hf | ⟨hf, hf2⟩
          · rw [if_pos hf, if_pos hf]
          · rw [if_neg hf, if_pos hf2, if_neg hf]
        rw [e]
        exact typ_form cols Ac cc (.mk k v c A n cap kid) gx ox g deep m w hb hne hxw hn h0 d1 d2 hf
      · have hk0 : ¬ kidsN k < 0 := fun h => hf (.inl h)
        have hnk : (n : Int) = kidsN k := Classical.byContradiction fun h => hf (.inr ⟨hk0, h⟩)
        by_cases hz : kidsN k = 0
        · have hn0 : n = 0 := by omega
          subst hn0
          rcases kids_zero hz with rfl | rfl
          · have e : typE cols (.mk 1 v c A 0 cap kid) deep m = (v.k, wrongV v, m + 1) := by
              unfold typE
              rw [if_neg hm, if_neg hk0, if_neg (by omega)]
              simp [typKids]
            rw [e]
            exact typ_lit cols Ac cc (.mk 1 v c A 0 cap kid) gx ox g deep m w hb hne hxw h0 d1 d2 rfl rfl
          · by_cases hc : c < 0 ∨ (cols.length : Int) ≤ c
            · have e : typE cols (.mk 2 v c A 0 cap kid) deep m = (0, 7, m + 1) := by
                unfold typE
                rw [if_neg hm, if_neg hk0, if_neg (by omega)]
                simp [typKids, hc]
              rw [e]
              exact typ_name cols Ac cc (.mk 2 v c A 0 cap kid) gx ox g deep m w hb hne hxw h0 d1 d2 rfl rfl hc
            · have e : typE cols (.mk 2 v c A 0 cap kid) deep m = (cols.getD c.toNat 0, 0, m + 1) := by
                unfold typE
                rw [if_neg hm, if_neg hk0, if_neg (by omega)]
                simp only [typKids]
                rw [if_neg (by simp), if_neg (by decide), if_pos trivial, if_neg hc]
              rw [e]
              refine typ_col cols Ac cc (.mk 2 v c A 0 cap kid) gx ox g deep m w hb hne hxw h0 d1 d2 rfl rfl ?_ ?_ hlen (hcols.grow hg0) (fun a ha => ?_)
              · show 0 ≤ c; omega
              · show c < (cols.length : Int); omega
              · have hl : 0 < cols.length := by omega
                obtain ⟨ga, oa, h1, h2⟩ := hcols 0 (cols[0]) (by simp [hl])
                rw [h1] at ha
                cases ha
                have : ga < w0.heap.size := Grow.lt h2
                simp only
                omega
        · rw [typE_kids cols k v c A n cap kid deep m hm (by omega) hnk]
          obtain ⟨T, ER, M, hT⟩ : ∃ T ER M, typOf k (typKids (fun i m' => typE cols (kid i) (deep + 1) m') n 0 (m + 1) []) = (T, ER, M) := ⟨_, _, _, rfl⟩
          rw [hT]
          exact typ_kids cols Ac cc k v c A n cap kid ih gx ox g deep m w0 w hE hx hcols hg0 hlt hb h0 d1 d2 hd0 (by omega) hnk T ER M hT
end Go.Proofs.Ytjhcbehnopmnpaa
