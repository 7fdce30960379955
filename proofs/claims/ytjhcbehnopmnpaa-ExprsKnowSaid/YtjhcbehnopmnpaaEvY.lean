/-
  exprs.Of, whole.
-/
import Derived.Test.YtjhcbehnopmnpaaEvX
import Derived.Test.YtjhcbehnopmnpaaEvN
import Derived.Test.YtjhcbehnopmnpaaEvL
namespace Go.Proofs.Ytjhcbehnopmnpaa
open Go.RowKit Go.Calm
set_option linter.unusedSimpArgs false
set_option linter.unusedVariables false

theorem of_any (row : List V) (A : Option Addr) (cr : Nat) (hlen : row.length ≤ 9223372036854775807) (hr : ∀ x ∈ row, RV x) (e : E) (hre : RE row.length e) : OfC row A cr e := by
  induction hre with
  | @mk k v c Ak n cap kid h0 hn hv hc hk ih =>
    intro gx ox w0 w hE hx hrow hg
    have rv : ∀ i, i < n → RV (ofE row (kid i)) := fun i hi => rv_of row hr _ (hk i hi)
    have K : ∀ (j : Nat) (iv : Int), iv = j → j < n → ∀ W, Vars W w.heap.size gx ox A row.length cr → Grow w W → Calls Try.prog 146 #[.int .i64 iv, .pointer (some ⟨w.heap.size, 0, none⟩), .pointer (some ⟨w.heap.size + 1, 0, none⟩)] W fun en w' => en = .returned (ofE row (kid j)).val ∧ Grow W w' :=
      fun j iv hiv hj W X G => kid_fn row A cr (.mk k v c Ak n cap kid) j iv hiv hj _ rfl (ih j hj) gx ox w.heap.size (w.heap.size + 1) w0 W hE hx hrow (hg.trans G) X.b1 X.b2
    have e0 : ofE row (.mk k v c Ak n cap kid) = if k = 1 then bare v else if k = 2 then bare (row.getD c.toNat nullV') else opV k (ofE row (kid 0)) (ofE row (kid 1)) (ofE row (kid 2)) := rfl
    rw [e0]; clear e0
    rcases kinds h0 with h | h | h | h | h | h | h | h | h | h | h | h | h
    · subst h
      exact of_lit row A cr gx ox w0 w hrow hg (.mk 1 v c Ak n cap kid) hx rfl
    · subst h
      obtain ⟨c0, c1⟩ := hc rfl
      have hl : c.toNat < row.length := by omega
      rw [if_neg (by decide), if_pos rfl, List.getD_eq_getElem?_getD, List.getElem?_eq_getElem hl]
      exact of_col row A cr gx ox w0 w hrow hg (.mk 2 v c Ak n cap kid) hx rfl c.toNat (by show c = _; omega) _ (List.getElem?_eq_getElem hl) hlen
    · subst h
      have kn : kidsN 3 = 1 := rfl
      exact of_not row A cr gx ox w0 w hrow hg (.mk 3 v c Ak n cap kid) hx rfl _ (rv 0 (by omega)) (K 0 0 rfl (by omega))
    · subst h
      have kn : kidsN 4 = 2 := rfl
      exact of_and row A cr gx ox w0 w hrow hg (.mk 4 v c Ak n cap kid) hx rfl _ _ (rv 0 (by omega)) (rv 1 (by omega)) (K 0 0 rfl (by omega)) (K 1 1 rfl (by omega))
    · subst h
      have kn : kidsN 5 = 2 := rfl
      exact of_or row A cr gx ox w0 w hrow hg (.mk 5 v c Ak n cap kid) hx rfl _ _ (rv 0 (by omega)) (rv 1 (by omega)) (K 0 0 rfl (by omega)) (K 1 1 rfl (by omega))
    · have kn : kidsN k = 2 := by
        unfold kidsN
        rw [if_neg (by omega), if_neg (by omega), if_pos (by omega)]
      rw [if_neg (by omega), if_neg (by omega), op_cmp h]
      exact of_cmp row A cr gx ox w0 w hrow hg (.mk k v c Ak n cap kid) k hx rfl h _ _ (K 0 0 rfl (by omega)) (K 1 1 rfl (by omega))
    · subst h
      have kn : kidsN 12 = 2 := rfl
      exact of_add row A cr gx ox w0 w hrow hg (.mk 12 v c Ak n cap kid) hx rfl _ _ (rv 0 (by omega)) (rv 1 (by omega)) (K 0 0 rfl (by omega)) (K 1 1 rfl (by omega))
    · subst h
      have kn : kidsN 13 = 2 := rfl
      exact of_sub row A cr gx ox w0 w hrow hg (.mk 13 v c Ak n cap kid) hx rfl _ _ (rv 0 (by omega)) (rv 1 (by omega)) (K 0 0 rfl (by omega)) (K 1 1 rfl (by omega))
    · subst h
      have kn : kidsN 14 = 2 := rfl
      exact of_mul row A cr gx ox w0 w hrow hg (.mk 14 v c Ak n cap kid) hx rfl _ _ (rv 0 (by omega)) (rv 1 (by omega)) (K 0 0 rfl (by omega)) (K 1 1 rfl (by omega))
    · subst h
      have kn : kidsN 15 = 2 := rfl
      exact of_cat row A cr gx ox w0 w hrow hg (.mk 15 v c Ak n cap kid) hx rfl _ _ (rv 0 (by omega)) (rv 1 (by omega)) (K 0 0 rfl (by omega)) (K 1 1 rfl (by omega))
    · subst h
      have kn : kidsN 16 = 1 := rfl
      exact of_null row A cr gx ox w0 w hrow hg (.mk 16 v c Ak n cap kid) hx rfl _ (K 0 0 rfl (by omega))
    · subst h
      have kn : kidsN 17 = 3 := rfl
      rw [if_neg (by decide), if_neg (by decide), show opV 17 (ofE row (kid 0)) (ofE row (kid 1)) (ofE row (kid 2)) = (if rankV (ofE row (kid 0)) = 2 then ofE row (kid 1) else ofE row (kid 2)) from rfl]
      by_cases h2 : rankV (ofE row (kid 0)) = 2
      · rw [if_pos h2]
        exact of_case_t row A cr gx ox w0 w hrow hg (.mk 17 v c Ak n cap kid) hx rfl _ _ (rv 0 (by omega)) (by simpa using h2) (K 0 0 rfl (by omega)) (K 1 1 rfl (by omega))
      · rw [if_neg h2]
        exact of_case_f row A cr gx ox w0 w hrow hg (.mk 17 v c Ak n cap kid) hx rfl _ _ (rv 0 (by omega)) (by simpa using h2) (K 0 0 rfl (by omega)) (K 2 2 rfl (by omega))
    · subst h
      have kn : kidsN 18 = 2 := rfl
      rw [if_neg (by decide), if_neg (by decide), show opV 18 (ofE row (kid 0)) (ofE row (kid 1)) (ofE row (kid 2)) = (if (ofE row (kid 0)).k = 1 then ofE row (kid 1) else ofE row (kid 0)) from rfl]
      by_cases h2 : (ofE row (kid 0)).k = 1
      · rw [if_pos h2]
        exact of_coal_b row A cr gx ox w0 w hrow hg (.mk 18 v c Ak n cap kid) hx rfl _ _ (by simpa using h2) (K 0 0 rfl (by omega)) (K 1 1 rfl (by omega))
      · rw [if_neg h2]
        exact of_coal_a row A cr gx ox w0 w hrow hg (.mk 18 v c Ak n cap kid) hx rfl _ (by simpa using h2) (K 0 0 rfl (by omega))
end Go.Proofs.Ytjhcbehnopmnpaa
