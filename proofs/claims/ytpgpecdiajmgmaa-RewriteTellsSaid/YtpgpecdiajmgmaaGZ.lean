/-
  Joined texts of this claim: EvE, R4a, R4b. What each proves its own head says; no condition beside those that each theorem names.
-/
import Derived.Test.YtpgpecdiajmgmaaGY
import Derived.Test.YtpgpecdiajmgmaaGQ
import Derived.Test.YtpgpecdiajmgmaaGG
import Derived.Test.YtpgpecdiajmgmaaGX
import Derived.Test.YtpgpecdiajmgmaaGVc
import Derived.Test.YtpgpecdiajmgmaaGJ
import Derived.Deep.RegionLaw
namespace Go.Proofs.Ytpgpecdiajmgmaa
open Go.RowKit Go.Calm
set_option linter.unusedSimpArgs false
set_option linter.unusedVariables false

end Go.Proofs.Ytpgpecdiajmgmaa

namespace Go.Proofs.Ytpgpecdiajmgmaa
open Go.RowKit Go.Calm
set_option linter.unusedSimpArgs false
set_option linter.unusedVariables false

theorem type_pos {cols : List Int} {x : E} {T : Int} (h : typeE cols x = (T, 0)) : 1 ≤ T := by
  have ok := okay_iff.1 h
  have ty := typE_ty cols ok.all x 1 0
  have h16 := ok.len
  have hall := ok.all
  unfold typeE at h
  rw [if_neg (by omega), if_neg (by rw [hall]; simp)] at h
  split at h
  · rename_i h0; exact absurd (Prod.mk.inj h).2 h0
  · rename_i h0
    rw [← (Prod.mk.inj h).1]
    exact (ty (by simpa using h0)).1
set_option maxRecDepth 100000 in
theorem rcond_any (cols : List Int) (Ac : Option Addr) (cc : Nat) (x : E) (w : World) (hlen : cols.length ≤ 9223372036854775807) (hc : ISl w Ac cols) (hE : EX w x) :
    Calls Try.prog 96 #[.slice Ac cols.length cc, x.val] w fun en w' => en = .returned (.int .i64 (condE cols x)) ∧ Grow w w' := by
  obtain ⟨T, e, hT⟩ : ∃ T e, typeE cols x = (T, e) := ⟨_, _, rfl⟩
  have ct := fun W (h : Grow w W) => typeof_any cols Ac cc x W hlen (hc.grow h) (hE.grow h)
  rw [hT] at ct
  simp only at ct
  have hR : condE cols x = if e = 0 ∧ T ≠ 2 ∧ T ≠ 1 then 9 else e := by unfold condE; rw [hT]
  rw [hR]
  have hpos : e = 0 → 1 ≤ T := fun h => type_pos (by rw [hT, h])
  clear hc hE hT hR
  unfold E.val at *
  go_enter Try.func96, Try.ntmps96
  by_cases h0 : e = 0
  · subst h0
    have hp := hpos rfl
    by_cases h2 : 2 < T
    · have d2 : decide (2 < T) = true := decide_eq_true h2
      go_wp2_with (go_at_call 127; ((with_reducible refine (ct _ (by repeat (first | (with_reducible exact Grow.refl _) | (with_reducible assumption) | (with_reducible refine Grow.set ?_ (by first | (simp; done) | (simp; omega)) _) | (with_reducible refine Grow.al ?_ _) | (with_reducible refine Grow.drew ?_) | (with_reducible refine Grow.drewN ?_ _) | (with_reducible refine Grow.trans ?_ (by assumption))))).mono ?_); rintro en w3 ⟨rfl, hg3⟩))
      go_ret
      exact ret_int (by first | rfl | rw [if_pos ⟨rfl, by omega, by omega⟩]) ((((Grow.refl w).al _).trans hg3))
    · have d2 : decide (2 < T) = false := decide_eq_false h2
      go_wp2_with (go_at_call 127; ((with_reducible refine (ct _ (by repeat (first | (with_reducible exact Grow.refl _) | (with_reducible assumption) | (with_reducible refine Grow.set ?_ (by first | (simp; done) | (simp; omega)) _) | (with_reducible refine Grow.al ?_ _) | (with_reducible refine Grow.drew ?_) | (with_reducible refine Grow.drewN ?_ _) | (with_reducible refine Grow.trans ?_ (by assumption))))).mono ?_); rintro en w3 ⟨rfl, hg3⟩))
      go_ret
      exact ret_int (by first | rfl | rw [if_neg (by omega)]) ((((Grow.refl w).al _).trans hg3))
  · have d0 : (e != 0) = true := by simpa using h0
    go_wp2_with (go_at_call 127; ((with_reducible refine (ct _ (by repeat (first | (with_reducible exact Grow.refl _) | (with_reducible assumption) | (with_reducible refine Grow.set ?_ (by first | (simp; done) | (simp; omega)) _) | (with_reducible refine Grow.al ?_ _) | (with_reducible refine Grow.drew ?_) | (with_reducible refine Grow.drewN ?_ _) | (with_reducible refine Grow.trans ?_ (by assumption))))).mono ?_); rintro en w3 ⟨rfl, hg3⟩))
    go_ret
    exact ret_int (by simp [h0]) ((((Grow.refl w).al _).trans hg3))
end Go.Proofs.Ytpgpecdiajmgmaa

namespace Go.Proofs.Ytpgpecdiajmgmaa
open Go.RowKit Go.Calm
set_option linter.unusedSimpArgs false
set_option linter.unusedVariables false

end Go.Proofs.Ytpgpecdiajmgmaa
