/-
  The law ValsRows: its walk.
-/
import Derived.Test.YtjhcbehnopmnpaaOrd
namespace Go.Proofs.Ytjhcbehnopmnpaa
open Go.RowKit Go.Calm
set_option linter.unusedSimpArgs false
set_option linter.unusedVariables false

set_option maxHeartbeats 1000000 in
set_option maxRecDepth 100000 in
theorem law_rows (xs ys : List V) (A B : Option Addr) (c d : Nat) (w : World) (hlx : xs.length ≤ 9223372036854775807) (hly : ys.length ≤ 9223372036854775807) (hx : VSl w A xs) (hy : VSl w B ys) :
    Calls Try.prog 3 #[.slice A xs.length c, .slice B ys.length d] w fun e w' => e = .returned (.bool true) ∧ Grow w w' := by
  have Hx := Lib.hid hx
  have Hy := Lib.hid hy
  clear hx hy
  cases ra : xs.all rightB
  · go_enter Try.func3, Try.ntmps3
    go_wp2_with (first | (go_at_call 25; ((with_reducible refine (right_any xs A c _ hlx Hx.out).mono ?_); rintro e w' ⟨rfl, hg⟩; obtain ⟨hc, hf, hz⟩ := hg.rules)))
    go_ret
    exact ⟨rfl, (by repeat (first | (with_reducible exact Grow.refl _) | (with_reducible assumption) | (with_reducible refine Grow.set ?_ (by first | (simp; done) | (simp; omega)) _) | (with_reducible refine Grow.al ?_ _) | (with_reducible refine Grow.drew ?_) | (with_reducible refine Grow.drewN ?_ _) | (with_reducible refine Grow.trans ?_ (by assumption))))⟩
  · cases rb : ys.all rightB
    · go_enter Try.func3, Try.ntmps3
      go_wp2_with (go_at_call 25; first | ((with_reducible refine (right_any xs A c _ hlx Hx.out).mono ?_); rintro e w' ⟨rfl, hg⟩) | ((with_reducible refine (right_any ys B d _ hly (Hy.out.grow hg)).mono ?_); rintro e w2' ⟨rfl, hg2⟩))
      go_ret
      exact ⟨rfl, (by repeat (first | (with_reducible exact Grow.refl _) | (with_reducible assumption) | (with_reducible refine Grow.set ?_ (by first | (simp; done) | (simp; omega)) _) | (with_reducible refine Grow.al ?_ _) | (with_reducible refine Grow.drew ?_) | (with_reducible refine Grow.drewN ?_ _) | (with_reducible refine Grow.trans ?_ (by assumption))))⟩
    · have rx := right_all xs ra
      have ry := right_all ys rb
      have e1 := rows_cmp_ord xs ys rx ry
      have e2 : rowsG cmpV ys xs = - rowsG ordV xs ys := by rw [rows_cmp_ord ys xs ry rx, rowsG_swap ordV ordV_swap]
      have hr := rowsG_range ordV ordV_range xs ys
      have hr1 : -1 ≤ rowsG ordV xs ys := by omega
      have hr2 : rowsG ordV xs ys ≤ 1 := by omega
      clear rx ry hr
      go_enter Try.func3, Try.ntmps3
      go_wp2_with (first | (go_at_call 25; first | ((with_reducible refine (right_any xs A c _ hlx Hx.out).mono ?_); rintro e w' ⟨rfl, hg⟩) | ((with_reducible refine (right_any ys B d _ hly (Hy.out.grow hg)).mono ?_); rintro e w2' ⟨rfl, hg2⟩; replace hg := hg.trans hg2; clear hg2)) | (go_at_call 26; first | ((with_reducible refine (vrows_any xs ys A B c d _ hlx hly (Hx.out.grow hg) (Hy.out.grow hg)).mono ?_); rintro e w2' ⟨rfl, hg2⟩; replace hg := hg.trans hg2; clear hg2) | ((with_reducible refine (vrows_any ys xs B A d c _ hly hlx (Hy.out.grow hg) (Hx.out.grow hg)).mono ?_); rintro e w2' ⟨rfl, hg2⟩; replace hg := hg.trans hg2; clear hg2)) | (go_at_call 27; ((with_reducible refine (rrows_any xs ys A B c d _ hlx hly (Hx.out.grow hg) (Hy.out.grow hg)).mono ?_); rintro e w2' ⟨rfl, hg2⟩; replace hg := hg.trans hg2; clear hg2)))
      go_ways
      go_ret
      exact ⟨rfl, (by repeat (first | (with_reducible exact Grow.refl _) | (with_reducible assumption) | (with_reducible refine Grow.set ?_ (by first | (simp; done) | (simp; omega)) _) | (with_reducible refine Grow.al ?_ _) | (with_reducible refine Grow.drew ?_) | (with_reducible refine Grow.drewN ?_ _) | (with_reducible refine Grow.trans ?_ (by assumption))))⟩
end Go.Proofs.Ytjhcbehnopmnpaa
