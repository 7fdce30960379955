/-
  exprs.Type.
-/
import Derived.Test.YtjhcbehnopmnpaaEx7
namespace Go.Proofs.Ytjhcbehnopmnpaa
open Go.RowKit Go.Calm
set_option linter.unusedSimpArgs false
set_option linter.unusedVariables false

/-- is a column's type one? -/
def colB (t : Int) : Bool := decide (1 ≤ t) && decide (t ≤ 4)
/-- an expression's type, and the error -/
def typeE (cols : List Int) (e : E) : Int × Int :=
  if 16 < cols.length then (0, 5)
  else if cols.all colB = false then (0, 1)
  else if (typE cols e 1 0).2.1 ≠ 0 then (0, (typE cols e 1 0).2.1)
  else ((typE cols e 1 0).1, 0)

theorem colB_no {t : Int} (h : colB t = false) : decide (t < 1) = true ∨ decide (t < 1) = false ∧ decide (4 < t) = true := by
  simp [colB] at h
  simp only [decide_eq_true_eq, decide_eq_false_iff_not]; omega
theorem colB_ok {t : Int} (h : colB t = true) : decide (t < 1) = false ∧ decide (4 < t) = false := by
  simp [colB] at h
  simp only [decide_eq_false_iff_not]; omega

set_option maxRecDepth 100000 in
set_option maxHeartbeats 4000000 in
theorem type_any (cols : List Int) (Ac : Option Addr) (cc : Nat) (e : E) (w : World) (hlen : cols.length ≤ 9223372036854775807) (hcols : ISl w Ac cols) (hE : EX w e) :
    Calls Try.prog 54 #[.slice Ac cols.length cc, e.val] w fun en w' => en = .returned (.tuple #[.int .i64 (typeE cols e).1, .int .i64 (typeE cols e).2]) ∧ Grow w w' := by
  have HE := Lib.hid hE
  have Hcols := Lib.hid hcols
  clear hE hcols
  by_cases h16 : 16 < cols.length
  · have e1 : typeE cols e = (0, 5) := by simp [typeE, h16]
    rw [e1]; clear e1
    have d1 : decide (16 < (cols.length : Int)) = true := by simp; omega
    clear h16
    unfold E.val
    go_enter Try.func54, Try.ntmps54
    go_wp2
    exact bodyPost_ret (by simp [results, Try.results54, go_sem]) rfl ⟨rfl, (by repeat (first | (with_reducible exact Grow.refl _) | (with_reducible assumption) | (with_reducible refine Grow.set ?_ (by first | (simp; done) | (simp; omega)) _) | (with_reducible refine Grow.al ?_ _) | (with_reducible refine Grow.drew ?_) | (with_reducible refine Grow.drewN ?_ _) | (with_reducible refine Grow.trans ?_ (by assumption))))⟩
  · have d1 : decide (16 < (cols.length : Int)) = false := by simp; omega
    obtain ⟨T, ER, hT⟩ : ∃ T ER, typeE cols e = (T, ER) := ⟨_, _, rfl⟩
    rw [hT]
    have HT := Lib.hid hT
    have H16 := Lib.hid h16
    clear hT h16
    unfold E.val
    go_enter Try.func54, Try.ntmps54
    go_wp2
    refine wp_forget (fun W => Blk W w.heap.size 47 #[.int .i64 e.kind, .int .i64 e.v.k, .int .i64 e.v.n, .string e.v.s, .int .i64 e.col, .slice e.A e.n e.cap] ∧ Grow w W) ⟨Blk.new _ _ _, (by repeat (first | (with_reducible exact Grow.refl _) | (with_reducible assumption) | (with_reducible refine Grow.set ?_ (by first | (simp; done) | (simp; omega)) _) | (with_reducible refine Grow.al ?_ _) | (with_reducible refine Grow.drew ?_) | (with_reducible refine Grow.drewN ?_ _) | (with_reducible refine Grow.trans ?_ (by assumption))))⟩ ?_
    rintro W ⟨B, G⟩
    go_loopw [15] (fun i wr => ∃ k : Nat, k ≤ cols.length ∧ i = .int .i64 k ∧ (cols.take k).all colB = true ∧ wr = W) (fun i _ => cols.length - (intOf i).toNat)
    case atStart => exact ⟨0, Nat.zero_le _, rfl, rfl, rfl⟩
    case round =>
      obtain ⟨k, hk, rfl, hall, rfl⟩ := hrel
      have Hall := Lib.hid hall
      clear hall
      by_cases hlt : k < cols.length
      · obtain ⟨x, hxk⟩ : ∃ x, cols[k]? = some x := ⟨_, List.getElem?_eq_getElem hlt⟩
        obtain ⟨g, o, rfl, c1⟩ := (Hcols.out.grow G) k x hxk
        have Hxk := Lib.hid hxk
        clear hxk
        cases hr : colB x
        · have fin : typeE cols e = (0, 1) := by
            have := all_fails colB cols k x Hxk.out hr
            unfold typeE
            rw [if_neg H16.out, if_pos this]
          obtain ⟨rfl, rfl⟩ : T = 0 ∧ ER = 1 := by simpa using HT.out.symm.trans fin
          clear fin
          rcases colB_no hr with d2 | ⟨d2, d3⟩
          · go_wp2
            exact bodyPost_ret (by simp [results, Try.results54, go_sem]) rfl ⟨rfl, (by repeat (first | (with_reducible exact Grow.refl _) | (with_reducible assumption) | (with_reducible refine Grow.set ?_ (by first | (simp; done) | (simp; omega)) _) | (with_reducible refine Grow.al ?_ _) | (with_reducible refine Grow.drew ?_) | (with_reducible refine Grow.drewN ?_ _) | (with_reducible refine Grow.trans ?_ (by assumption))))⟩
          · go_wp2
            exact bodyPost_ret (by simp [results, Try.results54, go_sem]) rfl ⟨rfl, (by repeat (first | (with_reducible exact Grow.refl _) | (with_reducible assumption) | (with_reducible refine Grow.set ?_ (by first | (simp; done) | (simp; omega)) _) | (with_reducible refine Grow.al ?_ _) | (with_reducible refine Grow.drew ?_) | (with_reducible refine Grow.drewN ?_ _) | (with_reducible refine Grow.trans ?_ (by assumption))))⟩
        · have Hr := Lib.hid (all_take colB cols k x Hxk.out Hall.out hr)
          obtain ⟨d2, d3⟩ := colB_ok hr
          go_wp2
          go_roundw
          case rel => exact ⟨k + 1, by omega, by go_num, Hr.out, trivial⟩
          case measure => simp [intOf]; omega
      · have hall : cols.all colB = true := by
          have := Hall.out
          rwa [List.take_of_length_le (by omega)] at this
        obtain ⟨q1, q2, q3, hq⟩ : ∃ q1 q2 q3, typE cols e 1 0 = (q1, q2, q3) := ⟨_, _, _, rfl⟩
        have hxe : ECells wr w.heap.size 0 e := ⟨B.cells rfl, B.cells rfl, B.cells rfl, B.cells rfl, B.cells rfl, B.cells rfl⟩
        have ct := fun W' (h1 : Grow wr W') hb => typ_any cols Ac cc hlen e w.heap.size 0 wr.heap.size 1 0 wr W' (HE.out.grow G) hxe (Hcols.out.grow G) h1 (Nat.le_refl _) hb (by omega) (by omega) (by omega) (by omega)
        rw [hq] at ct
        simp only at ct
        have Gs := G.size
        by_cases h2 : q2 = 0
        · have fin : typeE cols e = (q1, 0) := by
            unfold typeE
            rw [if_neg H16.out, if_neg (by simp [hall]), hq, if_neg (by simp [h2])]
          obtain ⟨rfl, rfl⟩ : T = q1 ∧ ER = 0 := by simpa using HT.out.symm.trans fin
          subst h2
          clear fin hq hall hxe
          go_wp2_with (go_at_call 108; ((with_reducible refine (ct _ ((Grow.refl _).al _) (Blk.new _ _ _)).mono ?_); rintro en w2 ⟨rfl, hb2, hg2⟩))
          exact bodyPost_ret (by simp [results, Try.results54, go_sem]) rfl ⟨rfl, GX.base (G.al _) Gs hg2⟩
        · have fin : typeE cols e = (0, q2) := by
            unfold typeE
            rw [if_neg H16.out, if_neg (by simp [hall]), hq, if_pos (by simp [h2])]
          have dq : (q2 != 0) = true := by simpa using h2
          obtain ⟨rfl, rfl⟩ : T = 0 ∧ ER = q2 := by simpa using HT.out.symm.trans fin
          clear fin hq hall hxe h2
          go_wp2_with (go_at_call 108; ((with_reducible refine (ct _ ((Grow.refl _).al _) (Blk.new _ _ _)).mono ?_); rintro en w2 ⟨rfl, hb2, hg2⟩))
          exact bodyPost_ret (by simp [results, Try.results54, go_sem]) rfl ⟨rfl, GX.base (G.al _) Gs hg2⟩
end Go.Proofs.Ytjhcbehnopmnpaa
