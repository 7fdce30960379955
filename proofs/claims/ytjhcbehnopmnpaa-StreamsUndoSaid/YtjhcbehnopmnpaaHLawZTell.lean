/-
  A text of the proof of the law StreamsUndo; no condition beside the row's own.
-/
import Derived.Test.YtjhcbehnopmnpaaGJ
import Derived.Test.YtjhcbehnopmnpaaGI
/-
  The law ZsetsTell, walked.
-/
namespace Go.Proofs.Ytjhcbehnopmnpaa
open Go.RowKit Go.Calm
set_option linter.unusedSimpArgs false
set_option linter.unusedVariables false

/-- a set that came of something -/
def smlZ (z : List Z) : Prop := z.length ≤ 400 ∧ okR z
theorem sml_nil : smlZ [] := ⟨by simp, fun x hx => by simp at hx⟩
theorem sml_of (l : List Z) : smlZ (ofZ l).1 := by
  cases h : ofZ l with
  | mk z e =>
    by_cases he : e = 0
    · subst he
      obtain ⟨_, h2, rfl, h4, _⟩ := ofZ_ok h
      exact ⟨h4, okR_set (fun x hx => (h2 x hx).1)⟩
    · rw [ofZ_err h he]; exact sml_nil
theorem S.sml {s : S} (h : smlZ s.z) : s.ok := ⟨by have := h.1; simp [S.z] at this; omega, fun x hx => by have := (h.2 (zOf x) (List.mem_map_of_mem hx)).1; simp only [zOf] at this; omega⟩
theorem In.sml {w : World} {B : Option Addr} {ys : List I} {cap : Nat} (hz : ZIn w B ys) (hk : SlOk B ys.length cap) (h : smlZ (ys.map zOf)) : In w ⟨B, ys, cap⟩ := ⟨hz, hk, S.sml (s := ⟨B, ys, cap⟩) h⟩
theorem same_true (ys zs : List I) (B C : Option Addr) (c d : Nat) (w : World) (hy : ZIn w B ys) (hz : ZIn w C zs) (h : ys.map zOf = zs.map zOf) (hs : smlZ (ys.map zOf)) :
    Calls Try.prog 70 #[.slice B ys.length c, .slice C zs.length d] w fun en w' => en = .returned (.bool true) ∧ Grow w w' := by
  have h1 := S.sml (s := ⟨B, ys, c⟩) hs
  have h2 := S.sml (s := ⟨C, zs, d⟩) (by show smlZ (zs.map zOf); rw [← h]; exact hs)
  exact same_any ys zs B C c d w h1.1 h2.1 hy hz h1.2 h2.2 true ((sameG_iff _ _).2 h)

set_option maxRecDepth 100000 in
set_option maxHeartbeats 8000000 in
theorem law_ztell (xs : List I) (A : Option Addr) (c : Nat) (r : List V) (Ar : Option Addr) (cr : Nat) (w : World) (ha : In w ⟨A, xs, c⟩) (hr : VSl w Ar r) (hl : r.length ≤ 9223372036854775807) :
    Calls Try.prog 15 #[.slice A xs.length c, .slice Ar r.length cr] w fun en w' => en = .returned (.bool true) ∧ Grow w w' := by
  have hza : ZIn w A xs := ha.z
  have l1 : xs.length ≤ 9223372036854775807 := ha.ok.1
  have l2 : ∀ x ∈ xs, x.row.length ≤ 9223372036854775807 := ha.ok.2
  have Ha := Lib.hid ha
  have Hza := Lib.hid hza
  have Hr := Lib.hid hr
  have L2 := Lib.hid l2
  obtain ⟨E, hE⟩ : ∃ E, wrongZ (xs.map zOf) = E := ⟨_, rfl⟩
  obtain ⟨F, hF⟩ : ∃ F, rowE r = F := ⟨_, rfl⟩
  have c1 := fun W (h : Grow w W) => wrongz_any xs A c W l1 (Hza.out.grow h) L2.out E hE
  have c2 := fun W (h : Grow w W) => rwrongz_any xs A c W l1 (Hza.out.grow h) L2.out E hE
  have c3 := fun W (h : Grow w W) => of_any xs A c W l1 (Hza.out.grow h) L2.out
  have c4 := fun W (h : Grow w W) => rof_any xs A c W l1 (Hza.out.grow h) L2.out
  have c5 := fun W (h : Grow w W) => rrow_any r Ar cr W hl (Hr.out.grow h) F hF
  obtain ⟨O, hO⟩ : ∃ O, ofZ (xs.map zOf) = O := ⟨_, rfl⟩
  have so : smlZ O.1 := by rw [← hO]; exact sml_of _
  have So := Lib.hid so
  rw [hO] at c3 c4
  have HE := Lib.hid hE
  have HF := Lib.hid hF
  clear ha hza hr l2 hE hF hO so
  go_enter Try.func15, Try.ntmps15
  go_upto_region 3 with (first
    | (go_at_call 66; ((with_reducible refine (c1 _ (Grow.refl _)).mono ?_); rintro e w2 ⟨rfl, hg2⟩))
    | (go_at_call 67; ((with_reducible refine (c2 _ hg2).mono ?_); rintro e w3 ⟨rfl, hg3⟩)))
  have G3 := hg2.trans hg3
  go_upto_region 5 with (first
    | (go_at_call 68; ((with_reducible refine (c3 _ G3).mono ?_); rintro e w4 ⟨B, ys, cap, rfl, hz4, hm4, hk4, hg4⟩; have Y := Lib.hid (And.intro hz4 hm4); clear hz4 hm4 hk4))
    | (go_at_call 69; ((with_reducible refine (c4 _ (G3.trans hg4)).mono ?_); rintro e w5 ⟨C, zs, cap2, rfl, hz5, hm5, hk5, hg5⟩; have Z5 := Lib.hid (And.intro hz5 hm5); clear hz5 hm5 hk5)))
  have G5 := (G3.trans hg4).trans hg5
  have cs := same_true ys zs B C cap cap2 w5 (Y.out.1.grow hg5) Z5.out.1 (Y.out.2.trans Z5.out.2.symm) (by rw [Y.out.2]; exact So.out)
  go_upto_region 7 with (go_at_call 70; ((with_reducible refine cs.mono ?_); rintro e w6 ⟨rfl, hg6⟩))
  have G6 := G5.trans hg6
  clear cs
  by_cases h0 : E = 0
  · have d0 : (E != 0) = false := by simpa using h0
    by_cases h1 : F = 0
    · have d1 : (F != 0) = false := by simpa using h1
      have rz := (wrongZ_zero _).1 (HE.out.trans h0)
      have rr := (rowE_zero r).1 (HF.out.trans h1)
      have c6 := fun W (h : Grow w W) => zweight_any xs A c r Ar cr W (Hza.out.grow h) (HE.out.trans h0) (Hr.out.grow h) (HF.out.trans h1)
      have c7 := fun W (h : Grow w W) => rweight_any xs A c r Ar cr W (Ha.out.grow h) (Hr.out.grow h) hl
      rw [weightG_wt rr.2 (fun y hy => (rz.row y hy).2) rz.up] at c7
      clear rz rr
      obtain ⟨n, hn⟩ : ∃ n, wtZ (xs.map zOf) r = n := ⟨_, rfl⟩
      rw [hn] at c6 c7
      clear hn
      go_wp2_with (first
        | (go_at_call 67; ((with_reducible refine (c2 _ G6).mono ?_); rintro e w7 ⟨rfl, hg7⟩))
        | (go_at_call 71; ((with_reducible refine (c5 _ (G6.trans hg7)).mono ?_); rintro e w8 ⟨rfl, hg8⟩))
        | (go_at_call 72; ((with_reducible refine (c6 _ ((G6.trans hg7).trans hg8)).mono ?_); rintro e w9 ⟨rfl, hg9⟩))
        | (go_at_call 73; ((with_reducible refine (c7 _ (((G6.trans hg7).trans hg8).trans hg9)).mono ?_); rintro e w10 ⟨rfl, hg10⟩)))
      go_ret
      exact ret_bool (by simp) ((((G6.trans hg7).trans hg8).trans hg9).trans hg10)
    · have d1 : (F != 0) = true := by simpa using h1
      go_wp2_with (first
        | (go_at_call 67; ((with_reducible refine (c2 _ G6).mono ?_); rintro e w7 ⟨rfl, hg7⟩))
        | (go_at_call 71; ((with_reducible refine (c5 _ (G6.trans hg7)).mono ?_); rintro e w8 ⟨rfl, hg8⟩)))
      go_ret
      exact ret_bool (by simp) ((G6.trans hg7).trans hg8)
  · have d0 : (E != 0) = true := by simpa using h0
    go_wp2_with (go_at_call 67; ((with_reducible refine (c2 _ G6).mono ?_); rintro e w7 ⟨rfl, hg7⟩))
    go_ret
    exact ret_bool (by simp) (G6.trans hg7)
end Go.Proofs.Ytjhcbehnopmnpaa
