/-
  A text of the proof of the law OpsGroup; no condition beside the row's own.
-/
import Derived.Test.YtigpbihjjadmlaaGreatGGb
import Derived.Test.YtigpbihjjadmlaaGreatHLawOLinear
namespace Go.Proofs.YtigpbihjjadmlaaGreat
open Go.RowKit Go.Calm
set_option linter.unusedSimpArgs false
set_option linter.unusedVariables false

theorem grp_sml (cols : List Int) (es : List E) (aggs : List Ag) (z : List Z) : smlZ (grpZ cols es aggs z).1 := by
  unfold grpZ
  split
  · exact sml_nil
  · rename_i h8
    split
    · exact sml_nil
    · rename_i h0
      split
      · exact sml_nil
      · rename_i h1
        split
        · exact sml_nil
        · rename_i h2
          have ok : GrpOk cols es aggs z := ⟨by omega, by simpa using h0, by simpa using h1, by simpa using h2⟩
          have r := ok.rows (l := headsK es z) (fun q hq => hq)
          have hl := headsK_len es z (SM.of (inputE_zero ok.z).2.1).len
          have s := sum_sml r.1
          rw [sum_fits r.2 (by rw [List.length_map]; exact hl)] at s
          exact s
set_option maxRecDepth 100000 in
set_option maxHeartbeats 8000000 in
theorem law_ogroup (cols : List Int) (Ac : Option Addr) (cc : Nat) (es : List E) (Ae : Option Addr) (ce : Nat) (aggs : List Ag) (Aa : Option Addr) (ca : Nat) (s : S) (w : World) (hlen : cols.length ≤ 9223372036854775807) (hle : es.length ≤ 140737488355328) (hla : aggs.length ≤ 140737488355328) (hc : ISl w Ac cols) (hE : ESl w Ae es) (hA : AgSl w Aa aggs) (hs : In w s) :
    Calls Tryz.prog 4 #[.slice Ac cols.length cc, .slice Ae es.length ce, .slice Aa aggs.length ca, .slice s.A s.xs.length s.cap] w fun en w' => en = .returned (.bool true) ∧ Grow w w' := by
  obtain ⟨A, xs, c⟩ := s
  have p0 := fun W (h : Grow w W) => (group_any cols Ac cc es Ae ce aggs Aa ca xs A c W hlen hle hla (hc.grow h) (hE.grow h) (hA.grow h) (hs.grow h)).mono (fun e w' h => Gives.i h (grp_sml cols es aggs (xs.map zOf)))
  have q0 := fun W (h : Grow w W) => (rgroup_any cols Ac cc es Ae ce aggs Aa ca xs A c W hlen hle hla (hc.grow h) (hE.grow h) (hA.grow h) (hs.grow h)).mono (fun e w' h => Gives.i h (grp_sml cols es aggs (xs.map zOf)))
  obtain ⟨R0, e0, h0⟩ : ∃ R e, grpZ cols es aggs (xs.map zOf) = (R, e) := ⟨_, _, rfl⟩
  rw [h0] at p0 q0
  have P0 := Lib.hid p0
  have Q0 := Lib.hid q0
  clear p0 q0 h0
  clear hc hE hA hs
  go_enter Tryz.func4, Tryz.ntmps4
  go_upto_region 2 with (go_at_call 8; ((with_reducible refine (P0.out _ (Grow.refl _)).mono ?_); rintro en w40 ⟨F40, l40, c40, rfl, hi4, hm4, hg40⟩; have I40 := Lib.hid hi4; have M40 := Lib.hid hm4; clear hi4 hm4))
  go_upto_region 3 with (go_at_call 9; ((with_reducible refine (Q0.out _ hg40).mono ?_); rintro en w50 ⟨F50, l50, c50, rfl, hi5, hm5, hg50⟩; have I50 := Lib.hid hi5; have M50 := Lib.hid hm5; clear hi5 hm5))
  have G50 := hg40.trans hg50
  have sm := fun W (h : Grow w50 W) => same_in ⟨F40, l40, c40⟩ ⟨F50, l50, c50⟩ W (I40.out.grow (hg50.trans h)) (I50.out.grow h) (M40.out.trans M50.out.symm)
  have d2 : (e0 == e0) = true := by simp
  go_wp2_with (go_at_call 7; ((with_reducible refine (sm _ (Grow.refl _)).mono ?_); rintro ex w62 ⟨rfl, hg62⟩))
  go_ret
  exact ret_bool (by simp) (G50.trans hg62)
end Go.Proofs.YtigpbihjjadmlaaGreat
