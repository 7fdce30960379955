/-
  A text of the proof of the law OpsRows; no condition beside the row's own.
-/
import Derived.Test.YtpdimihojeonhaaGreatGZc
import Derived.Test.YtpdimihojeonhaaGreatGTc
import Derived.Test.YtpdimihojeonhaaGreatHLawOLinear
namespace Go.Proofs.YtpdimihojeonhaaGreat
open Go.RowKit Go.Calm
set_option linter.unusedSimpArgs false
set_option linter.unusedVariables false

theorem top_smlR (cols : List Int) (es : List E) (k : Int) (z : List Z) : smlZ (topZ cols es k z).1 := by
  unfold topZ
  split
  · exact sml_nil
  · split
    · exact sml_nil
    · split
      · exact sml_nil
      · rename_i h2
        obtain ⟨_, hw, _⟩ := inputE_zero (cols := cols) (z := z) (by simpa using h2)
        have smz := SM.of hw
        refine sum_sml (fun y hy => ?_)
        have sub : ∀ (l : List Z) (left : Int), y ∈ topGo left l → ∃ x ∈ l, x.1 = y.1 := by
          intro l
          induction l with
          | nil => intro left h; simp [topGo] at h
          | cons a l ih =>
            intro left h
            unfold topGo at h
            split at h
            · rcases List.mem_cons.1 h with e | h
              · exact ⟨a, List.mem_cons_self .., by rw [e]⟩
              · obtain ⟨x, hx, e⟩ := ih _ h
                exact ⟨x, List.mem_cons_of_mem _ hx, e⟩
            · obtain ⟨x, hx, e⟩ := ih _ h
              exact ⟨x, List.mem_cons_of_mem _ hx, e⟩
        obtain ⟨x, hx, e⟩ := sub _ _ hy
        obtain ⟨⟨r, hr, e2⟩, _⟩ := eachL_mem ((sortZ_perm _ _).mem_iff.1 hx)
        rw [← e, e2]
        exact ⟨by rw [bareR_len]; exact (smz.ok r hr).1, bareR_rv (smz.ok r hr).2⟩
set_option maxRecDepth 100000 in
set_option maxHeartbeats 8000000 in
theorem law_orows (cols : List Int) (Ac : Option Addr) (cc : Nat) (x : E) (es : List E) (Ae : Option Addr) (ce : Nat) (k : Int) (s : S) (w : World) (hlen : cols.length ≤ 9223372036854775807) (hle : es.length ≤ 9223372036854775807) (hc : ISl w Ac cols) (hx : EX w x) (hE : ESl w Ae es) (hs : In w s) :
    Calls Tryz.prog 3 #[.slice Ac cols.length cc, x.val, .slice Ae es.length ce, .int .i64 k, .slice s.A s.xs.length s.cap] w fun en w' => en = .returned (.bool true) ∧ Grow w w' := by
  obtain ⟨A, xs, c⟩ := s
  have p0 := fun W (h : Grow w W) => (filter_any cols Ac cc x xs A c W hlen (hc.grow h) (hx.grow h) (hs.grow h)).mono (fun e w' h => Gives.i h (filter_sml cols x (xs.map zOf)))
  have q0 := fun W (h : Grow w W) => (rfilter_any cols Ac cc x ⟨A, xs, c⟩ W hlen (hc.grow h) (hx.grow h) (hs.grow h)).mono (fun e w' h => Gives.i h (filter_sml cols x (xs.map zOf)))
  obtain ⟨R0, e0, h0⟩ : ∃ R e, filterZ cols x (xs.map zOf) = (R, e) := ⟨_, _, rfl⟩
  simp only [S.z] at q0
  rw [h0] at p0 q0
  have P0 := Lib.hid p0
  have Q0 := Lib.hid q0
  clear p0 q0 h0
  have p1 := fun W (h : Grow w W) => (map_any cols Ac cc es Ae ce xs A c W hlen hle (hc.grow h) (hE.grow h) (hs.grow h)).mono (fun e w' h => Gives.i h (map_sml cols es (xs.map zOf)))
  have q1 := fun W (h : Grow w W) => (rmap_any cols Ac cc es Ae ce ⟨A, xs, c⟩ W hlen hle (hc.grow h) (hE.grow h) (hs.grow h)).mono (fun e w' h => Gives.i h (map_sml cols es (xs.map zOf)))
  obtain ⟨R1, e1, h1⟩ : ∃ R e, mapZ cols es (xs.map zOf) = (R, e) := ⟨_, _, rfl⟩
  simp only [S.z] at q1
  rw [h1] at p1 q1
  have P1 := Lib.hid p1
  have Q1 := Lib.hid q1
  clear p1 q1 h1
  have p2 := fun W (h : Grow w W) => (top_any cols Ac cc es Ae ce k xs A c W hlen hle (hc.grow h) (hE.grow h) (hs.grow h)).mono (fun e w' h => Gives.i h (top_smlR cols es k (xs.map zOf)))
  have q2 := fun W (h : Grow w W) => (rtop_any cols Ac cc es Ae ce k ⟨A, xs, c⟩ W hlen hle (hc.grow h) (hE.grow h) (hs.grow h)).mono (fun e w' h => Gives.i h (top_smlR cols es k (xs.map zOf)))
  obtain ⟨R2, e2, h2⟩ : ∃ R e, topZ cols es k (xs.map zOf) = (R, e) := ⟨_, _, rfl⟩
  simp only [S.z] at q2
  rw [h2] at p2 q2
  have P2 := Lib.hid p2
  have Q2 := Lib.hid q2
  clear p2 q2 h2
  clear hc hx hE hs
  unfold E.val at *
  go_enter Tryz.func3, Tryz.ntmps3
  go_upto_region 1 with fail
  refine wp_forget (fun X => Blk X w.heap.size 27 (exC x) ∧ Grow w X) ⟨Blk.new _ _ _, (Grow.refl _).al _⟩ ?_
  generalize w.heap.size = g1
  rintro X ⟨Bx, G0⟩
  have BX := Lib.hid Bx
  clear Bx
  obtain ⟨bx, fx⟩ := BX.out.rules
  go_upto_region 2 with (go_at_call 6; ((with_reducible refine (P0.out _ G0).mono ?_); rintro en w40 ⟨F40, l40, c40, rfl, hi4, hm4, hg40⟩; have I40 := Lib.hid hi4; have M40 := Lib.hid hm4; clear hi4 hm4))
  clear bx fx
  obtain ⟨bx, fx⟩ := (BX.out.grow hg40).rules
  go_upto_region 3 with (go_at_call 7; ((with_reducible refine (Q0.out _ (G0.trans hg40)).mono ?_); rintro en w50 ⟨F50, l50, c50, rfl, hi5, hm5, hg50⟩; have I50 := Lib.hid hi5; have M50 := Lib.hid hm5; clear hi5 hm5))
  have G50 := (G0.trans hg40).trans hg50
  have sm := fun W (h : Grow w50 W) => same_in ⟨F40, l40, c40⟩ ⟨F50, l50, c50⟩ W (I40.out.grow (hg50.trans h)) (I50.out.grow h) (M40.out.trans M50.out.symm)
  clear bx fx
  have d0 : (e0 != e0) = false := by simp
  go_upto_region 5 with (go_at_call 8; ((with_reducible refine (sm _ (Grow.refl _)).mono ?_); rintro ex w60 ⟨rfl, hg60⟩))
  clear sm
  have G60 := G50.trans hg60
  go_upto_region 6 with (go_at_call 9; ((with_reducible refine (P1.out _ G60).mono ?_); rintro en w41 ⟨F41, l41, c41, rfl, hi4, hm4, hg41⟩; have I41 := Lib.hid hi4; have M41 := Lib.hid hm4; clear hi4 hm4))
  go_upto_region 7 with (go_at_call 10; ((with_reducible refine (Q1.out _ (G60.trans hg41)).mono ?_); rintro en w51 ⟨F51, l51, c51, rfl, hi5, hm5, hg51⟩; have I51 := Lib.hid hi5; have M51 := Lib.hid hm5; clear hi5 hm5))
  have G51 := (G60.trans hg41).trans hg51
  have sm := fun W (h : Grow w51 W) => same_in ⟨F41, l41, c41⟩ ⟨F51, l51, c51⟩ W (I41.out.grow (hg51.trans h)) (I51.out.grow h) (M41.out.trans M51.out.symm)
  have d1 : (e1 != e1) = false := by simp
  go_upto_region 9 with (go_at_call 8; ((with_reducible refine (sm _ (Grow.refl _)).mono ?_); rintro ex w61 ⟨rfl, hg61⟩))
  clear sm
  have G61 := G51.trans hg61
  go_upto_region 10 with (go_at_call 11; ((with_reducible refine (P2.out _ G61).mono ?_); rintro en w42 ⟨F42, l42, c42, rfl, hi4, hm4, hg42⟩; have I42 := Lib.hid hi4; have M42 := Lib.hid hm4; clear hi4 hm4))
  go_upto_region 11 with (go_at_call 12; ((with_reducible refine (Q2.out _ (G61.trans hg42)).mono ?_); rintro en w52 ⟨F52, l52, c52, rfl, hi5, hm5, hg52⟩; have I52 := Lib.hid hi5; have M52 := Lib.hid hm5; clear hi5 hm5))
  have G52 := (G61.trans hg42).trans hg52
  have sm := fun W (h : Grow w52 W) => same_in ⟨F42, l42, c42⟩ ⟨F52, l52, c52⟩ W (I42.out.grow (hg52.trans h)) (I52.out.grow h) (M42.out.trans M52.out.symm)
  have d2 : (e2 == e2) = true := by simp
  go_wp2_with (go_at_call 8; ((with_reducible refine (sm _ (Grow.refl _)).mono ?_); rintro ex w62 ⟨rfl, hg62⟩))
  go_ret
  exact ret_bool (by simp) (G52.trans hg62)
end Go.Proofs.YtpdimihojeonhaaGreat
