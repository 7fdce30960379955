/-
  A text of the proof of the law RewriteOnce; no condition beside the row's own.
-/
import Derived.Test.YtpgpecdiajmgmaaGWdb
import Derived.Test.YtpgpecdiajmgmaaGWi
import Derived.Test.YtpgpecdiajmgmaaGWe
namespace Go.Proofs.Ytpgpecdiajmgmaa
open Go.RowKit Go.Calm
set_option linter.unusedSimpArgs false
set_option linter.unusedVariables false

set_option maxRecDepth 100000 in
set_option maxHeartbeats 4000000 in
theorem law_rwonce (ts : List (L2 Int)) (At : Option Addr) (nt : Nat) (p : PL) (w : World) (hlt : ts.length ≤ reachN) (hl : ∀ t ∈ ts, t.xs.length ≤ reachN) (hts : TSl w At ts) (hp : PX w p) :
    Calls Try.prog 4 #[.slice At ts.length nt, p.val] w fun en w' => en = .returned (.bool true) ∧ Grow w w' := by
  have HTS := Lib.hid hts
  have HPX := Lib.hid hp
  have HL := Lib.hid (And.intro hlt hl)
  obtain ⟨CE, hCE⟩ : ∃ CE, colsE (tabs ts) p = CE := ⟨_, rfl⟩
  have c1 := fun W (h : Grow w W) => plan_whole ts At nt p W hlt hl (hts.grow h) (hp.grow h)
  have c2 := fun W (h : Grow w W) => qcols_any ts At nt p W hlt hl (hts.grow h) (hp.grow h)
  unfold PlR at c1
  rw [hCE] at c1 c2
  unfold PL.val at c1 c2
  have C1 := Lib.hid c1
  have C2 := Lib.hid c2
  have HCE := Lib.hid hCE
  unfold PL.val
  clear c1 c2 hts hp hlt hl hCE
  go_enter Try.func4, Try.ntmps4
  go_upto_region 3 with (go_at_call 12; ((with_reducible refine (alive9 _).mono ?_); rintro e w2 ⟨rfl, hg2⟩))
  refine wp_forget (fun X => Blk X w.heap.size 31 (pC p) ∧ Grow w X) ⟨(Blk.new w _ _).grow hg2, Grow.trans (by repeat (first | (with_reducible exact Grow.refl _) | (with_reducible assumption) | (with_reducible refine Grow.set ?_ (by first | (simp; done) | (simp; omega)) _) | (with_reducible refine Grow.al ?_ _) | (with_reducible refine Grow.drew ?_) | (with_reducible refine Grow.drewN ?_ _) | (with_reducible refine Grow.trans ?_ (by assumption)))) hg2⟩ ?_
  rintro X ⟨BX0, G⟩
  have BX := Lib.hid BX0
  obtain ⟨bx, fx⟩ := BX0.rules
  have lx := BX0.lt
  clear BX0 hg2
  generalize w.heap.size = gx at *
  go_upto_region 4 with (go_at_call 9; ((refine (C1.out _ G).mono ?_); rintro en w3 ⟨r1, rfl, hg3, hpx1, hn1⟩))
  refine wp_forget (fun Y => Blk Y w3.heap.size 31 (pC r1) ∧ PX Y r1 ∧ Grow X Y) ⟨Blk.new _ _ _, hpx1.grow (by repeat (first | (with_reducible exact Grow.refl _) | (with_reducible assumption) | (with_reducible refine Grow.set ?_ (by first | (simp; done) | (simp; omega)) _) | (with_reducible refine Grow.al ?_ _) | (with_reducible refine Grow.drew ?_) | (with_reducible refine Grow.drewN ?_ _) | (with_reducible refine Grow.trans ?_ (by assumption)))), (by repeat (first | (with_reducible exact Grow.refl _) | (with_reducible assumption) | (with_reducible refine Grow.set ?_ (by first | (simp; done) | (simp; omega)) _) | (with_reducible refine Grow.al ?_ _) | (with_reducible refine Grow.drew ?_) | (with_reducible refine Grow.drewN ?_ _) | (with_reducible refine Grow.trans ?_ (by assumption))))⟩ ?_
  rintro Y ⟨BR0, hpy1, GY⟩
  generalize w3.heap.size = gr at *
  have BR := Lib.hid BR0
  have HN1 := Lib.hid hn1
  have HP1 := Lib.hid hpy1
  clear bx fx lx BR0 hn1 hpx1 hpy1 hg3
  obtain ⟨bx, fx⟩ := (BX.out.grow GY).rules
  have lx := (BX.out.grow GY).lt
  go_upto_region 5 with (go_at_call 13; ((refine (C2.out _ (G.trans GY)).mono ?_); rintro en w4 ⟨B4, k4, rfl, hi4, hn4, hg4⟩))
  have GZ := GY.trans hg4
  have I4 := Lib.hid hi4
  have C4 := Lib.hid hn4
  clear bx fx lx hi4 hn4
  by_cases h0 : CE.2 = 0
  · have d0 : (CE.2 != 0) = false := by simp [h0]
    have hid0 := plP_idem (ts := tabs ts) (p := p) (by rw [HCE.out]; exact h0)
    have hn1 := HN1.out h0
    rw [← hn1] at hid0
    have e1 : (colsE (tabs ts) r1).2 = 0 := by rw [← colsE_nP]; exact hid0.1
    have e2 : (colsE (tabs ts) r1).1 = CE.1 := by rw [← colsE_nP, hid0.2.1, HCE.out]
    have hc1 : colsE (tabs ts) r1 = (CE.1, 0) := Prod.ext e2 e1
    have c3 := fun W (h : Grow Y W) => plan_whole ts At nt r1 W HL.out.1 HL.out.2 (HTS.out.grow (G.trans (GY.trans h))) (HP1.out.grow h)
    have c4 := fun W (h : Grow Y W) => qcols_any ts At nt r1 W HL.out.1 HL.out.2 (HTS.out.grow (G.trans (GY.trans h))) (HP1.out.grow h)
    unfold PlR at c3
    rw [hc1] at c3 c4
    have HID := Lib.hid hid0.2.2
    unfold PL.val at c3 c4
    have C3 := Lib.hid c3
    have C5 := Lib.hid c4
    have H0 := Lib.hid h0
    clear hid0 hn1 e1 e2 hc1 c3 c4 h0
    obtain ⟨br, fr⟩ := (BR.out.grow hg4).rules
    have lr := (BR.out.grow hg4).lt
    go_upto_region 8 with (go_at_call 9; ((refine (C3.out _ hg4).mono ?_); rintro en w5 ⟨r2, rfl, hg5, hpx2, hn2⟩))
    refine wp_forget (fun Z => Blk Z w5.heap.size 31 (pC r2) ∧ PX Z r2 ∧ Grow w4 Z) ⟨Blk.new _ _ _, hpx2.grow (by repeat (first | (with_reducible exact Grow.refl _) | (with_reducible assumption) | (with_reducible refine Grow.set ?_ (by first | (simp; done) | (simp; omega)) _) | (with_reducible refine Grow.al ?_ _) | (with_reducible refine Grow.drew ?_) | (with_reducible refine Grow.drewN ?_ _) | (with_reducible refine Grow.trans ?_ (by assumption)))), (by repeat (first | (with_reducible exact Grow.refl _) | (with_reducible assumption) | (with_reducible refine Grow.set ?_ (by first | (simp; done) | (simp; omega)) _) | (with_reducible refine Grow.al ?_ _) | (with_reducible refine Grow.drew ?_) | (with_reducible refine Grow.drewN ?_ _) | (with_reducible refine Grow.trans ?_ (by assumption))))⟩ ?_
    rintro Z ⟨BS0, hpz2, GW⟩
    generalize w5.heap.size = gs at *
    have BS := Lib.hid BS0
    have HP2 := Lib.hid hpz2
    have hn2' := hn2 trivial
    rw [HID.out] at hn2'
    have HN2 := Lib.hid hn2'
    clear br fr lr BS0 hpx2 hpz2 hg5 hn2 hn2'
    obtain ⟨br, fr⟩ := (BR.out.grow (hg4.trans GW)).rules
    have lr := (BR.out.grow (hg4.trans GW)).lt
    go_upto_region 9 with (go_at_call 13; ((refine (C5.out _ (hg4.trans GW)).mono ?_); rintro en w6 ⟨B6, k6, rfl, hi6, hn6, hg6⟩))
    have I6 := Lib.hid hi6
    have cs := fun W (h : Grow w6 W) => sameP_any r1 r2 W HN2.out.symm (HP1.out.grow (hg4.trans (GW.trans (hg6.trans h)))) (HP2.out.grow (hg6.trans h))
    unfold PL.val at cs
    have CS := Lib.hid cs
    have l8 : CE.1.length ≤ 9223372036854775807 := by have := colsE_len (tabs ts) p; rw [HCE.out] at this; omega
    have ci := fun W (h : Grow w6 W) => ints_any CE.1 B4 B6 k4 k6 W l8 (I4.out.grow (GW.trans (hg6.trans h))) (I6.out.grow h)
    have CI := Lib.hid ci
    clear br fr lr cs ci hi6 hn6 l8
    obtain ⟨br, fr⟩ := (BR.out.grow (hg4.trans (GW.trans hg6))).rules
    obtain ⟨bs, fs⟩ := (BS.out.grow hg6).rules
    go_wp2_with (first
      | (go_at_call 11; ((with_reducible refine (CS.out _ (by repeat (first | (with_reducible exact Grow.refl _) | (with_reducible assumption) | (with_reducible refine Grow.set ?_ (by first | (simp; done) | (simp; omega)) _) | (with_reducible refine Grow.al ?_ _) | (with_reducible refine Grow.drew ?_) | (with_reducible refine Grow.drewN ?_ _) | (with_reducible refine Grow.trans ?_ (by assumption))))).mono ?_); rintro en w7 ⟨rfl, hg7⟩))
      | (go_at_call 14; ((with_reducible refine (CI.out _ (by repeat (first | (with_reducible exact Grow.refl _) | (with_reducible assumption) | (with_reducible refine Grow.set ?_ (by first | (simp; done) | (simp; omega)) _) | (with_reducible refine Grow.al ?_ _) | (with_reducible refine Grow.drew ?_) | (with_reducible refine Grow.drewN ?_ _) | (with_reducible refine Grow.trans ?_ (by assumption))))).mono ?_); rintro en w8 ⟨rfl, hg8⟩)))
    exact bodyPost_ret (v := .bool true) (by simp [results, Try.results4, go_sem]) rfl ⟨rfl, G.trans (GZ.trans (GW.trans (hg6.trans (Grow.trans (by assumption) (by repeat (first | (with_reducible exact Grow.refl _) | (with_reducible assumption) | (with_reducible refine Grow.set ?_ (by first | (simp; done) | (simp; omega)) _) | (with_reducible refine Grow.al ?_ _) | (with_reducible refine Grow.drew ?_) | (with_reducible refine Grow.drewN ?_ _) | (with_reducible refine Grow.trans ?_ (by assumption))))))))⟩
  · have d0 : (CE.2 != 0) = true := by simpa using h0
    clear h0
    go_wp2
    exact bodyPost_ret (v := .bool true) (by simp [results, Try.results4, go_sem]) rfl ⟨rfl, G.trans GZ⟩
end Go.Proofs.Ytpgpecdiajmgmaa
