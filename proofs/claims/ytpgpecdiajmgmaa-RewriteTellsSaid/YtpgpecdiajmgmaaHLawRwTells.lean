/-
  A text of the proof of the law RewriteTells; no condition beside the row's own.
-/
import Derived.Test.YtpgpecdiajmgmaaGWdb
import Derived.Test.YtpgpecdiajmgmaaGWl
import Derived.Test.YtpgpecdiajmgmaaGWi
namespace Go.Proofs.Ytpgpecdiajmgmaa
open Go.RowKit Go.Calm
set_option linter.unusedSimpArgs false
set_option linter.unusedVariables false

set_option maxRecDepth 100000 in
set_option maxHeartbeats 4000000 in
theorem law_rwtells (ts : List (L2 Int)) (At : Option Addr) (nt : Nat) (p : PL) (w : World) (hlt : ts.length ≤ reachN) (hl : ∀ t ∈ ts, t.xs.length ≤ reachN) (hts : TSl w At ts) (hp : PX w p) :
    Calls Try.prog 3 #[.slice At ts.length nt, p.val] w fun en w' => en = .returned (.bool true) ∧ Grow w w' := by
  obtain ⟨CE, hCE⟩ : ∃ CE, colsE (tabs ts) p = CE := ⟨_, rfl⟩
  have c1 := fun W (h : Grow w W) => plan_whole ts At nt p W hlt hl (hts.grow h) (hp.grow h)
  have c2 := fun W (h : Grow w W) => rplan9_any ts At nt p W hlt hl (hts.grow h) (hp.grow h)
  unfold PlR at c1 c2
  rw [hCE] at c1 c2
  unfold PL.val at c1 c2
  have C1 := Lib.hid c1
  have C2 := Lib.hid c2
  unfold PL.val
  clear c1 c2 hts hp hlt hl hCE
  go_enter Try.func3, Try.ntmps3
  go_upto_region 1 with fail
  refine wp_forget (fun X => Blk X w.heap.size 31 (pC p) ∧ Grow w X) ⟨Blk.new w _ _, (by repeat (first | (with_reducible exact Grow.refl _) | (with_reducible assumption) | (with_reducible refine Grow.set ?_ (by first | (simp; done) | (simp; omega)) _) | (with_reducible refine Grow.al ?_ _) | (with_reducible refine Grow.drew ?_) | (with_reducible refine Grow.drewN ?_ _) | (with_reducible refine Grow.trans ?_ (by assumption))))⟩ ?_
  rintro X ⟨BX0, G⟩
  have BX := Lib.hid BX0
  obtain ⟨bx, fx⟩ := BX0.rules
  have lx := BX0.lt
  clear BX0
  generalize w.heap.size = gx at *
  go_upto_region 2 with (go_at_call 9; ((refine (C1.out _ G).mono ?_); rintro en w3 ⟨r1, rfl, hg3, hpx1, hn1⟩))
  refine wp_forget (fun Y => Blk Y w3.heap.size 31 (pC r1) ∧ PX Y r1 ∧ Grow X Y) ⟨Blk.new _ _ _, hpx1.grow (by repeat (first | (with_reducible exact Grow.refl _) | (with_reducible assumption) | (with_reducible refine Grow.set ?_ (by first | (simp; done) | (simp; omega)) _) | (with_reducible refine Grow.al ?_ _) | (with_reducible refine Grow.drew ?_) | (with_reducible refine Grow.drewN ?_ _) | (with_reducible refine Grow.trans ?_ (by assumption)))), (by repeat (first | (with_reducible exact Grow.refl _) | (with_reducible assumption) | (with_reducible refine Grow.set ?_ (by first | (simp; done) | (simp; omega)) _) | (with_reducible refine Grow.al ?_ _) | (with_reducible refine Grow.drew ?_) | (with_reducible refine Grow.drewN ?_ _) | (with_reducible refine Grow.trans ?_ (by assumption))))⟩ ?_
  rintro Y ⟨BR0, hpy1, GY⟩
  generalize w3.heap.size = gr at *
  have BR := Lib.hid BR0
  have HN1 := Lib.hid hn1
  have HP1 := Lib.hid hpy1
  clear bx fx lx BR0 hn1 hpx1 hpy1 hg3
  obtain ⟨bx, fx⟩ := (BX.out.grow GY).rules
  have lx := (BX.out.grow GY).lt
  go_upto_region 3 with (go_at_call 10; ((refine (C2.out _ (G.trans GY)).mono ?_); rintro en w5 ⟨r2, rfl, hg5, hpx2, hn2⟩))
  refine wp_forget (fun Z => Blk Z w5.heap.size 31 (pC r2) ∧ PX Z r2 ∧ Grow Y Z) ⟨Blk.new _ _ _, hpx2.grow (by repeat (first | (with_reducible exact Grow.refl _) | (with_reducible assumption) | (with_reducible refine Grow.set ?_ (by first | (simp; done) | (simp; omega)) _) | (with_reducible refine Grow.al ?_ _) | (with_reducible refine Grow.drew ?_) | (with_reducible refine Grow.drewN ?_ _) | (with_reducible refine Grow.trans ?_ (by assumption)))), (by repeat (first | (with_reducible exact Grow.refl _) | (with_reducible assumption) | (with_reducible refine Grow.set ?_ (by first | (simp; done) | (simp; omega)) _) | (with_reducible refine Grow.al ?_ _) | (with_reducible refine Grow.drew ?_) | (with_reducible refine Grow.drewN ?_ _) | (with_reducible refine Grow.trans ?_ (by assumption))))⟩ ?_
  rintro Z ⟨BS0, hpz2, GZ⟩
  generalize w5.heap.size = gs at *
  have HN2 := Lib.hid hn2
  have HP2 := Lib.hid hpz2
  have BS := Lib.hid BS0
  clear bx fx lx BS0 hn2 hpx2 hpz2 hg5
  by_cases h0 : CE.2 = 0
  · have d0 : (CE.2 != 0) = false := by simp [h0]
    have hnn : nP r1 = nP r2 := (HN1.out h0).trans (HN2.out h0).symm
    have cs := fun W (h : Grow Z W) => sameP_any r1 r2 W hnn (HP1.out.grow (GZ.trans h)) (HP2.out.grow h)
    unfold PL.val at cs
    have CS := Lib.hid cs
    clear h0 hnn cs
    obtain ⟨br, fr⟩ := (BR.out.grow GZ).rules
    obtain ⟨bs, fs⟩ := BS.out.rules
    go_wp2_with (go_at_call 11; ((with_reducible refine (CS.out _ (by repeat (first | (with_reducible exact Grow.refl _) | (with_reducible assumption) | (with_reducible refine Grow.set ?_ (by first | (simp; done) | (simp; omega)) _) | (with_reducible refine Grow.al ?_ _) | (with_reducible refine Grow.drew ?_) | (with_reducible refine Grow.drewN ?_ _) | (with_reducible refine Grow.trans ?_ (by assumption))))).mono ?_); rintro en w7 ⟨rfl, hg7⟩))
    exact bodyPost_ret (v := .bool true) (by simp [results, Try.results3, go_sem]) rfl ⟨rfl, G.trans (GY.trans (GZ.trans (by assumption)))⟩
  · have d0 : (CE.2 != 0) = true := by simpa using h0
    clear h0
    go_wp2
    exact bodyPost_ret (v := .bool true) (by simp [results, Try.results3, go_sem]) rfl ⟨rfl, G.trans (GY.trans GZ)⟩
end Go.Proofs.Ytpgpecdiajmgmaa
