/-
 The law QueryTells. No condition beside the row's own.
-/
import Derived.Test.YtphaeahdmfapgaaGreatGQd
set_option maxRecDepth 100000
set_option maxHeartbeats 4000000
set_option linter.unusedSimpArgs false
set_option linter.unusedVariables false
namespace Go.Proofs.YtphaeahdmfapgaaGreat
open Go.RowKit Go.Calm
theorem Pi (ts : List (L2 Int)) (At : Option Addr) (nt : Nat) (p : PL) (ds : List S) (Ad : Option Addr) (nd : Nat) (w : World) (hlt : ts.length <= zm) (hl : ∀ t ∈ ts, t.xs.length <= zm) (hts : NH w At ts) (hp : PX w p) (hds : TN w Ad ds nd) :
  Calls Tryz.prog 3 #[.slice At ts.length nt, p.val, .slice Ad ds.length nd] w fun en w' => en = .returned (.bool true) /\ za w w' := by
 obtain ⟨C, ce, hCE⟩ : ∃ C e, yn (zn ts) p = (C, e) := ⟨_, _, rfl⟩
 obtain ⟨a1, e1, hE1⟩ : ∃ a e, Xv (zn ts) p (ds.map S.z) = (a, e) := ⟨_, _, rfl⟩
 have c1 := fun W (h : za w W) => Z9 ts At nt p W hlt hl (hts.grow h) (hp.grow h)
 have c2 := fun W (h : za w W) => jj ts At nt p W hlt hl (hts.grow h) (hp.grow h)
 have c3 := fun W (h : za w W) => SS ts At nt p ds Ad nd W hlt hl (hts.grow h) (hp.grow h) (hds.grow h)
 have c4 := fun W (h : za w W) => Pt ts At nt p ds Ad nd W hlt hl (hts.grow h) (hp.grow h) (hds.grow h)
 unfold XB at c1; unfold ZH at c2; unfold z0 at c3 c4; rw [hCE] at c1 c2; rw [hE1] at c3 c4; simp only at c1 c2 c3 c4; unfold PL.val at c1 c2 c3 c4; have hl8 : C.length <= 8 := by have := jQ (zn ts) p; rw [hCE] at this; exact this
 have hsm : LJ a1 := by
  by_cases h : e1 = 0
  ·subst h; exact kS (Um hE1)
  ·have h1 := Sx (zn ts) p (ds.map S.z); rw [hE1] at h1; have h2 : a1 = [] := h1 h; rw [h2]; exact Dx
 have C1 := hh_ c1; have C2 := hh_ c2; have C3 := hh_ c3; have C4 := hh_ c4; have HSM := hh_ hsm; unfold PL.val; clear c1 c2 c3 c4 hts hp hds hlt hl hCE hE1 hsm; go_enter Tryz.func3, Tryz.ntmps3; go_upto_region 1 with fail
 refine zb (fun X => zc X w.heap.size 31 (pC p) /\ za w X) ⟨zc.new w _ _, (za.refl w).al _⟩ ?_; rintro X ⟨BX0, G⟩; have BX := hh_ BX0; obtain ⟨bx, fx⟩ := BX0.rules; have lx := BX0.lt; clear BX0; generalize w.heap.size = gx at *; go_upto_region 2 with (go_at_call 4; ((refine (C1.out _ G).mono ?_); rintro en w3 ⟨B3, n3, rfl, hi3, hn3, hg3⟩)); have I3 := hh_ hi3; clear hi3 hn3 bx fx lx; obtain ⟨bx, fx⟩ := (BX.out.grow hg3).rules; have lx := (BX.out.grow hg3).lt; go_upto_region 3 with (go_at_call 5; ((refine (C2.out _ (G.trans hg3)).mono ?_); rintro en w4 ⟨B4, n4, rfl, hi4, hg4⟩)); have ci := fun W (h : za w4 W) => Uy C B3 B4 n3 n4 W u4_ (I3.out.grow (hg4.trans h)) (hi4.grow h)
 have CI := hh_ ci; clear hi4 ci bx fx lx; have db : (ce != ce) = false := by simp
 go_upto_region 5 with (go_at_call 6; ((with_reducible refine (CI.out _ (za.refl _)).mono ?_); rintro en w5 ⟨rfl, hg5⟩)); have G5 := G.trans (hg3.trans (hg4.trans hg5)); obtain ⟨bx, fx⟩ := (BX.out.grow (hg3.trans (hg4.trans hg5))).rules; have lx := (BX.out.grow (hg3.trans (hg4.trans hg5))).lt; go_upto_region 6 with (go_at_call 7; ((refine (C3.out _ G5).mono ?_); rintro en w6 ⟨B6, ys6, cap6, rfl, hz6, hm6, hk6, hg6⟩)); have h6 : In w6 ⟨B6, ys6, cap6⟩ := In.sml hz6 hk6 (by rw [hm6]; exact HSM.out); have H6 := hh_ h6; have M6 := hh_ hm6; clear bx fx lx hz6 hk6 h6 hm6; obtain ⟨bx, fx⟩ := (BX.out.grow (hg3.trans (hg4.trans (hg5.trans hg6)))).rules; have lx := (BX.out.grow (hg3.trans (hg4.trans (hg5.trans hg6)))).lt; go_upto_region 7 with (go_at_call 8; ((refine (C4.out _ (G5.trans hg6)).mono ?_); rintro en w7 ⟨B7, ys7, cap7, rfl, hz7, hm7, hk7, hg7⟩)); have h7 : In w7 ⟨B7, ys7, cap7⟩ := In.sml hz7 hk7 (by rw [hm7]; exact HSM.out)
 have cs := Dt ⟨B6, ys6, cap6⟩ ⟨B7, ys7, cap7⟩ w7 (H6.out.grow hg7) h7 (by
  show ys6.map zg = ys7.map zg
  rw [M6.out, hm7])
 have CS := hh_ cs; clear bx fx lx hz7 hk7 hm7 h7 cs; have de : (e1 == e1) = true := by simp
 go_wp2_with (go_at_call 9; ((with_reducible refine CS.out.mono ?_); rintro en w8 ⟨rfl, hg8⟩))
 exact qX_ (v := .bool true) (by simp [results, Tryz.results3, go_sem]) rfl ⟨rfl, G5.trans (hg6.trans (hg7.trans hg8))⟩
