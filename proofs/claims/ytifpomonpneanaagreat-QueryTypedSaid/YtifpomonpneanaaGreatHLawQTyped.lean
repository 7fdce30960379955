/-
 A text of the proof of the law QueryTyped; no condition beside the row's own.
-/
import Derived.Test.YtifpomonpneanaaGreatHLawQ0
import Derived.Test.YtifpomonpneanaaGreatGQa
import Derived.Test.YtifpomonpneanaaGreatGQ
namespace Go.Proofs.YtifpomonpneanaaGreat
open Go.RowKit Go.Calm
set_option linter.unusedSimpArgs false
set_option linter.unusedVariables false
theorem ev_ok2 {ts : List (List Int)} {data : List (List Z)} {p : PL} {s : List Z} (h : evalZ ts p data = (s, 0)) : (colsE ts p).2 = 0 ∧ dataE ts data = 0 ∧ playZ ts data p = (s, 0) := ev_ok h
theorem map_nil_len {ys : List I} (h : ys.map zOf = []) : ys = [] := by simpa using h
set_option maxRecDepth 100000 in
set_option maxHeartbeats 4000000 in
theorem law_qtyped (ts : List (L2 Int)) (At : Option Addr) (nt : Nat) (p : PL) (ds : List S) (Ad : Option Addr) (nd : Nat) (w : World) (hlt : ts.length ≤ reachN) (hl : ∀ t ∈ ts, t.xs.length ≤ reachN) (hts : TSl w At ts) (hp : PX w p) (hds : InS w Ad ds nd) :
  Calls Tryz.prog 4 #[.slice At ts.length nt, p.val, .slice Ad ds.length nd] w fun en w' => en = .returned (.bool true) ∧ Grow w w' := by
 obtain ⟨C, ce, hCE⟩ : ∃ C e, colsE (tabs ts) p = (C, e) := ⟨_, _, rfl⟩
 obtain ⟨a1, e1, hE1⟩ : ∃ a e, evalZ (tabs ts) p (ds.map S.z) = (a, e) := ⟨_, _, rfl⟩
 have c1 := fun W (h : Grow w W) => qcols_any ts At nt p W hlt hl (hts.grow h) (hp.grow h)
 have c2 := fun W (h : Grow w W) => qeval_any ts At nt p ds Ad nd W hlt hl (hts.grow h) (hp.grow h) (hds.grow h)
 unfold ColN at c1
 unfold Gives at c2
 rw [hCE] at c1
 rw [hE1] at c2
 simp only at c1 c2
 unfold PL.val at c1 c2
 have f1 : ce ≠ 0 → C = [] ∧ a1 = [] ∧ e1 = ce := fun h => by
  have h1 := nilE_cols (tabs ts) p (by rw [hCE]; exact h)
  rw [hCE] at h1
  have h2 : evalZ (tabs ts) p (ds.map S.z) = ([], ce) := by unfold evalZ; rw [hCE, if_pos h]
  rw [hE1] at h2
  simp at h2
  exact ⟨h1, h2.1, h2.2⟩
 have f2 : e1 ≠ 0 → a1 = [] := fun h => by
  have h1 := nilE_eval (tabs ts) p (ds.map S.z)
  rw [hE1] at h1
  exact h1 h
 have f3 : e1 = 0 → RightZ a1 ∧ FitZ C a1 := fun h => by
  subst h
  obtain ⟨h1, h2, h3⟩ := ev_ok2 hE1
  have h4 := play_fit h2 p h1 a1 h3
  rw [hCE] at h4
  exact ⟨ev_right hE1, h4⟩
 have f4 : C.length ≤ 8 := by have := colsE_len8 (tabs ts) p; rw [hCE] at this; exact this
 have C1 := Lib.hid c1
 have C2 := Lib.hid c2
 have F := Lib.hid (And.intro f1 (And.intro f2 f3))
 unfold PL.val
 clear c1 c2 hts hp hds hlt hl hCE hE1 f1 f2 f3
 go_enter Tryz.func4, Tryz.ntmps4
 go_upto_region 3 with (go_at_call 18; ((with_reducible refine (alive5 _).mono ?_); rintro e w2 ⟨rfl, hg2⟩))
 refine wp_forget (fun X => Blk X w.heap.size 31 (pC p) ∧ Grow w X) ⟨(Blk.new w _ _).grow hg2, Grow.trans (by repeat (first | (with_reducible exact Grow.refl _) | (with_reducible assumption) | (with_reducible refine Grow.set ?_ (by first | (simp; done) | (simp; omega)) _) | (with_reducible refine Grow.al ?_ _) | (with_reducible refine Grow.drew ?_) | (with_reducible refine Grow.drewN ?_ _) | (with_reducible refine Grow.trans ?_ (by assumption)))) hg2⟩ ?_
 rintro X ⟨BX0, G⟩
 have BX := Lib.hid BX0
 obtain ⟨bx, fx⟩ := BX0.rules
 have lx := BX0.lt
 clear BX0 hg2
 generalize w.heap.size = gx at *
 go_upto_region 4 with (go_at_call 12; ((refine (C1.out _ G).mono ?_); rintro en w3 ⟨B3, n3, rfl, hi3, hn3, hg3⟩))
 have I3 := Lib.hid hi3
 clear hi3 hn3 bx fx lx
 obtain ⟨bx, fx⟩ := (BX.out.grow hg3).rules
 have lx := (BX.out.grow hg3).lt
 go_upto_region 5 with (go_at_call 15; ((refine (C2.out _ (G.trans hg3)).mono ?_); rintro en w4 ⟨B4, ys4, cap4, rfl, hz4, hm4, hk4, hg4⟩))
 have O4 := Lib.hid (And.intro hz4 (And.intro hm4 hk4))
 clear bx fx lx hz4 hm4 hk4
 have G4 := G.trans (hg3.trans hg4)
 by_cases q1 : ce = 0
 ·by_cases q2 : e1 = 0
  ·subst q1 q2
   obtain ⟨hr, hf⟩ := F.out.2.2 rfl
   have hrz : wrongZ (ys4.map zOf) = 0 := by rw [O4.out.2.1]; exact hr.2
   have hin : In w4 ⟨B4, ys4, cap4⟩ := In.sml O4.out.1 O4.out.2.2 (by rw [O4.out.2.1]; exact right_sml hr)
   have cw := fun W (h : Grow w4 W) => wrongz_any ys4 B4 cap4 W hin.ok.1 (hin.z.grow h) hin.ok.2 0 hrz
   have hfit : ∀ y ∈ ys4, fitsE C y.row = 0 := fun y hy => (fits_iff _ _).2 (hf (zOf y) (by rw [← O4.out.2.1]; exact List.mem_map_of_mem hy))
   have hly : ys4.length ≤ 9223372036854775807 := hin.ok.1
   have CW := Lib.hid cw
   have HIN := Lib.hid hin
   have HF := Lib.hid hfit
   clear cw hin hfit hr hf hrz
   go_upto_region 11 with (go_at_call 19; ((with_reducible refine (CW.out _ (Grow.refl _)).mono ?_); rintro en w5 ⟨rfl, hg5⟩))
   go_wp2
   go_loopw [51] (fun i wr => ∃ k : Nat, k ≤ ys4.length ∧ i = .int .i64 k ∧ Grow w5 wr) (fun i _ => ys4.length - (intOf i).toNat)
   case atStart => exact ⟨0, Nat.zero_le _, rfl, Grow.refl _⟩
   case round =>
    obtain ⟨k, hk, rfl, hg⟩ := hrel
    by_cases hltk : k < ys4.length
    ·obtain ⟨y, hyk⟩ : ∃ y, ys4[k]? = some y := ⟨_, List.getElem?_eq_getElem hltk⟩
     obtain ⟨g, o, eB, c1, c2, hv⟩ := (HIN.out.z.grow (hg5.trans hg)) k y hyk
     have hok := HIN.out.ok.2 y (List.mem_of_getElem? hyk)
     have cf := fun W (h : Grow wr W) => fits_any C y.row B3 y.A n3 y.cap W (by omega) hok ((I3.out.grow (hg4.trans (hg5.trans hg))).grow h) (hv.grow h) 0 (HF.out y (List.mem_of_getElem? hyk))
     have CF := Lib.hid cf
     simp only at eB
     subst eB
     clear cf hv hyk hok
     go_wp2_with (go_at_call 20; ((with_reducible refine (CF.out _ (by repeat (first | (with_reducible exact Grow.refl _) | (with_reducible assumption) | (with_reducible refine Grow.set ?_ (by first | (simp; done) | (simp; omega)) _) | (with_reducible refine Grow.al ?_ _) | (with_reducible refine Grow.drew ?_) | (with_reducible refine Grow.drewN ?_ _) | (with_reducible refine Grow.trans ?_ (by assumption))))).mono ?_); rintro e w6 ⟨rfl, hg6⟩))
     go_roundw
     case rel => exact ⟨k + 1, by omega, by go_num, hg.trans (Grow.trans (by repeat (first | (with_reducible exact Grow.refl _) | (with_reducible assumption) | (with_reducible refine Grow.set ?_ (by first | (simp; done) | (simp; omega)) _) | (with_reducible refine Grow.al ?_ _) | (with_reducible refine Grow.drew ?_) | (with_reducible refine Grow.drewN ?_ _) | (with_reducible refine Grow.trans ?_ (by assumption)))) hg6)⟩
     case measure => simp [intOf]; omega
    ·obtain rfl : k = ys4.length := by omega
     go_wp2
     exact bodyPost_ret (v := .bool true) (by simp [results, Tryz.results4, go_sem]) rfl ⟨rfl, G4.trans (hg5.trans hg)⟩
  ·have d2 : (e1 != 0) = true := by simpa using q2
   have e0 := F.out.2.1 q2
   subst q1
   have ey : ys4 = [] := map_nil_len (by rw [O4.out.2.1, e0])
   subst ey
   clear O4 e0
   go_wp2
   exact bodyPost_ret (v := .bool true) (by simp [results, Tryz.results4, go_sem]) rfl ⟨rfl, G4⟩
 ·have d1 : (ce != 0) = true := by simpa using q1
  obtain ⟨e0, e00, e000⟩ := F.out.1 q1
  subst e000
  have ey : ys4 = [] := map_nil_len (by rw [O4.out.2.1, e00])
  subst ey
  subst e0
  clear O4 e00
  have db : (e1 == e1) = true := by simp
  go_wp2
  exact bodyPost_ret (v := .bool true) (by simp [results, Tryz.results4, go_sem]) rfl ⟨rfl, G4⟩
end Go.Proofs.YtifpomonpneanaaGreat
