/-
  A text of the proof of the law WindowKeeps; no condition beside the row's own.
-/
import Derived.Test.YtamfpppbjaelaaaGVac
import Derived.Test.YtamfpppbjaelaaaGVad
import Derived.Test.YtamfpppbjaelaaaGK
set_option maxRecDepth 100000
set_option maxHeartbeats 4000000
namespace Go.Proofs.Ytamfpppbjaelaaa
open Go.RowKit Go.Calm
set_option linter.unusedSimpArgs false
set_option linter.unusedVariables false
theorem cut_any (n : Nat) (A : Option Addr) (xs : List I) (c : Nat) (w : World) (hl : xs.length ≤ 400) (hz : ZIn w A xs) (hn : ∀ x ∈ xs, n ≤ x.row.length ∧ x.row.length ≤ 8 ∧ x.row.length ≤ x.cap) :
    Calls Try.prog 15 #[.slice A xs.length c, .int .i64 n] w fun en w' => GivesS w w' en (ofZ (cutL n (xs.map zOf))).1 := by
  have Hz := Lib.hid hz
  have Hn := Lib.hid hn
  obtain ⟨R, hR⟩ : ∃ R, ofZ (cutL n (xs.map zOf)) = R := ⟨_, rfl⟩
  rw [hR]
  have HR := Lib.hid hR
  clear hz hn hR
  go_enter Try.func15, Try.ntmps15
  go_wp2
  go_loopw [5, 12] (fun t i wr => ∃ k : Nat, k ≤ xs.length ∧ i = .int .i64 k ∧ wr.ownsRow w.heap.size 39 2 t k (flatI ((xs.take k).map (fun x => I.mk x.A (x.row.take n) x.cap x.w))) ∧ Grow w wr) (fun _ i _ => xs.length - (intOf i).toNat)
  case atStart => exact ⟨0, Nat.zero_le _, rfl, World.ownsRow_nil _ _ _ _, Grow.refl _⟩
  case round =>
    obtain ⟨k, hk, rfl, own, hg⟩ := hrel
    have Own := Lib.hid own
    obtain ⟨Bo, capo, rfl⟩ := own_slice own
    clear own
    by_cases hlt : k < xs.length
    · obtain ⟨x, hxk⟩ : ∃ x, xs[k]? = some x := ⟨_, List.getElem?_eq_getElem hlt⟩
      obtain ⟨gx, ox, rfl, c1, c2, hxv⟩ := (Hz.out.grow hg) k x hxk
      obtain ⟨n1, n2, n3⟩ := Hn.out x (List.mem_of_getElem? hxk)
      have es := take_sn (fun x : I => I.mk x.A (x.row.take n) x.cap x.w) hxk
      have ES := Lib.hid es
      have nc : n ≤ x.cap := by omega
      clear hxk hxv es
      go_upto_region 5 with fail
      refine wp_forget (fun X => Blk X wr.heap.size 39 #[.slice x.A x.row.length x.cap, .int .i64 x.w] ∧ Grow wr X) ⟨Blk.new _ _ _, (Grow.refl wr).al _⟩ ?_
      generalize wr.heap.size = gz
      rintro X ⟨Bx, Gx⟩
      have BX := Lib.hid Bx
      clear c1 c2 Bx
      have l1 : (x.row.take n).length = n := by rw [List.length_take]; omega
      have L1 := Lib.hid l1
      clear l1
      apply wp_region_calm 9 (by kernel_rfl) (by kernel_rfl)
      case h' =>
        intro Q0 hQ0
        simp only [List.take_succ_cons, List.take_zero]
        repeat ((first | ((first | apply calm_p rfl | apply calm_y rfl rfl rfl); case h1 => (intro w1 hw1 hF K hK; obtain ⟨bx, fx⟩ := (BX.out.grow hw1).rules; go_simp; first | exact hK _ (Grow.refl _))) | apply calm_n rfl rfl rfl rfl); intro K hK; go_simp; apply hK; clear hK K)
        apply calm_fp (fun v W => ∃ g, v = .slice (some ⟨g, 0, none⟩) 1 1 ∧ Blk W g 39 #[.slice x.A n x.cap, .int .i64 x.w]) rfl
        case h1 =>
          intro w1 hw1 hF K1 hK1
          go_simp
          exact hK1 _ _ ((Grow.refl _).al _) ⟨_, rfl, Blk.new _ _ _⟩
        intro v24 K1 hK1
        go_simp
        apply hK1
        clear hK1 K1
        refine calm_nil ?_
        intro w1 hw1 hF
        apply hQ0
        clear hQ0
        simp only [List.drop_succ_cons, List.drop_zero]
        obtain ⟨g, rfl, bg⟩ := hF _ (List.mem_cons_self ..)
        have BG := Lib.hid bg
        have Own6 := Lib.hid (own_grow Own.out (Gx.trans hw1))
        have G6 := hg.trans (Gx.trans hw1)
        clear hF bg
        go_wp2_with (at_builtin; refine wpList_append_src rfl _ _ rfl w.heap.size _ _ _ rfl Own6.out _ [I.mk x.A (x.row.take n) x.cap x.w] rfl (src_one L1.out BG.out) (by simp; omega) (by have := G6.size; omega) ?_; intro v7 w7 own7 gr7)
        have G7 : Grow w w7 := grow_own G6 gr7 Own6.out
        have Own7 := Lib.hid own7
        clear own7 gr7
        go_roundw
        case rel => exact ⟨k + 1, by omega, by go_num, by rw [ES.out]; simpa using Own7.out, G7⟩
        case measure => simp [intOf]; omega
      case hp' => exact ⟨fun v w w' hg ⟨g, e, h⟩ => ⟨g, e, h.grow hg⟩, trivial⟩
    · obtain rfl : k = xs.length := by omega
      have own := Own.out
      rw [List.take_length] at own
      obtain ⟨B, cap, e9, hz, hk⟩ := own_zin2 own (fun y hy => by
        obtain ⟨x, hx, rfl⟩ := List.mem_map.1 hy
        exact fun i v hi => ((Hz.out.vsl x hx).grow hg) i v (by
          have := List.getElem?_take (l := x.row) (i := n) (j := i)
          simp only at hi
          rw [this] at hi
          split at hi
          · exact hi
          · cases hi))
      simp only [Value.slice.injEq] at e9
      obtain ⟨rfl, h9, rfl⟩ := e9
      clear h9
      have ec : (xs.map (fun x => I.mk x.A (x.row.take n) x.cap x.w)).map zOf = cutL n (xs.map zOf) := by unfold cutL; rw [List.map_map, List.map_map]; rfl
      have co := zof_any (xs.map (fun x => I.mk x.A (x.row.take n) x.cap x.w)) Bo capo wr (by simp; omega) hz (fun y hy => by
        obtain ⟨x, hx, rfl⟩ := List.mem_map.1 hy
        have := (Hn.out x hx).2.1
        simp only [List.length_take]
        omega)
      rw [ec, HR.out, List.length_map] at co
      clear hz hk ec own
      go_wp2_with (go_at_call 36; ((with_reducible refine co.mono ?_); rintro en w7 ⟨C, zs, cap2, rfl, hz3, hm3, hk3, hg7⟩; have Out := Lib.hid (And.intro hz3 (And.intro hm3 hk3)); clear hz3 hm3 hk3))
      go_ret
      exact ⟨C, zs, cap2, rfl, Out.out.1, Out.out.2.1, Out.out.2.2, hg.trans hg7⟩
theorem law_wkeeps (cols : List Int) (Ac : Option Addr) (cc : Nat) (ps : List E) (Ap : Option Addr) (cp : Nat) (ks : List E) (Ak : Option Addr) (ck : Nat) (wins : List Ag) (Aw : Option Addr) (cw : Nat) (xs : List I) (A : Option Addr) (c : Nat) (w : World) (hlen : cols.length ≤ 140737488355328) (hlp : ps.length ≤ 140737488355328) (hlk : ks.length ≤ 140737488355328) (hlw : wins.length ≤ 140737488355328) (hc : ISl w Ac cols) (hp : ESl w Ap ps) (hk : ESl w Ak ks) (hw : AgSl w Aw wins) (h : In w ⟨A, xs, c⟩) :
    Calls Try.prog 5 #[.slice Ac cols.length cc, .slice Ap ps.length cp, .slice Ak ks.length ck, .slice Aw wins.length cw, .slice A xs.length c] w fun en w' => en = .returned (.bool true) ∧ Grow w w' := by
  have HI := Lib.hid h
  have cw1 := fun W (hg : Grow w W) => window_p cols Ac cc ps Ap cp ks Ak ck wins Aw cw xs A c W hlen hlp hlk hlw (hc.grow hg) (hp.grow hg) (hk.grow hg) (hw.grow hg) (h.grow hg)
  have cpz := fun W (hg : Grow w W) => pos_any ⟨A, xs, c⟩ W (HI.out.grow hg)
  obtain ⟨Z, e, hZ⟩ : ∃ Z e, winZ cols ps ks wins (xs.map zOf) = (Z, e) := ⟨_, _, rfl⟩
  rw [hZ] at cw1
  obtain ⟨P, f, hP⟩ : ∃ P f, eachZ posF (S.mk A xs c).z = (P, f) := ⟨_, _, rfl⟩
  rw [hP] at cpz
  have HZ := Lib.hid hZ
  have HP := Lib.hid hP
  clear h hc hp hk hw hZ hP
  go_enter Try.func5, Try.ntmps5
  go_upto_region 5 with (first
    | (go_at_call 7; ((with_reducible refine (alive15 _).mono ?_); rintro en w2 ⟨rfl, hg2⟩))
    | (go_at_call 8; ((with_reducible refine (cw1 _ hg2).mono ?_); rintro en w3 ⟨B, ys, cap, rfl, hz3, hm3, hk3, hp3, hg3⟩; have Y := Lib.hid (And.intro hz3 (And.intro hm3 hp3)); clear hz3 hm3 hk3 hp3))
    | (go_at_call 14; ((with_reducible refine (cpz _ (hg2.trans hg3)).mono ?_); rintro en w4 ⟨C, zs, cap4, rfl, hz4, hm4, hk4, hg4⟩; have Q := Lib.hid (And.intro hz4 hm4); clear hz4 hm4 hk4)))
  have G4 := hg2.trans (hg3.trans hg4)
  clear cw1 cpz
  by_cases he : e = 0
  · subst he
    obtain ⟨kl, kw, ko⟩ := keeps_plain HZ.out
    obtain ⟨rfl, rfl⟩ : P = eachL posF (xs.map zOf) ∧ f = 0 := by
      have h1 := HP.out
      unfold eachZ at h1
      rw [if_neg (by show ¬ wrongZ (xs.map zOf) ≠ 0; rw [kw]; simp)] at h1
      simp only [Prod.mk.injEq] at h1
      exact ⟨h1.1.symm, h1.2.symm⟩
    have hrow : ∀ y ∈ ys, y.row.length = cols.length + wins.length := fun y hy => kl (zOf y) (by rw [← Y.out.2.1]; exact List.mem_map_of_mem hy)
    obtain ⟨ok, _, hs⟩ := win_ok HZ.out
    have hn8 := ok.n
    obtain ⟨_, ww, _⟩ := sum_ok ok.told hs
    have ly : ys.length ≤ 400 := by
      have h1 := (SM.of ww).len
      rw [← Y.out.2.1, List.length_map] at h1
      exact h1
    have Hrow := Lib.hid hrow
    have cc1 := fun W (hg : Grow w3 W) => cut_any cols.length B ys cap W ly (Y.out.1.grow hg) (fun y hy => by have h1 := hrow y hy; exact ⟨by omega, by omega, Y.out.2.2 y hy⟩)
    rw [Y.out.2.1, ko] at cc1
    have smp : smlZ (eachL posF (xs.map zOf)) := by
      obtain ⟨s, h1, _, h2, _⟩ := pos_sm (SM.of kw) (by omega) (by omega) (by omega)
      have e : s = eachL posF (xs.map zOf) := by
        unfold eachZ at h1
        rw [if_neg (by rw [kw]; simp)] at h1
        simp only [Prod.mk.injEq, and_true] at h1
        exact h1.symm
      rw [← e]
      exact ⟨h2.len, h2.ok⟩
    have SMP := Lib.hid smp
    clear kl kw ko hrow ok hs ww smp
    go_wp2
    go_loopw [44] (fun i wr => ∃ k : Nat, k ≤ ys.length ∧ i = .int .i64 k ∧ Grow w4 wr) (fun i _ => ys.length - (intOf i).toNat)
    case atStart => exact ⟨0, Nat.zero_le _, rfl, Grow.refl _⟩
    case round =>
      obtain ⟨k, hk, rfl, hg⟩ := hrel
      by_cases hlt : k < ys.length
      · obtain ⟨y, hyk⟩ : ∃ y, ys[k]? = some y := ⟨_, List.getElem?_eq_getElem hlt⟩
        obtain ⟨gx, ox, rfl, c1, c2, _⟩ := (Y.out.1.grow (hg4.trans hg)) k y hyk
        have d0 : ((y.row.length : Int) != (cols.length : Int) + (wins.length : Int)) = false := by
          have := Hrow.out y (List.mem_of_getElem? hyk)
          simp; omega
        clear hyk
        go_wp2
        go_roundw
        case rel => exact ⟨k + 1, by omega, by go_num, hg.al _⟩
        case measure => simp [intOf]; omega
      · go_wp2_with (first
          | (go_at_call 15; ((with_reducible refine (cc1 _ (hg4.trans hg)).mono ?_); rintro en w6 ⟨D, ds, cd, rfl, hz6, hm6, _, hg6⟩; have DD := Lib.hid (And.intro hz6 hm6); clear hz6 hm6))
          | (go_at_call 13; ((with_reducible refine (same_true ds zs D C cd cap4 _ DD.out.1 (Q.out.1.grow (hg.trans hg6)) (by rw [DD.out.2, Q.out.2]) (by rw [DD.out.2]; exact SMP.out)).mono ?_); rintro en w7 ⟨rfl, hg7⟩)))
        go_ret
        exact ⟨rfl, G4.trans (hg.trans (hg6.trans hg7))⟩
  · have d1 : (e != 0) = true := by simpa using he
    have hy : ys = [] := by
      have h1 := win_err HZ.out he
      have h2 := Y.out.2.1
      rw [h1] at h2
      exact List.map_eq_nil_iff.1 h2
    subst hy
    go_wp2
    go_ret
    exact ret_bool (by simp) G4
end Go.Proofs.Ytamfpppbjaelaaa
