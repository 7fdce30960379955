/-
  A text of the proof of the law WindowNumbers; no condition beside the row's own.
-/
import Derived.Test.YtamfpppbjaelaaaGVac
import Derived.Test.YtamfpppbjaelaaaGVad
set_option maxRecDepth 100000
set_option maxHeartbeats 8000000
namespace Go.Proofs.Ytamfpppbjaelaaa
open Go.RowKit Go.Calm
set_option linter.unusedSimpArgs false
set_option linter.unusedVariables false
theorem dense_rank (ks : List E) : ∀ q : List (List V), denseQ ks q ≤ rankQ ks q
  | [] => Int.le_refl _
  | r :: q => by
    have h1 := denseQ_bd ks q
    have h2 := dense_rank ks q
    unfold denseQ rankQ
    split <;> omega
theorem dense_pos (ks : List E) : ∀ (q : List (List V)) (r : List V), 1 ≤ denseQ ks (r :: q)
  | [], r => by unfold denseQ newK; rw [if_pos rfl]; simp [denseQ]
  | a :: q, r => by
    have h1 := denseQ_bd ks (a :: q)
    have h2 := dense_pos ks q a
    unfold denseQ
    split <;> omega
def winN : List Ag := [⟨1, .leaf⟩, ⟨2, .leaf⟩, ⟨3, .leaf⟩]
structure NumR (n N : Nat) (y : List V) : Prop where
  len : y.length = n + 3
  k : 1 ≤ (y.getD n nullV').n ∧ (y.getD n nullV').n ≤ N
  r : (y.getD (n + 1) nullV').n ≤ (y.getD n nullV').n
  d : (y.getD (n + 2) nullV').n ≤ (y.getD (n + 1) nullV').n ∧ 1 ≤ (y.getD (n + 2) nullV').n
theorem num_rows {cols : List Int} {ks : List E} {z w : List Z} (h : winZ cols [] ks winN z = (w, 0)) : ∀ y ∈ w, y.2 = 1 ∧ NumR cols.length w.length y.1 := fun y hy => by
  obtain ⟨no, cw, l400, ok⟩ := num_ok h rfl
  obtain ⟨y2, i, u, hu, ey, hi, k3, kn⟩ := no.row y hy
  have ll : (linesW [] ks z).length = cntZ z := (linesW_perm [] ks z).length_eq
  obtain ⟨r, hr⟩ : ∃ r, (linesW [] ks z)[i]? = some r := ⟨_, List.getElem?_eq_getElem (by rw [ll]; exact hi)⟩
  have h2 := toldW_at ks winN _ [] i r hr
  rw [hu] at h2
  simp only [Option.some.injEq] at h2
  have lr := (ok.line (List.mem_of_getElem? hr)).1
  obtain ⟨q, hq⟩ : ∃ q, ((linesW [] ks z).take i).reverse ++ [] = q := ⟨_, rfl⟩
  have lq : q.length = i := by rw [← hq]; simp; omega
  rw [hq] at h2
  have b1 := rankQ_bd ks (r :: q)
  have b2 := dense_rank ks (r :: q)
  have b3 := dense_pos ks q r
  simp only [List.length_cons, lq] at b1
  have t1 := tell_at (ks := ks) (q := q) (wins := winN) (j := 1) (a := ⟨2, .leaf⟩) lr rfl
  have t2 := tell_at (ks := ks) (q := q) (wins := winN) (j := 2) (a := ⟨3, .leaf⟩) lr rfl
  rw [← h2, show valW ks q r ⟨2, .leaf⟩ = intV (rankQ ks (r :: q)) from rfl, intV_n (by omega) (by omega)] at t1
  rw [← h2, show valW ks q r ⟨3, .leaf⟩ = intV (denseQ ks (r :: q)) from rfl, intV_n (by omega) (by omega)] at t2
  have g1 := (getD_bare u (cols.length + 1) (by rw [t1])).1
  have g2 := (getD_bare u (cols.length + 2) (by rw [t2])).1
  rw [← ey, t1] at g1
  rw [← ey, t2] at g2
  have hn := no.len
  refine ⟨y2, ⟨?_, by omega, by rw [g1, kn]; simp only; omega, by rw [g1, g2]; exact ⟨b2, b3⟩⟩⟩
  rw [ey, bareR_len, h2]
  simp [tellW, winN, lr]
theorem law_wnum (cols : List Int) (Ac : Option Addr) (cc : Nat) (ks : List E) (Ak : Option Addr) (ck : Nat) (xs : List I) (A : Option Addr) (c : Nat) (w : World) (hlen : cols.length ≤ 140737488355328) (hlk : ks.length ≤ 140737488355328) (hc : ISl w Ac cols) (hk : ESl w Ak ks) (h : In w ⟨A, xs, c⟩) :
    Calls Try.prog 3 #[.slice Ac cols.length cc, .slice Ak ks.length ck, .slice A xs.length c] w fun en w' => en = .returned (.bool true) ∧ Grow w w' := by
  have cw1 := fun W gw (hg : Grow w W) (b3 : Blk W gw 34 #[.int .i64 1, .int .i64 0, .int .i64 0, .int .i64 0, .string ⟨#[]⟩, .int .i64 0, .slice none 0 0, .int .i64 2, .int .i64 0, .int .i64 0, .int .i64 0, .string ⟨#[]⟩, .int .i64 0, .slice none 0 0, .int .i64 3, .int .i64 0, .int .i64 0, .int .i64 0, .string ⟨#[]⟩, .int .i64 0, .slice none 0 0]) => window_any cols Ac cc [] none 0 ks Ak ck winN (some ⟨gw, 0, none⟩) 3 xs A c W hlen (by simp) hlk (by simp [winN]) (hc.grow hg) (fun i x hx => by simp at hx) (hk.grow hg) (fun i x hx => by
      match i, hx with
      | 0, hx => simp [winN] at hx; subst hx; exact ⟨gw, 0, rfl, ⟨b3.cells rfl, b3.cells rfl, b3.cells rfl, b3.cells rfl, b3.cells rfl, b3.cells rfl, b3.cells rfl⟩, .leaf⟩
      | 1, hx => simp [winN] at hx; subst hx; exact ⟨gw, 0, rfl, ⟨b3.cells rfl, b3.cells rfl, b3.cells rfl, b3.cells rfl, b3.cells rfl, b3.cells rfl, b3.cells rfl⟩, .leaf⟩
      | 2, hx => simp [winN] at hx; subst hx; exact ⟨gw, 0, rfl, ⟨b3.cells rfl, b3.cells rfl, b3.cells rfl, b3.cells rfl, b3.cells rfl, b3.cells rfl, b3.cells rfl⟩, .leaf⟩) (h.grow hg)
  obtain ⟨Z, e, hZ⟩ : ∃ Z e, winZ cols [] ks winN (xs.map zOf) = (Z, e) := ⟨_, _, rfl⟩
  rw [hZ] at cw1
  simp only [winN, List.length_cons, List.length_nil] at cw1
  have HZ := Lib.hid hZ
  have CW := Lib.hid cw1
  have hmm := @run_makeMap Try.prog
  clear h hc hk hZ cw1
  go_enter Try.func3, Try.ntmps3
  go_upto_region 4 with (first
    | (go_at_call 7; ((with_reducible refine (alive15 _).mono ?_); rintro en w2 ⟨rfl, hg2⟩))
    | (go_at_call 8; ((with_reducible refine (CW.out _ _ (hg2.al _) (Blk.new _ _ _)).mono ?_); rintro en w3 ⟨B, ys, cap, rfl, hz3, hm3, hk3, hg3⟩; have Y := Lib.hid (And.intro hz3 hm3); clear hz3 hm3 hk3)))
  have G3 := (hg2.al _).trans hg3
  clear CW hg3 hg2
  by_cases he : e = 0
  · subst he
    obtain ⟨no, _, l400, _⟩ := num_ok HZ.out rfl
    have rows := num_rows HZ.out
    have ly : ys.length = Z.length := by rw [← Y.out.2, List.length_map]
    have hly : ys.length ≤ 400 := by rw [ly, no.len]; exact l400
    have Hrow := Lib.hid (fun y (hy : y ∈ ys) => rows (zOf y) (by rw [← Y.out.2]; exact List.mem_map_of_mem hy))
    have Hinj := Lib.hid (fun y (hy : y ∈ ys) z (hz : z ∈ ys) e => no.inj (zOf y) (by rw [← Y.out.2]; exact List.mem_map_of_mem hy) (zOf z) (by rw [← Y.out.2]; exact List.mem_map_of_mem hz) e)
    have nd : (ys.map zOf).Pairwise (fun a b => a ≠ b) := by
      rw [Y.out.2]
      obtain ⟨_, cw, _, _⟩ := num_ok HZ.out rfl
      exact cw.up.imp (fun {a b} hab e => by rw [e, ordR_selfW] at hab; omega)
    have ND := Lib.hid nd
    have LY := Lib.hid ly
    have hn8 : cols.length + 3 ≤ 8 := by
      obtain ⟨_, _, _, ok⟩ := num_ok HZ.out rfl
      exact ok.n
    clear no l400 rows ly nd
    go_upto_block 0 with fail
    refine wp_forget (fun X => KeySet X w3.heap.size [] ∧ Grow w3 X) ⟨KeySet.new w3, (Grow.refl _).al _⟩ ?_
    generalize hgm : w3.heap.size = gm
    rintro X ⟨ks0, GX0⟩
    have KS0 := Lib.hid ks0
    have HGM := Lib.hid hgm
    clear ks0 hgm hmm
    go_wp2
    go_loopw [37] (fun i wr => ∃ k : Nat, k ≤ ys.length ∧ i = .int .i64 k ∧ KeySet wr gm (((ys.take k).map (fun y => (y.row.getD cols.length nullV').n)).reverse) ∧ Grow w3 wr) (fun i _ => ys.length - (intOf i).toNat)
    case atStart => exact ⟨0, Nat.zero_le _, rfl, KS0.out, GX0⟩
    case round =>
      obtain ⟨k, hk, rfl, hks, hg⟩ := hrel
      have KS := Lib.hid hks
      clear hks
      by_cases hlt : k < ys.length
      · obtain ⟨y, hyk⟩ : ∃ y, ys[k]? = some y := ⟨_, List.getElem?_eq_getElem hlt⟩
        obtain ⟨gx, ox, rfl, c1, c2, hyv⟩ := (Y.out.1.grow hg) k y hyk
        have hym := List.mem_of_getElem? hyk
        obtain ⟨yw, nr⟩ := Hrow.out y hym
        have yw : y.w = 1 := yw
        have ly : y.row.length = cols.length + 3 := nr.len
        have hlt9 := nr.k
        have hr9 := nr.r
        have hd9 := nr.d
        have hnew : (y.row.getD cols.length nullV').n ∉ ((ys.take k).map (fun y => (y.row.getD cols.length nullV').n)).reverse := fun hm => by
          rw [List.mem_reverse, List.mem_map] at hm
          obtain ⟨z, hz, e⟩ := hm
          have hzm := List.mem_of_mem_take hz
          have h1 := Hinj.out z hzm y hym e
          obtain ⟨j, hj⟩ := List.mem_iff_getElem?.1 hz
          have hjk : j < k := by have := (List.getElem?_eq_some_iff.1 hj).1; rw [List.length_take] at this; omega
          have hj2 : ys[j]? = some z := by rw [List.getElem?_take, if_pos hjk] at hj; exact hj
          have h2 := List.pairwise_iff_getElem.1 ND.out j k (by simp; omega) (by simpa using hlt) hjk
          rw [List.getElem_map, List.getElem_map, (List.getElem?_eq_some_iff.1 hj2).2, (List.getElem?_eq_some_iff.1 hyk).2] at h2
          exact h2 h1
        obtain ⟨v0, hv0⟩ : ∃ v, y.row[cols.length]? = some v := ⟨_, List.getElem?_eq_getElem (by omega)⟩
        obtain ⟨v1, hv1⟩ : ∃ v, y.row[cols.length + 1]? = some v := ⟨_, List.getElem?_eq_getElem (by omega)⟩
        obtain ⟨v2, hv2⟩ : ∃ v, y.row[cols.length + 2]? = some v := ⟨_, List.getElem?_eq_getElem (by omega)⟩
        obtain ⟨ga, oa, ea, _, a1, _⟩ := hyv _ v0 hv0
        obtain ⟨_, _, eb, _, b1, _⟩ := hyv _ v1 hv1
        obtain ⟨_, _, ec, _, d1, _⟩ := hyv _ v2 hv2
        rw [ea] at eb ec c1
        simp only [Option.some.injEq, Addr.mk.injEq, and_true] at eb ec
        obtain ⟨rfl, rfl⟩ := eb
        obtain ⟨rfl, rfl⟩ := ec
        have q0 : y.row.getD cols.length nullV' = v0 := by rw [List.getD_eq_getElem?_getD, hv0]; rfl
        have q1 : y.row.getD (cols.length + 1) nullV' = v1 := by rw [List.getD_eq_getElem?_getD, hv1]; rfl
        have q2 : y.row.getD (cols.length + 2) nullV' = v2 := by rw [List.getD_eq_getElem?_getD, hv2]; rfl
        rw [q0] at hnew
        simp only [zOf, q0, q1, q2] at hlt9 hr9 hd9
        have et : (ys.take (k + 1)).map (fun y : I => (y.row.getD cols.length nullV').n) = (ys.take k).map (fun y : I => (y.row.getD cols.length nullV').n) ++ [v0.n] := by rw [take_sn _ hyk, q0]
        obtain ⟨m, hm⟩ : ∃ m, v0.n = m := ⟨_, rfl⟩
        rw [hm] at hnew hlt9 hr9 a1 et
        have ET := Lib.hid et
        have HNEW := Lib.hid hnew
        have d0 : ((1 : Int) != 1) = false := rfl
        have e1 : decide (m < 1) = false := decide_eq_false (by omega)
        have e2 : decide ((ys.length : Int) < m) = false := decide_eq_false (by have := LY.out; omega)
        have e3 : decide (m < v1.n) = false := decide_eq_false (by omega)
        have e4 : decide (v1.n < v2.n) = false := decide_eq_false (by omega)
        have e5 : decide (v2.n < 1) = false := decide_eq_false (by omega)
        have CC := Lib.hid (And.intro a1 (And.intro b1 d1))
        rw [yw] at c2
        have lyr : cols.length + 3 ≤ y.row.length := by omega
        have wp1 : IntKind.i64.wrap ((cols.length : Int) + 1) = (cols.length : Int) + 1 := by rw [IntKind.wrap_i64]; omega
        have wp2 : IntKind.i64.wrap ((cols.length : Int) + 2) = (cols.length : Int) + 2 := by rw [IntKind.wrap_i64]; omega
        have t1 : ((cols.length : Int) + 1).toNat = cols.length + 1 := by omega
        have t2 : ((cols.length : Int) + 2).toNat = cols.length + 2 := by omega
        have p1 : (0 : Int) ≤ (cols.length : Int) + 1 := by omega
        have p2 : (0 : Int) ≤ (cols.length : Int) + 2 := by omega
        have j1 : (cols.length : Int) + 1 < (y.row.length : Int) := by omega
        have j2 : (cols.length : Int) + 2 < (y.row.length : Int) := by omega
        clear q0 q1 q2 hyk hyv hym nr hnew hv0 hv1 hv2 ea et hm yw ly b1 d1 hlt9 hr9 hd9
        have la : ga < wr.heap.size := Grow.lt a1
        go_upto_region 12 with fail
        clear la
        refine wp_forget (fun Z => Blk Z wr.heap.size 39 #[.slice (some ⟨ga, oa, none⟩) y.row.length y.cap, .int .i64 1] ∧ Grow wr Z) ⟨Blk.new _ _ _, (Grow.refl wr).al _⟩ ?_
        generalize wr.heap.size = gz
        rintro Z9 ⟨Bz, Gz⟩
        have BZ := Lib.hid Bz
        have KS1 := Lib.hid (KS.out.grow Gz)
        have LK := Lib.hid (fun W (h : Grow Z9 W) => show (Instr.lookup 36 (.map (some gm)) (.int .i64 m) false).run Try.prog W = .ok (.bool false) W by rw [(KS1.out.grow h).look m, decide_eq_false HNEW.out])
        clear a1 c1 c2 Bz
        apply wp_region_calm 56 (by kernel_rfl) (by kernel_rfl)
        case h' =>
          intro Q0 hQ0
          simp only [List.take_succ_cons, List.take_zero]
          repeat ((first | ((first | apply calm_p rfl | apply calm_y rfl rfl rfl); case h1 => (intro w1 hw1 hF K hK; obtain ⟨bz, fz⟩ := (BZ.out.grow hw1).rules; have a1 := (Gz.trans hw1).cell CC.out.1; have b1 := (Gz.trans hw1).cell CC.out.2.1; have d1 := (Gz.trans hw1).cell CC.out.2.2; have lk := LK.out w1 hw1; go_simp; first | exact hK _ (Grow.refl _))) | apply calm_n rfl rfl rfl rfl); intro K hK; go_simp; apply hK; clear hK K)
          refine calm_nil ?_
          intro w1 hw1 hF
          apply hQ0
          clear hQ0
          simp only [List.drop_succ_cons, List.drop_zero]
          clear hF
          have KS2 := Lib.hid (KS1.out.grow hw1)
          have G2 := hg.trans (Gz.trans hw1)
          go_wp2_with (at_mapUpdate; refine wpList_mapUpdate_set rfl _ _ _ rfl gm _ m rfl rfl rfl KS2.out HNEW.out ?_; intro w7 ks7 gx7)
          have KS7 := Lib.hid (show KeySet w7 gm (((ys.take (k + 1)).map (fun y : I => (y.row.getD cols.length nullV').n)).reverse) by rw [ET.out, List.reverse_append]; exact ks7)
          have G7 : Grow w3 w7 := GX.base G2 (by have := HGM.out; omega) gx7
          clear ks7 gx7
          go_roundw
          case rel => exact ⟨k + 1, by omega, by go_num, KS7.out, G7⟩
          case measure => simp [intOf]; omega
        case hp' => trivial
      · go_wp2
        go_ret
        exact ⟨rfl, G3.trans hg⟩
  · have d1 : (e != 0) = true := by simpa using he
    have hy : ys = [] := by
      have h1 := win_err HZ.out he
      have h2 := Y.out.2
      rw [h1] at h2
      exact List.map_eq_nil_iff.1 h2
    subst hy
    go_wp2
    go_ret
    exact ret_bool (by simp) G3
end Go.Proofs.Ytamfpppbjaelaaa
