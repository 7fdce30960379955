/-
  A text of the proof of the law WindowParts; no condition beside the row's own.
-/
import Derived.Test.YtamfpppbjaelaaaGVac
import Derived.Test.YtamfpppbjaelaaaGVaf
import Derived.Test.YtamfpppbjaelaaaGI
set_option maxRecDepth 100000
set_option maxHeartbeats 8000000
namespace Go.Proofs.Ytamfpppbjaelaaa
open Go.RowKit Go.Calm
set_option linter.unusedSimpArgs false
set_option linter.unusedVariables false
abbrev put6 (w : World) (g : Nat) (a b c d e f : Value) : World := (((((w.setCell ⟨g, 0, none⟩ a).setCell ⟨g, 1, none⟩ b).setCell ⟨g, 2, none⟩ c).setCell ⟨g, 3, none⟩ d).setCell ⟨g, 4, none⟩ e).setCell ⟨g, 5, none⟩ f
theorem bput6 {w : World} {g : Nat} {t : TypeId} {a0 b0 c0 d0 e0 f0 : Value} (h : Blk w g t #[a0, b0, c0, d0, e0, f0]) (a b c d e f : Value) : Blk (put6 w g a b c d e f) g t #[a, b, c, d, e, f] := by
  have := (((((h.set 0 a).set 1 b).set 2 c).set 3 d).set 4 e).set 5 f
  simpa using this
theorem gput6 {u w : World} (h : Grow u w) {g : Nat} (hg : u.heap.size ≤ g) (a b c d e f : Value) : Grow u (put6 w g a b c d e f) := (((((h.set (p := ⟨g, 0, none⟩) hg _).set (p := ⟨g, 1, none⟩) hg _).set (p := ⟨g, 2, none⟩) hg _).set (p := ⟨g, 3, none⟩) hg _).set (p := ⟨g, 4, none⟩) hg _).set (p := ⟨g, 5, none⟩) hg _
theorem far6 {w : World} {k g : Nat} {t : TypeId} {cs : Array Value} (h : Blk w k t cs) (hn : k ≠ g) (a b c d e f : Value) : Blk (put6 w g a b c d e f) k t cs := (((((h.far (p := ⟨g, 0, none⟩) hn _).far (p := ⟨g, 1, none⟩) hn _).far (p := ⟨g, 2, none⟩) hn _).far (p := ⟨g, 3, none⟩) hn _).far (p := ⟨g, 4, none⟩) hn _).far (p := ⟨g, 5, none⟩) hn _
abbrev isC (key : Int) (v : V) : Array Value := #[.int .i64 2, .int .i64 0, .int .i64 0, .string ⟨#[]⟩, .int .i64 key, .slice none 0 0, .int .i64 1, .int .i64 v.k, .int .i64 v.n, .string v.s, .int .i64 0, .slice none 0 0]
def pW (v : V) (kn : Nat) (y : I) : Bool := isB (eqV (y.row.getD kn nullV') v) true
theorem ex_litK (w : World) {v : V} (hv : VB v) : EX w (litK v) := .mk (Nat.zero_le _) (fun i hi => absurd hi (Nat.not_lt_zero _)) (fun i hi => absurd hi (Nat.not_lt_zero _)) hv ⟨⟨by decide, by decide⟩, ⟨by decide, by decide⟩⟩
theorem law_wparts (cols : List Int) (Ac : Option Addr) (cc : Nat) (key : Int) (ks : List E) (Ak : Option Addr) (ck : Nat) (wins : List Ag) (Aw : Option Addr) (cw : Nat) (xs : List I) (A : Option Addr) (c : Nat) (v : V) (w : World) (hlen : cols.length ≤ 140737488355328) (hlk : ks.length ≤ 140737488355328) (hlw : wins.length ≤ 140737488355328) (hkey : inI64 key) (hv : VB v) (hc : ISl w Ac cols) (hk : ESl w Ak ks) (hw : AgSl w Aw wins) (h : In w ⟨A, xs, c⟩) :
    Calls Try.prog 4 #[.slice Ac cols.length cc, .int .i64 key, .slice Ak ks.length ck, .slice Aw wins.length cw, .slice A xs.length c, v.val] w fun en w' => en = .returned (.bool true) ∧ Grow w w' := by
  have cw1 := fun W gk (hg : Grow w W) (b : Blk W gk 32 #[.int .i64 (colK key).kind, .int .i64 (colK key).v.k, .int .i64 (colK key).v.n, .string (colK key).v.s, .int .i64 (colK key).col, .slice (colK key).A (colK key).n (colK key).cap]) B ys cap (hz : In W ⟨B, ys, cap⟩) => window_any cols Ac cc [colK key] (some ⟨gk, 0, none⟩) 1 ks Ak ck wins Aw cw ys B cap W hlen (by simp) hlk hlw (hc.grow hg) (fun i x hx => by
      match i, hx with
      | 0, hx => simp at hx; subst hx; exact ⟨gk, 0, rfl, ⟨b.cells rfl, b.cells rfl, b.cells rfl, b.cells rfl, b.cells rfl, b.cells rfl⟩, ex_col _ _ hkey⟩) (hk.grow hg) (hw.grow hg) hz
  simp only [List.length_singleton] at cw1
  have HI := fun W (hg : Grow w W) => h.grow hg
  have cf1 := fun W g (hg : Grow w W) (ex : EX W (isK key v (some ⟨g, 0, none⟩))) => filter_any cols Ac cc (isK key v (some ⟨g, 0, none⟩)) xs A c W (by omega) (hc.grow hg) ex (h.grow hg)
  obtain ⟨Z, e, hZ⟩ : ∃ Z e, winZ cols [colK key] ks wins (xs.map zOf) = (Z, e) := ⟨_, _, rfl⟩
  have cwz := fun W gk hg b => cw1 W gk hg b A xs c (HI W hg)
  rw [hZ] at cwz
  have HZ := Lib.hid hZ
  have CW := Lib.hid cwz
  have CP := Lib.hid cw1
  have CF := Lib.hid cf1
  clear h hc hk hw hZ cw1 cwz cf1 HI
  unfold V.val
  go_enter Try.func4, Try.ntmps4
  go_upto_region 1 with fail
  refine wp_forget (fun X => Blk X w.heap.size 30 #[.int .i64 v.k, .int .i64 v.n, .string v.s] ∧ Grow w X) ⟨Blk.new _ _ _, (Grow.refl w).al _⟩ ?_
  generalize w.heap.size = gx
  rintro X ⟨Bx, GX1⟩
  have BX := Lib.hid Bx
  clear Bx
  go_upto_region 3 with (go_at_call 7; ((with_reducible refine (alive15 _).mono ?_); rintro en w2 ⟨rfl, hg2⟩))
  obtain ⟨bx, fx⟩ := (BX.out.grow hg2).rules
  have G2 := GX1.trans hg2
  by_cases k0 : key < 0
  · have d0 : decide (key < 0) = true := decide_eq_true k0
    go_wp2
    go_ret
    exact ⟨rfl, G2⟩
  have d0 : decide (key < 0) = false := decide_eq_false k0
  by_cases k1 : (cols.length : Int) ≤ key
  · have d1 : decide ((cols.length : Int) ≤ key) = true := decide_eq_true k1
    go_wp2
    go_ret
    exact ⟨rfl, G2⟩
  have d1 : decide ((cols.length : Int) ≤ key) = false := decide_eq_false k1
  by_cases k2 : v.k = 1
  · have d2 : (v.k == 1) = true := by simpa using k2
    go_wp2
    go_ret
    exact ⟨rfl, G2⟩
  have d2 : (v.k == 1) = false := by simpa using k2
  go_upto_region 5 with fail
  clear bx fx
  apply wp_region_calm 7 (by kernel_rfl) (by kernel_rfl)
  case h' =>
    intro Q0 hQ0
    simp only [List.take_succ_cons, List.take_zero]
    repeat ((first | ((first | apply calm_p rfl | apply calm_y rfl rfl rfl); case h1 => (intro w1 hw1 hF K hK; obtain ⟨bx, fx⟩ := (BX.out.grow (hg2.trans hw1)).rules; go_simp; first | exact hK _ (Grow.refl _) | (go_at_call 9; ((with_reducible refine (col15_any _ _).mono ?_); rintro e w' ⟨rfl, hg⟩; exact ⟨_, rfl, hK _ hg⟩)))) | apply calm_n rfl rfl rfl rfl); intro K hK; go_simp; apply hK; clear hK K)
    apply calm_fp (fun v' W => ∃ g, v' = .slice (some ⟨g, 0, none⟩) 2 2 ∧ Blk W g 32 (isC key v)) rfl
    case h1 =>
      intro w1 hw1 hF K hK
      go_simp
      exact hK _ _ ((Grow.refl _).al _) ⟨_, rfl, Blk.new _ _ _⟩
    intro v41 K hK
    go_simp
    apply hK
    clear hK K
    apply calm_fp (fun v' W => ∃ g, v' = (isK key v (some ⟨g, 0, none⟩)).val ∧ Blk W g 32 (isC key v)) rfl
    case h1 =>
      intro w1 hw1 hF K hK
      obtain ⟨g, hv', hX⟩ := hF _ (List.mem_cons_self ..) ⟨_, rfl, by decide⟩
      subst hv'
      go_simp
      exact hK _ _ (Grow.refl _) ⟨g, rfl, hX⟩
    intro v42 K hK
    go_simp
    apply hK
    clear hK K
    apply calm_fp (fun v' W => ∃ g, v' = .pointer (some ⟨g, 0, none⟩) ∧ w2.heap.size ≤ g ∧ Blk W g 32 #[.int .i64 0, .int .i64 0, .int .i64 0, .string ⟨#[]⟩, .int .i64 0, .slice none 0 0]) rfl
    case h1 =>
      intro w1 hw1 hF K hK
      go_simp
      exact hK _ _ ((Grow.refl _).al _) ⟨_, rfl, hw1.size, Blk.new _ _ _⟩
    intro v13 K hK
    go_simp
    apply hK
    clear hK K
    refine calm_nil ?_
    intro w1 hw1 hF
    apply hQ0
    clear hQ0
    simp only [List.drop_succ_cons, List.drop_zero]
    obtain ⟨g13, rfl, hg13, B13⟩ := hF _ (List.mem_cons_self ..)
    obtain ⟨gk, rfl, EK⟩ := hF _ (List.mem_cons_of_mem _ (List.mem_cons_self ..))
    clear hF
    have hne : gk ≠ g13 := fun e => by
      subst e
      unfold Blk at EK B13
      rw [EK] at B13
      simp [isC] at B13
    have B13' := bput6 B13 (.int .i64 6) (.int .i64 0) (.int .i64 0) (.string ⟨#[]⟩) (.int .i64 0) (.slice (some ⟨gk, 0, none⟩) 2 2)
    have G13 := gput6 hw1 hg13 (.int .i64 6) (.int .i64 0) (.int .i64 0) (.string ⟨#[]⟩) (.int .i64 0) (.slice (some ⟨gk, 0, none⟩) 2 2)
    have E13 := far6 EK hne (.int .i64 6) (.int .i64 0) (.int .i64 0) (.string ⟨#[]⟩) (.int .i64 0) (.slice (some ⟨gk, 0, none⟩) 2 2)
    obtain ⟨b13, f13⟩ := B13.rules
    clear B13 EK
    go_upto_region 6 with fail
    refine wp_forget (fun W => Blk W g13 32 #[.int .i64 6, .int .i64 0, .int .i64 0, .string ⟨#[]⟩, .int .i64 0, .slice (some ⟨gk, 0, none⟩) 2 2] ∧ Blk W gk 32 (isC key v) ∧ Grow w2 W) ⟨B13', E13, G13⟩ ?_
    clear B13' E13 G13 b13 f13 hw1 w1
    rintro X3 ⟨B13, EK, G3⟩
    have ek : EX X3 (isK key v (some ⟨gk, 0, none⟩)) := ex_two (k := 6) (t := 32) (colK key) (litK v) EK (ex_col _ _ hkey) (ex_litK _ hv) ⟨by decide, by decide⟩
    have EK := Lib.hid ek
    have B13 := Lib.hid B13
    have BX3 := Lib.hid (BX.out.grow (hg2.trans G3))
    replace G3 := G2.trans G3
    clear G2 hg2 BX hne hg13
    go_upto_region 7 with (first
      | (go_at_call 9; ((with_reducible refine (col15_any key _).mono ?_); rintro en w4 ⟨rfl, hg4⟩))
      | (go_at_call 8; ((with_reducible refine (CW.out _ _ ((G3.trans hg4).al _) (Blk.new _ _ _)).mono ?_); rintro en w5 ⟨B, ys, cap, rfl, hz5, hm5, hk5, hg5⟩; have Y := Lib.hid (And.intro hz5 hm5); clear hz5 hm5 hk5)))
    have G35 : Grow X3 w5 := (hg4.al _).trans hg5
    clear CW hg4 hg5
    obtain ⟨b13, f13⟩ := (B13.out.grow G35).rules
    have cf : Calls Try.prog 10 #[.slice Ac cols.length cc, .agg #[.int .i64 6, .int .i64 0, .int .i64 0, .string ⟨#[]⟩, .int .i64 0, .slice (some ⟨gk, 0, none⟩) 2 2], .slice A xs.length c] w5 fun en w' => Gives w5 w' en (filterZ cols (isK key v (some ⟨gk, 0, none⟩)) (xs.map zOf)) := CF.out w5 gk (G3.trans G35) (EK.out.grow G35)
    obtain ⟨P, f, hP⟩ : ∃ P f, filterZ cols (isK key v (some ⟨gk, 0, none⟩)) (xs.map zOf) = (P, f) := ⟨_, _, rfl⟩
    rw [hP] at cf
    have HP := Lib.hid hP
    clear hP CF
    go_upto_region 8 with (go_at_call 10; ((with_reducible refine cf.mono ?_); rintro en w6 ⟨C, ps, capp, rfl, hz6, hm6, hk6, hg6⟩; have Q := Lib.hid (And.intro hz6 (And.intro hm6 hk6)); clear hz6 hm6 hk6))
    clear cf b13 f13
    have G6 := (G3.trans G35).trans hg6
    have BX6 := Lib.hid (BX3.out.grow (G35.trans hg6))
    by_cases he : e = 0
    · by_cases hf : f = 0
      · subst he hf
        obtain ⟨rvv, hW⟩ := parts_plain k0 k1 HZ.out HP.out
        obtain ⟨WW, hWW⟩ : ∃ q, Z.filter (fun y => isB (eqV (y.1.getD key.toNat nullV') v) true) = q := ⟨_, rfl⟩
        rw [hWW] at hW
        have inP : In w6 ⟨C, ps, capp⟩ := In.sml Q.out.1 Q.out.2.2 (by
          rw [Q.out.2.1]
          have := filter_sml cols (isK key v (some ⟨gk, 0, none⟩)) (xs.map zOf)
          rw [HP.out] at this
          exact this)
        have cp : ∀ W g, Grow w6 W → Blk W g 32 #[.int .i64 (colK key).kind, .int .i64 (colK key).v.k, .int .i64 (colK key).v.n, .string (colK key).v.s, .int .i64 (colK key).col, .slice (colK key).A (colK key).n (colK key).cap] → Calls Try.prog 8 #[.slice Ac cols.length cc, .slice (some ⟨g, 0, none⟩) 1 1, .slice Ak ks.length ck, .slice Aw wins.length cw, .slice C ps.length capp] W fun en w' => Gives W w' en (WW, 0) := fun W g hg b => by
          have h1 := CP.out W g (G6.trans hg) b C ps capp (inP.grow hg)
          rw [Q.out.2.1, hW] at h1
          exact h1
        have CPZ := Lib.hid cp
        obtain ⟨ok, l400, hs⟩ := win_ok HZ.out
        obtain ⟨cwz, wwz, _⟩ := sum_ok ok.told hs
        have smw := SM.of wwz
        have hn8 := ok.n
        have ly : ys.length ≤ 400 := by
          have h1 := smw.len
          rw [← Y.out.2, List.length_map] at h1
          exact h1
        have hrow : ∀ y ∈ ys, y.row.length = cols.length + wins.length ∧ ∀ u ∈ y.row, RV u := fun y hy => by
          have hz : zOf y ∈ Z := by rw [← Y.out.2]; exact List.mem_map_of_mem hy
          refine ⟨?_, fun u hu => smw.rv (zOf y) hz u hu⟩
          exact (keeps_plain HZ.out).1 (zOf y) hz
        have Hrow := Lib.hid hrow
        have HWW := Lib.hid hWW
        have Y6 := Lib.hid (Y.out.1.grow hg6)
        have lPW : WW.length ≤ 400 := by
          rw [← hWW]
          exact Nat.le_trans (List.length_filter_le _ _) smw.len
        have rowW : ∀ y ∈ WW, y.1.length ≤ 8 := fun y hy => by
          rw [← hWW] at hy
          exact (smw.ok y (List.mem_filter.1 hy).1).1
        have RW := Lib.hid rowW
        clear cp inP hW hWW ok hs cwz wwz smw hrow CP rowW hg6 G35
        go_upto_region 11 with (first
          | (go_at_call 9; ((with_reducible refine (col15_any key _).mono ?_); rintro en w7 ⟨rfl, hg7⟩))
          | (go_at_call 8; ((with_reducible refine (CPZ.out _ _ (hg7.al _) (Blk.new _ _ _)).mono ?_); rintro en w8 ⟨D, az, capa, rfl, hz8, hm8, hk8, hg8⟩; have O := Lib.hid (And.intro hz8 hm8); clear hz8 hm8 hk8)))
        have G68 : Grow w6 w8 := (hg7.al _).trans hg8
        have G8 := G6.trans G68
        have Y8 := Lib.hid (Y6.out.grow G68)
        have BX8 := Lib.hid (BX6.out.grow G68)
        clear hg7 hg8 CPZ Y6 BX6 BX3 EK B13 G3
        have p1 : (0 : Int) ≤ key := k0
        clear k0
        obtain ⟨kn, hkn⟩ : ∃ kn, key.toNat = kn := ⟨_, rfl⟩
        have KN := Lib.hid hkn
        have hk8 : kn < cols.length := by omega
        rw [hkn] at HWW
        clear hkn k1
        go_wp2
        go_loopw [19, 80] (fun t i wr => ∃ k : Nat, k ≤ ys.length ∧ i = .int .i64 k ∧ wr.ownsRow w8.heap.size 39 2 t ((ys.take k).filter (pW v kn)).length (flatI ((ys.take k).filter (pW v kn))) ∧ Grow w8 wr) (fun _ i _ => ys.length - (intOf i).toNat)
        case atStart => exact ⟨0, Nat.zero_le _, rfl, World.ownsRow_nil _ _ _ _, Grow.refl _⟩
        case round =>
          obtain ⟨k, hk, rfl, own, hg⟩ := hrel
          have Own := Lib.hid own
          obtain ⟨Bo, capo, rfl⟩ := own_slice own
          clear own
          by_cases hlt : k < ys.length
          · obtain ⟨y, hyk⟩ : ∃ y, ys[k]? = some y := ⟨_, List.getElem?_eq_getElem hlt⟩
            obtain ⟨gx1, ox, rfl, c1, c2, hyv⟩ := (Y8.out.grow hg) k y hyk
            obtain ⟨ly8, hrv⟩ := Hrow.out y (List.mem_of_getElem? hyk)
            have ly9 : cols.length ≤ y.row.length := by omega
            clear ly8
            obtain ⟨v0, hv0⟩ : ∃ u, y.row[kn]? = some u := ⟨_, List.getElem?_eq_getElem (by omega)⟩
            have r0 := hrv v0 (List.mem_of_getElem? hv0)
            obtain ⟨gb, ob, ea, a1, a2, a3⟩ := hyv _ v0 hv0
            rw [ea] at c1
            have q0 : y.row.getD kn nullV' = v0 := by rw [List.getD_eq_getElem?_getD, hv0]; rfl
            have et : (ys.take (k + 1)).filter (pW v kn) = (ys.take k).filter (pW v kn) ++ if isB (eqV v0 v) true then [y] else [] := by
              rw [List.take_add_one, hyk, List.filter_append]
              congr 1
              simp only [Option.toList, List.filter_cons, List.filter_nil, pW, q0]
            have ET := Lib.hid et
            have lft : ((ys.take k).filter (pW v kn)).length ≤ k := Nat.le_trans (List.length_filter_le _ _) (by rw [List.length_take]; omega)
            have ce := req_any v0 v (cmp_ord v0 v r0 rvv)
            have ci := is_any (eqV v0 v) true
            have j1 : key < (y.row.length : Int) := by have := KN.out; omega
            have CC := Lib.hid (And.intro a1 (And.intro a2 a3))
            have EA := Lib.hid ea
            have kn2 := KN.out
            clear hyk hyv hv0 hrv q0 et ea r0
            obtain ⟨b, hb⟩ : ∃ b, isB (eqV v0 v) true = b := ⟨_, rfl⟩
            rw [hb] at ci
            have HB := Lib.hid hb
            clear hb
            have la : gb < wr.heap.size := Grow.lt a1
            go_upto_region 15 with fail
            refine wp_forget (fun Z => Blk Z wr.heap.size 39 #[.slice (some ⟨gb, ob, none⟩) y.row.length y.cap, .int .i64 y.w] ∧ Grow wr Z) ⟨Blk.new _ _ _, (Grow.refl wr).al _⟩ ?_
            clear la a1 a2 a3 c1 c2
            generalize wr.heap.size = gz
            rintro Z9 ⟨Bz, Gz⟩
            have BZ := Lib.hid Bz
            have BX9 := Lib.hid (BX8.out.grow (hg.trans Gz))
            clear Bz
            apply wp_region_calm 8 (by kernel_rfl) (by kernel_rfl)
            case h' =>
              intro Q0 hQ0
              simp only [List.take_succ_cons, List.take_zero]
              repeat ((first | ((first | apply calm_p rfl | apply calm_y rfl rfl rfl); case h1 => (intro w1 hw1 hF K hK; obtain ⟨bz, fz⟩ := (BZ.out.grow hw1).rules; obtain ⟨bx, fx⟩ := (BX9.out.grow hw1).rules; have a1 := (Gz.trans hw1).cell CC.out.1; have a2 := (Gz.trans hw1).cell CC.out.2.1; have a3 := (Gz.trans hw1).cell CC.out.2.2; go_simp; first | exact hK _ (Grow.refl _) | (go_at_call 12; ((with_reducible refine (ce _).mono ?_); rintro e w' ⟨rfl, hg⟩; exact ⟨_, rfl, hK _ hg⟩)) | (go_at_call 11; ((with_reducible refine (ci _).mono ?_); rintro e w' ⟨rfl, hg⟩; exact ⟨_, rfl, hK _ hg⟩)))) | apply calm_n rfl rfl rfl rfl); intro K hK; go_simp; apply hK; clear hK K)
              refine calm_nil ?_
              intro w1 hw1 hF
              apply hQ0
              clear hQ0
              simp only [List.drop_succ_cons, List.drop_zero]
              clear hF
              have Own6 := Lib.hid (own_grow Own.out (Gz.trans hw1))
              have G69 := hg.trans (Gz.trans hw1)
              obtain ⟨bz, fz⟩ := (BZ.out.grow hw1).rules
              cases b
              · go_wp2
                go_roundw
                case rel => exact ⟨k + 1, by omega, by go_num, by rw [ET.out, HB.out]; simpa using Own6.out, G69⟩
                case measure => simp [intOf]; omega
              · go_wp2_with (at_builtin; refine wpList_append_src rfl _ _ rfl w8.heap.size _ _ _ rfl (Own6.out.alloc _) _ [I.mk (some ⟨gb, ob, none⟩) y.row y.cap y.w] rfl (src_one rfl (Blk.new _ _ _)) (by simp; omega) (by have := G69.size; simp; omega) ?_; intro v7 w7 own7 gr7)
                have G7 : Grow w8 w7 := grow_own (G69.al _) gr7 (Own6.out.alloc _)
                have ey : I.mk (some ⟨gb, ob, none⟩) y.row y.cap y.w = y := by rw [← EA.out]
                rw [ey] at own7
                have Own7 := Lib.hid own7
                clear own7 gr7 ey
                go_roundw
                case rel => exact ⟨k + 1, by omega, by go_num, by rw [ET.out, HB.out]; simpa using Own7.out, G7⟩
                case measure => simp [intOf]; omega
            case hp' => trivial
          · obtain rfl : k = ys.length := by omega
            have own := Own.out
            rw [List.take_length] at own
            obtain ⟨B9, cap9, e9, hz9, _⟩ := own_zin2 own (fun y hy => (Y8.out.vsl y (List.mem_filter.1 hy).1).grow hg)
            simp only [Value.slice.injEq] at e9
            obtain ⟨rfl, h9, rfl⟩ := e9
            have emW : (ys.filter (pW v kn)).map zOf = WW := by
              rw [← HWW.out, ← Y.out.2, List.filter_map]
              rfl
            have lA : az.length ≤ 400 := by
              have h1 := congrArg List.length O.out.2
              rw [List.length_map] at h1
              omega
            have lB : (ys.filter (pW v kn)).length ≤ 400 := Nat.le_trans (List.length_filter_le _ _) ly
            have rA : ∀ x ∈ az, x.row.length ≤ 9223372036854775807 := fun x hx => by
              have h1 := RW.out (zOf x) (by rw [← O.out.2]; exact List.mem_map_of_mem hx)
              have h2 : x.row.length ≤ 8 := h1
              omega
            have rB : ∀ x ∈ ys.filter (pW v kn), x.row.length ≤ 9223372036854775807 := fun x hx => by
              have h1 := RW.out (zOf x) (by rw [← emW]; exact List.mem_map_of_mem hx)
              have h2 : x.row.length ≤ 8 := h1
              omega
            have sm := same_any az (ys.filter (pW v kn)) D Bo capa capo wr (by omega) (by omega) (O.out.1.grow hg) hz9 rA rB true ((sameG_iff _ _).2 (by rw [O.out.2, emW]))
            have GW := G8.trans hg
            clear own hz9 emW rA rB h9
            go_wp2_with (go_at_call 13; ((with_reducible refine sm.mono ?_); rintro en w9 ⟨rfl, hg9⟩))
            go_ret
            exact ⟨rfl, GW.trans hg9⟩
      · have d3 : (f != 0) = true := by simpa using hf
        subst he
        go_wp2
        go_ret
        exact ⟨rfl, G6⟩
    · have d3 : (e != 0) = true := by simpa using he
      go_wp2
      go_ret
      exact ⟨rfl, G6⟩
  case hp' => exact ⟨fun v w w' hg ⟨g, e, h⟩ => ⟨g, e, h.grow hg⟩, fun v w w' hg ⟨g, e, h⟩ => ⟨g, e, h.grow hg⟩, fun v w w' hg ⟨g, e, h1, h⟩ => ⟨g, e, h1, h.grow hg⟩, trivial⟩
end Go.Proofs.Ytamfpppbjaelaaa
