/-
  A text of the proof of the law WindowLast; no condition beside the row's own.
-/
import Derived.Test.YtamfpppbjaelaaaGVac
import Derived.Test.YtamfpppbjaelaaaGVae
import Derived.Test.YtamfpppbjaelaaaGGa
set_option maxRecDepth 100000
set_option maxHeartbeats 8000000
namespace Go.Proofs.Ytamfpppbjaelaaa
open Go.RowKit Go.Calm
set_option linter.unusedSimpArgs false
set_option linter.unusedVariables false
theorem ag2_sl {w : World} {g : Nat} {t : TypeId} {k : Int} {x : E} (hE : EX w x) (b : Blk w g t #[.int .i64 1, .int .i64 0, .int .i64 0, .int .i64 0, .string ⟨#[]⟩, .int .i64 0, .slice none 0 0, .int .i64 k, .int .i64 x.kind, .int .i64 x.v.k, .int .i64 x.v.n, .string x.v.s, .int .i64 x.col, .slice x.A x.n x.cap]) : AgSl w (some ⟨g, 0, none⟩) [⟨1, .leaf⟩, ⟨k, x⟩] := fun i a ha => by
  match i, ha with
  | 0, ha => simp at ha; subst ha; exact ⟨g, 0, rfl, ⟨b.cells rfl, b.cells rfl, b.cells rfl, b.cells rfl, b.cells rfl, b.cells rfl, b.cells rfl⟩, .leaf⟩
  | 1, ha => simp at ha; subst ha; exact ⟨g, 0, rfl, ⟨b.cells rfl, b.cells rfl, b.cells rfl, b.cells rfl, b.cells rfl, b.cells rfl, b.cells rfl⟩, hE⟩
theorem law_wlast (cols : List Int) (Ac : Option Addr) (cc : Nat) (ks : List E) (Ak : Option Addr) (ck : Nat) (x : E) (xs : List I) (A : Option Addr) (c : Nat) (w : World) (hlen : cols.length ≤ 140737488355328) (hlk : ks.length ≤ 140737488355328) (hc : ISl w Ac cols) (hk : ESl w Ak ks) (hx : EX w x) (h : In w ⟨A, xs, c⟩) :
    Calls Try.prog 6 #[.slice Ac cols.length cc, .slice Ak ks.length ck, x.val, .slice A xs.length c] w fun en w' => en = .returned (.bool true) ∧ Grow w w' := by
  have cw1 := fun W gw (hg : Grow w W) b => window_any cols Ac cc [] none 0 ks Ak ck (winL x) (some ⟨gw, 0, none⟩) 2 xs A c W hlen (by simp) hlk (by simp [winL]) (hc.grow hg) (fun i x hx => by simp at hx) (hk.grow hg) (ag2_sl (g := gw) (t := 34) (k := 4) (hx.grow hg) b) (h.grow hg)
  have cg1 := fun W gw (hg : Grow w W) b => group_any cols Ac cc [] none 0 (aggL x) (some ⟨gw, 0, none⟩) 2 xs A c W (by omega) (by simp) (by simp [aggL]) (hc.grow hg) (fun i x hx => by simp at hx) (ag2_sl (g := gw) (t := 51) (k := 3) (hx.grow hg) b) (h.grow hg)
  obtain ⟨Z, e, hZ⟩ : ∃ Z e, winZ cols [] ks (winL x) (xs.map zOf) = (Z, e) := ⟨_, _, rfl⟩
  obtain ⟨G, f, hG⟩ : ∃ G f, grpZ cols [] (aggL x) (xs.map zOf) = (G, f) := ⟨_, _, rfl⟩
  rw [hZ] at cw1
  rw [hG] at cg1
  simp only [winL, List.length_cons, List.length_nil] at cw1
  simp only [aggL, List.length_cons, List.length_nil] at cg1
  have HZ := Lib.hid hZ
  have HG := Lib.hid hG
  have CW := Lib.hid cw1
  have CG := Lib.hid cg1
  clear h hc hk hx hZ hG cw1 cg1
  unfold E.val
  go_enter Try.func6, Try.ntmps6
  go_upto_region 1 with fail
  refine wp_forget (fun X => Blk X w.heap.size 32 #[.int .i64 x.kind, .int .i64 x.v.k, .int .i64 x.v.n, .string x.v.s, .int .i64 x.col, .slice x.A x.n x.cap] ∧ Grow w X) ⟨Blk.new _ _ _, (Grow.refl w).al _⟩ ?_
  generalize w.heap.size = gx
  rintro X ⟨Bx, GX1⟩
  have BX := Lib.hid Bx
  clear Bx
  go_upto_region 3 with (go_at_call 7; ((with_reducible refine (alive15 _).mono ?_); rintro en w2 ⟨rfl, hg2⟩))
  obtain ⟨bx, fx⟩ := (BX.out.grow hg2).rules
  have G2 := GX1.trans hg2
  go_upto_region 4 with (go_at_call 8; ((with_reducible refine (CW.out _ _ (G2.al _) (Blk.new _ _ _)).mono ?_); rintro en w3 ⟨B, ys, cap, rfl, hz3, hm3, hk3, hg3⟩; have Y := Lib.hid (And.intro hz3 hm3); clear hz3 hm3 hk3))
  have G3 := (G2.al (.cells #[.int .i64 1, .int .i64 0, .int .i64 0, .int .i64 0, .string ⟨#[]⟩, .int .i64 0, .slice none 0 0, .int .i64 4, .int .i64 x.kind, .int .i64 x.v.k, .int .i64 x.v.n, .string x.v.s, .int .i64 x.col, .slice x.A x.n x.cap] 34)).trans hg3
  clear bx fx CW
  obtain ⟨bx, fx⟩ := (BX.out.grow (((hg2.al _)).trans hg3)).rules
  go_upto_region 5 with (go_at_call 16; ((with_reducible refine (CG.out _ _ (G3.al _) (Blk.new _ _ _)).mono ?_); rintro en w4 ⟨C, gs, capg, rfl, hz4, hm4, hk4, hg4⟩; have Q := Lib.hid (And.intro hz4 hm4); clear hz4 hm4 hk4))
  have G4 : Grow w w4 := (G3.al _).trans hg4
  have Y4 : Grow w3 w4 := ((Grow.refl _).al _).trans hg4
  clear bx fx CG hg4 hg3 hg2
  by_cases he : e = 0
  · by_cases hf : f = 0
    · subst he hf
      obtain ⟨s, eg, l400, hn8, hrow⟩ := last_plain HZ.out HG.out
      obtain ⟨gr, rfl, hgr, _⟩ := map_one (Q.out.2.trans eg)
      have ly : ys.length = Z.length := by rw [← Y.out.2, List.length_map]
      obtain ⟨gg, og, rfl, c1, _, v1⟩ := Q.out.1 0 gr rfl
      rw [hgr, ← ly] at v1
      rw [hgr] at c1
      obtain ⟨ga, oa, ea, a1, a2, a3⟩ := v1 0 _ rfl
      obtain ⟨_, _, eb, b1, b2, b3⟩ := v1 1 _ rfl
      rw [ea] at c1 eb
      simp only [Option.some.injEq, Addr.mk.injEq, and_true] at eb
      obtain ⟨rfl, rfl⟩ := eb
      simp only [Nat.zero_mul, Nat.one_mul, Nat.add_zero, List.length_cons, List.length_nil, Nat.zero_add, Nat.reduceAdd] at c1 a1 a2 a3 b1 b2 b3
      have CA := Lib.hid (And.intro c1 (And.intro a1 (And.intro a2 a3)))
      have CB := Lib.hid (And.intro b1 (And.intro b2 b3))
      have Hrow := Lib.hid (fun y (hy : y ∈ ys) => hrow (zOf y) (by rw [← Y.out.2]; exact List.mem_map_of_mem hy))
      have LY := Lib.hid ly
      have hly : ys.length ≤ 400 := by omega
      clear eg hgr v1 ea c1 a1 a2 a3 b1 b2 b3 hrow ly
      go_upto_region 7 with fail
      apply wp_region_calm 10 (by kernel_rfl) (by kernel_rfl)
      case h' =>
        intro Q0 hQ0
        simp only [List.take_succ_cons, List.take_zero]
        repeat ((first | ((first | apply calm_p rfl | apply calm_y rfl rfl rfl); case h1 => (intro w1 hw1 hF K hK; have p1 := hw1.cell CA.out.1; have p2 := hw1.cell CA.out.2.1; have p3 := hw1.cell CA.out.2.2.1; have p4 := hw1.cell CA.out.2.2.2; go_simp; first | exact hK _ (Grow.refl _) | (go_at_call 17; ((with_reducible refine (num15_any _ _).mono ?_); rintro e w' ⟨rfl, hg⟩; exact ⟨_, rfl, hK _ hg⟩)))) | apply calm_n rfl rfl rfl rfl); intro K hK; go_simp; apply hK; clear hK K)
        refine calm_nil ?_
        intro w1 hw1 hF
        apply hQ0
        clear hQ0
        simp only [List.drop_succ_cons, List.drop_zero]
        clear hF
        have G5 := G4.trans hw1
        have Y5 := Lib.hid (Y.out.1.grow (Y4.trans hw1))
        have CB5 := Lib.hid (And.intro (hw1.cell CB.out.1) (And.intro (hw1.cell CB.out.2.1) (hw1.cell CB.out.2.2)))
        have CA5 := Lib.hid (hw1.cell CA.out.1)
        clear Y4 G4
        have wp1 : IntKind.i64.wrap ((cols.length : Int) + 1) = (cols.length : Int) + 1 := by rw [IntKind.wrap_i64]; omega
        have t1 : ((cols.length : Int) + 1).toNat = cols.length + 1 := by omega
        have p1 : (0 : Int) ≤ (cols.length : Int) + 1 := by omega
        go_wp2
        go_loopw [61] (fun i wr => ∃ k : Nat, k ≤ ys.length ∧ i = .int .i64 k ∧ Grow w1 wr) (fun i _ => ys.length - (intOf i).toNat)
        case atStart => exact ⟨0, Nat.zero_le _, rfl, .refl _⟩
        case round =>
          obtain ⟨k, hk, rfl, hg⟩ := hrel
          by_cases hlt : k < ys.length
          · obtain ⟨y, hyk⟩ : ∃ y, ys[k]? = some y := ⟨_, List.getElem?_eq_getElem hlt⟩
            obtain ⟨gx1, ox, rfl, c1, c2, hyv⟩ := (Y5.out.grow hg) k y hyk
            obtain ⟨lyy, hs⟩ := Hrow.out y (List.mem_of_getElem? hyk)
            have ly : y.row.length = cols.length + 2 := lyy
            clear lyy
            obtain ⟨v0, hv0⟩ : ∃ v, y.row[cols.length]? = some v := ⟨_, List.getElem?_eq_getElem (by omega)⟩
            obtain ⟨v1, hv1⟩ : ∃ v, y.row[cols.length + 1]? = some v := ⟨_, List.getElem?_eq_getElem (by omega)⟩
            obtain ⟨gb, ob, ea, _, a1, _⟩ := hyv _ v0 hv0
            obtain ⟨_, _, eb, b1, b2, b3⟩ := hyv _ v1 hv1
            rw [ea] at eb c1
            simp only [Option.some.injEq, Addr.mk.injEq, and_true] at eb
            obtain ⟨rfl, rfl⟩ := eb
            have q0 : y.row.getD cols.length nullV' = v0 := by rw [List.getD_eq_getElem?_getD, hv0]; rfl
            have q1 : y.row.getD (cols.length + 1) nullV' = v1 := by rw [List.getD_eq_getElem?_getD, hv1]; rfl
            simp only [zOf, q0, q1] at hs
            have HS := Lib.hid hs
            have CC := Lib.hid (And.intro a1 (And.intro b1 (And.intro b2 b3)))
            have j1 : (cols.length : Int) + 1 < (y.row.length : Int) := by omega
            have j0 : (cols.length : Int) < (y.row.length : Int) := by omega
            have j9 : cols.length < y.row.length := by omega
            have j8 : cols.length + 1 < y.row.length := by omega
            have la : gb < wr.heap.size := Grow.lt a1
            clear q0 q1 hs hyk hyv hv0 hv1 ea ly b1 b2 b3
            go_upto_region 12 with fail
            clear la
            refine wp_forget (fun Z => Blk Z wr.heap.size 39 #[.slice (some ⟨gb, ob, none⟩) y.row.length y.cap, .int .i64 y.w] ∧ Grow wr Z) ⟨Blk.new _ _ _, (Grow.refl wr).al _⟩ ?_
            generalize wr.heap.size = gz
            rintro Z9 ⟨Bz, Gz⟩
            have BZ := Lib.hid Bz
            have CA6 := Lib.hid ((hg.trans Gz).cell CA5.out)
            have CB6 := Lib.hid (And.intro ((hg.trans Gz).cell CB5.out.1) (And.intro ((hg.trans Gz).cell CB5.out.2.1) ((hg.trans Gz).cell CB5.out.2.2)))
            clear a1 c1 c2 Bz
            by_cases hn : v0.n = (ys.length : Int)
            · have dn : (v0.n == (ys.length : Int)) = true := by simpa using hn
              have es : v1 = s := HS.out (by rw [hn, LY.out])
              subst es
              apply wp_region_calm 26 (by kernel_rfl) (by kernel_rfl)
              case h' =>
                intro Q0 hQ0
                simp only [List.take_succ_cons, List.take_zero]
                repeat ((first | ((first | apply calm_p rfl | apply calm_y rfl rfl rfl); case h1 => (intro w1 hw1 hF K hK; obtain ⟨bz, fz⟩ := (BZ.out.grow hw1).rules; have a1 := (Gz.trans hw1).cell CC.out.1; have b1 := (Gz.trans hw1).cell CC.out.2.1; have b2 := (Gz.trans hw1).cell CC.out.2.2.1; have b3 := (Gz.trans hw1).cell CC.out.2.2.2; have p1 := hw1.cell CA6.out; have p2 := hw1.cell CB6.out.1; have p3 := hw1.cell CB6.out.2.1; have p4 := hw1.cell CB6.out.2.2; go_simp; first | exact hK _ (Grow.refl _))) | apply calm_n rfl rfl rfl rfl); intro K hK; go_simp; apply hK; clear hK K)
                refine calm_nil ?_
                intro w1 hw1 hF
                apply hQ0
                clear hQ0
                simp only [List.drop_succ_cons, List.drop_zero]
                clear hF
                have G9 := hg.trans (Gz.trans hw1)
                go_wp2
                go_roundw
                case rel => exact ⟨k + 1, by omega, by go_num, G9⟩
                case measure => simp [intOf]; omega
              case hp' => trivial
            · have dn : (v0.n == (ys.length : Int)) = false := by simpa using hn
              apply wp_region_calm 26 (by kernel_rfl) (by kernel_rfl)
              case h' =>
                intro Q0 hQ0
                simp only [List.take_succ_cons, List.take_zero]
                repeat ((first | ((first | apply calm_p rfl | apply calm_y rfl rfl rfl); case h1 => (intro w1 hw1 hF K hK; obtain ⟨bz, fz⟩ := (BZ.out.grow hw1).rules; have a1 := (Gz.trans hw1).cell CC.out.1; go_simp; first | exact hK _ (Grow.refl _))) | apply calm_n rfl rfl rfl rfl); intro K hK; go_simp; apply hK; clear hK K)
                refine calm_nil ?_
                intro w1 hw1 hF
                apply hQ0
                clear hQ0
                simp only [List.drop_succ_cons, List.drop_zero]
                clear hF
                have G9 := hg.trans (Gz.trans hw1)
                go_wp2
                go_roundw
                case rel => exact ⟨k + 1, by omega, by go_num, G9⟩
                case measure => simp [intOf]; omega
              case hp' => trivial
          · go_wp2
            go_ret
            exact ⟨rfl, G5.trans hg⟩
      case hp' => trivial
    · have d1 : (f != 0) = true := by simpa using hf
      subst he
      go_wp2
      go_ret
      exact ⟨rfl, G4⟩
  · have d1 : (e != 0) = true := by simpa using he
    go_wp2
    go_ret
    exact ⟨rfl, G4⟩
end Go.Proofs.Ytamfpppbjaelaaa
