/-
 A text of the proof of the law QueryAlgebra; no condition beside the row's own.
-/
import Derived.Test.YtifpomonpneanaaGreatHLawQA0
import Derived.Test.YtifpomonpneanaaGreatGWc
namespace Go.Proofs.YtifpomonpneanaaGreat
open Go.RowKit Go.Calm
set_option linter.unusedSimpArgs false
set_option linter.unusedVariables false
set_option maxRecDepth 100000 in
set_option maxHeartbeats 8000000 in
theorem law_qalgebra (ts : List (L2 Int)) (At : Option Addr) (nt : Nat) (p q : PL) (x : E) (ds : List S) (Ad : Option Addr) (nd : Nat) (w : World) (hlt : ts.length ≤ reachN) (hl : ∀ t ∈ ts, t.xs.length ≤ reachN) (hts : TSl w At ts) (hp : PX w p) (hq : PX w q) (hx : EX w x) (hds : InS w Ad ds nd) :
  Calls Tryz.prog 6 #[.slice At ts.length nt, p.val, q.val, x.val, .slice Ad ds.length nd] w fun en w' => en = .returned (.bool true) ∧ Grow w w' := by
 have HTS0 := Lib.hid hts
 have HP0 := Lib.hid hp
 have HQ0 := Lib.hid hq
 have HX0 := Lib.hid hx
 have HDS0 := Lib.hid hds
 have HL := Lib.hid (And.intro hlt hl)
 unfold PL.val E.val
 clear hts hp hq hx hds hlt hl
 go_enter Tryz.func6, Tryz.ntmps6
 go_upto_region 3 with (go_at_call 18; ((with_reducible refine (alive5 _).mono ?_); rintro e w2 ⟨rfl, hg2⟩))
 refine wp_forget (fun X => Blk X w.heap.size 31 (pC p) ∧ Blk X (w.heap.size + 1) 31 (pC q) ∧ Blk X (w.heap.size + 1 + 1) 27 #[.int .i64 x.kind, .int .i64 x.v.k, .int .i64 x.v.n, .string x.v.s, .int .i64 x.col, .slice x.A x.n x.cap] ∧ Grow w X) ⟨(((Blk.new w _ _).al _).al _).grow hg2, ((Blk.new' _ _ _ (by simp)).al _).grow hg2, (Blk.new' _ _ _ (by simp)).grow hg2, Grow.trans (by repeat (first | (with_reducible exact Grow.refl _) | (with_reducible assumption) | (with_reducible refine Grow.set ?_ (by first | (simp; done) | (simp; omega)) _) | (with_reducible refine Grow.al ?_ _) | (with_reducible refine Grow.drew ?_) | (with_reducible refine Grow.drewN ?_ _) | (with_reducible refine Grow.trans ?_ (by assumption)))) hg2⟩ ?_
 rintro X ⟨B1, B2, B3, G⟩
 have BP := Lib.hid B1
 have BQ := Lib.hid B2
 have BE := Lib.hid B3
 have hne12 : w.heap.size ≠ w.heap.size + 1 := by omega
 have HP := Lib.hid (HP0.out.grow G)
 have HQ := Lib.hid (HQ0.out.grow G)
 clear B1 B2 B3 hg2 hne12
 generalize w.heap.size + 1 + 1 = ge at *
 generalize w.heap.size + 1 = gq at *
 generalize w.heap.size = gp at *
 apply wp_region_calm 10 (by kernel_rfl) (by kernel_rfl)
 case h' =>
  intro Q0 hQ0
  simp only [List.take_succ_cons, List.take_zero]
  repeat (
   first
    | (apply calm_p rfl; case h1 => (intro w1 hw1 hF K hK; obtain ⟨cp, fp⟩ := (Blk.grow BP.out hw1).rules; obtain ⟨cq, fq⟩ := (Blk.grow BQ.out hw1).rules; go_simp; first | exact hK _ (Grow.refl _) | fail))
    | (apply calm_y rfl rfl rfl; case h1 => (intro w1 hw1 hF K hK; obtain ⟨cp, fp⟩ := (Blk.grow BP.out hw1).rules; obtain ⟨cq, fq⟩ := (Blk.grow BQ.out hw1).rules; go_simp; first | exact hK _ (Grow.refl _) | fail))
    | apply calm_n rfl rfl rfl rfl
   intro K hK
   go_simp
   apply hK
   clear hK K)
  apply calm_fp (QK2 p q) rfl
  case h1 =>
   intro w1 hw1 hF K hK
   go_simp
   exact hK _ _ ((Grow.refl _).al _) ⟨_, rfl, Blk.new _ _ _⟩
  intro vA1 K hK
  go_simp
  apply hK
  clear hK K
  apply calm_fp (QPk 5 p q) rfl
  case h1 =>
   intro w1 hw1 hF K hK
   obtain ⟨g, hv, hb⟩ := hF _ (List.mem_cons_self ..) ⟨_, rfl, by decide⟩
   subst hv
   go_simp
   go_at_call 22
   refine (on5_any 5 (some ⟨g, 0, none⟩) 2 2 (fun i => if i = 0 then p else q) w1).mono ?_
   rintro en w' ⟨rfl, hg'⟩
   exact ⟨_, rfl, hK _ _ hg' ⟨g, rfl, hb.grow hg'⟩⟩
  intro vA2 K hK
  go_simp
  apply hK
  clear hK K
  repeat (
   first
    | (apply calm_p rfl; case h1 => (intro w1 hw1 hF K hK; obtain ⟨cp, fp⟩ := (Blk.grow BP.out hw1).rules; obtain ⟨cq, fq⟩ := (Blk.grow BQ.out hw1).rules; go_simp; first | exact hK _ (Grow.refl _) | fail))
    | (apply calm_y rfl rfl rfl; case h1 => (intro w1 hw1 hF K hK; obtain ⟨cp, fp⟩ := (Blk.grow BP.out hw1).rules; obtain ⟨cq, fq⟩ := (Blk.grow BQ.out hw1).rules; go_simp; first | exact hK _ (Grow.refl _) | fail))
    | apply calm_n rfl rfl rfl rfl
   intro K hK
   go_simp
   apply hK
   clear hK K)
  apply calm_fp (QK2 p q) rfl
  case h1 =>
   intro w1 hw1 hF K hK
   go_simp
   exact hK _ _ ((Grow.refl _).al _) ⟨_, rfl, Blk.new _ _ _⟩
  intro vA3 K hK
  go_simp
  apply hK
  clear hK K
  apply calm_fp (QPk 6 p q) rfl
  case h1 =>
   intro w1 hw1 hF K hK
   obtain ⟨g, hv, hb⟩ := hF _ (List.mem_cons_self ..) ⟨_, rfl, by decide⟩
   subst hv
   go_simp
   go_at_call 22
   refine (on5_any 6 (some ⟨g, 0, none⟩) 2 2 (fun i => if i = 0 then p else q) w1).mono ?_
   rintro en w' ⟨rfl, hg'⟩
   exact ⟨_, rfl, hK _ _ hg' ⟨g, rfl, hb.grow hg'⟩⟩
  intro vA4 K hK
  go_simp
  apply hK
  clear hK K
  apply calm_fp (QAl X.heap.size) rfl
  case h1 =>
   intro w1 hw1 hF K hK
   go_simp
   exact hK _ _ ((Grow.refl _).al _) ⟨_, rfl, hw1.size, Blk.new _ _ _⟩
  intro vA5 K hK
  go_simp
  apply hK
  clear hK K
  apply calm_fp (QAl X.heap.size) rfl
  case h1 =>
   intro w1 hw1 hF K hK
   go_simp
   exact hK _ _ ((Grow.refl _).al _) ⟨_, rfl, hw1.size, Blk.new _ _ _⟩
  intro vA6 K hK
  go_simp
  apply hK
  clear hK K
  refine calm_nil_apart ?_
  intro w1 hw1 hF hG
  obtain ⟨g2, e2, z2, b2⟩ := hF _ (List.mem_cons_self ..)
  obtain ⟨g1, e1, z1, b1⟩ := hF _ (List.mem_cons_of_mem _ (List.mem_cons_self ..))
  obtain ⟨gb, e4, bb⟩ := hF _ (List.mem_cons_of_mem _ (List.mem_cons_of_mem _ (List.mem_cons_self ..)))
  obtain ⟨ga, e3, ba⟩ := hF _ (List.mem_cons_of_mem _ (List.mem_cons_of_mem _ (List.mem_cons_of_mem _ (List.mem_cons_of_mem _ (List.mem_cons_self ..)))))
  subst e1 e2 e3 e4
  have h12 : g1 ≠ g2 := by
   intro h
   subst h
   simp [alcs, isAlc] at hG
  have na1 := blk_ne_size ba b1 (by simp)
  have na2 := blk_ne_size ba b2 (by simp)
  have nb1 := blk_ne_size bb b1 (by simp)
  have nb2 := blk_ne_size bb b2 (by simp)
  have y1 := st11_blk (w := w1) (nod2 5 .leaf (some ⟨ga, 0, none⟩) 2 p q) b1
  have y2 : Blk (st11 w1 g1 (nod2 5 .leaf (some ⟨ga, 0, none⟩) 2 p q)) g2 31 _ := (st11_heap w1 g1 _ (Ne.symm h12)).trans b2
  have gy := st11_grow (w0 := X) (st11_grow hw1 z1 (nod2 5 .leaf (some ⟨ga, 0, none⟩) 2 p q)) z2 (nod2 6 .leaf (some ⟨gb, 0, none⟩) 2 p q)
  have y3 := st11_blk (nod2 6 .leaf (some ⟨gb, 0, none⟩) 2 p q) y2
  have y4 : Blk (st11 (st11 w1 g1 (nod2 5 .leaf (some ⟨ga, 0, none⟩) 2 p q)) g2 (nod2 6 .leaf (some ⟨gb, 0, none⟩) 2 p q)) g1 31 (pC (nod2 5 .leaf (some ⟨ga, 0, none⟩) 2 p q)) := (st11_heap _ g2 _ h12).trans y1
  have y5 : Blk (st11 (st11 w1 g1 (nod2 5 .leaf (some ⟨ga, 0, none⟩) 2 p q)) g2 (nod2 6 .leaf (some ⟨gb, 0, none⟩) 2 p q)) ga 31 (pC2 p q) := (st11_heap _ g2 _ (Ne.symm na2)).trans ((st11_heap _ g1 _ (Ne.symm na1)).trans ba)
  have y6 : Blk (st11 (st11 w1 g1 (nod2 5 .leaf (some ⟨ga, 0, none⟩) 2 p q)) g2 (nod2 6 .leaf (some ⟨gb, 0, none⟩) 2 p q)) gb 31 (pC2 p q) := (st11_heap _ g2 _ (Ne.symm nb2)).trans ((st11_heap _ g1 _ (Ne.symm nb1)).trans bb)
  have ZZ := Lib.hid (And.intro gy (And.intro y4 (And.intro y3 (And.intro y5 y6))))
  have Y2 := Lib.hid y2
  have B1 := Lib.hid b1
  have NN := Lib.hid (And.intro (And.intro na1 na2) (And.intro nb1 (And.intro nb2 (And.intro h12 (And.intro z1 z2)))))
  clear hF hG b2 ba bb na1 na2 nb1 nb2 y1 y2 y3 y4 y5 y6 gy b1
  apply hQ0
  clear hQ0
  simp only [List.drop_succ_cons, List.drop_zero]
  obtain ⟨c4, f4⟩ := B1.out.rules
  obtain ⟨c5, f5⟩ := Y2.out.rules
  clear B1 Y2 h12 z1 z2
  go_wp2
  refine wp_forget (fun Y => Grow X Y ∧ Blk Y g1 31 (pC (nod2 5 .leaf (some ⟨ga, 0, none⟩) 2 p q)) ∧ Blk Y g2 31 (pC (nod2 6 .leaf (some ⟨gb, 0, none⟩) 2 p q)) ∧ Blk Y ga 31 (pC2 p q) ∧ Blk Y gb 31 (pC2 p q)) ZZ.out ?_
  rintro Y ⟨GY, D1, D2, D3, D4⟩
  have ND := NN.out
  obtain ⟨⟨na1, na2⟩, nb1, nb2, h12, z1, z2⟩ := ND
  have HD := Lib.hid (And.intro D1 (And.intro D2 (And.intro D3 (And.intro D4 GY))))
  have xb := stq6_blk (x := x) D1
  have xc := stq6_oth (x := x) D2 h12
  have x1 : Blk (stq6 (stq6 Y g1 x) g2 x) g1 31 _ := stq6_oth xb (Ne.symm h12)
  have x2 := stq6_blk (x := x) xc
  have x3 : Blk (stq6 (stq6 Y g1 x) g2 x) ga 31 (pC2 p q) := stq6_oth (stq6_oth D3 na1) na2
  have x4 : Blk (stq6 (stq6 Y g1 x) g2 x) gb 31 (pC2 p q) := stq6_oth (stq6_oth D4 nb1) nb2
  have x5 : Grow X (stq6 (stq6 Y g1 x) g2 x) := stq6_grow (stq6_grow GY z1) z2
  have XX := Lib.hid (And.intro x1 (And.intro x2 (And.intro x3 (And.intro x4 x5))))
  have XC := Lib.hid xc
  obtain ⟨c6, f6⟩ := D1.rules
  obtain ⟨c7, f7⟩ := xc.rules
  obtain ⟨c8, f8⟩ := (BE.out.grow GY).rules
  obtain ⟨c9, f9⟩ := D2.rules
  have hge : g1 ≠ ge := by
   have := BE.out.lt
   omega
  obtain ⟨ca, fa⟩ := (stq6_oth (x := x) (BE.out.grow GY) hge).rules
  have lD1 := D1.lt
  have lD2 := D2.lt
  clear x1 x2 x3 x4 x5 xb xc D1 D2 D3 D4 na1 na2 nb1 nb2 z1 z2 NN ZZ GY c4 f4 c5 f5 hge
  go_cut [] (fun Z => Blk Z g1 31 (pC (nod2 5 x (some ⟨ga, 0, none⟩) 2 p q)) ∧ Blk Z g2 31 (pC (nod2 6 x (some ⟨gb, 0, none⟩) 2 p q)) ∧ Blk Z ga 31 (pC2 p q) ∧ Blk Z gb 31 (pC2 p q) ∧ Grow X Z)
  case first =>
   go_region_law (fail)
   all_goals (
    go_wp2_with fail
    go_meet
    exact ⟨XX.out.1.drew, XX.out.2.1.drew, XX.out.2.2.1.drew, XX.out.2.2.2.1.drew, Grow.drew XX.out.2.2.2.2⟩)
  case rest =>
  obtain ⟨x1, x2, x3, x4, x5⟩ := hcut
  rename World => Z
  clear XX XC HD c6 f6 c7 f7 c8 f8 c9 f9 ca fa lD1 lD2 h12
  obtain ⟨r1, er1⟩ : ∃ r1, nod2 5 x (some ⟨ga, 0, none⟩) 2 p q = r1 := ⟨_, rfl⟩
  obtain ⟨r2, er2⟩ : ∃ r2, nod2 6 x (some ⟨gb, 0, none⟩) 2 p q = r2 := ⟨_, rfl⟩
  have GZ := G.trans x5
  have HS1 := Lib.hid (show N2 5 x (Is p) (Is q) r1 from ⟨_, _, p, q, rfl, rfl, er1.symm⟩)
  have HS2 := Lib.hid (show N2 6 x (Is p) (Is q) r2 from ⟨_, _, p, q, rfl, rfl, er2.symm⟩)
  have HR1 := Lib.hid (show PX Z r1 from er1 ▸ px_two' 2 x3 ⟨HX0.out.grow GZ, fun i y h => by simp at h, fun i y h => by simp at h, by decide, ⟨by decide, by decide⟩, ⟨by decide, by decide⟩⟩ (HP0.out.grow GZ) (HQ0.out.grow GZ))
  have HR2 := Lib.hid (show PX Z r2 from er2 ▸ px_two' 2 x4 ⟨HX0.out.grow GZ, fun i y h => by simp at h, fun i y h => by simp at h, by decide, ⟨by decide, by decide⟩, ⟨by decide, by decide⟩⟩ (HP0.out.grow GZ) (HQ0.out.grow GZ))
  rw [er1] at x1
  rw [er2] at x2
  have BR1 := Lib.hid x1
  have BR2 := Lib.hid x2
  have BPZ := Lib.hid (BP.out.grow x5)
  have BQZ := Lib.hid (BQ.out.grow x5)
  have HTS := Lib.hid (HTS0.out.grow GZ)
  have HDS := Lib.hid (HDS0.out.grow GZ)
  clear HP HQ
  have HP := Lib.hid (HP0.out.grow GZ)
  have HQ := Lib.hid (HQ0.out.grow GZ)
  clear x1 x2 x3 x4 er1 er2
  go_wp2
  apply wp_region_calm 60 (by kernel_rfl) (by kernel_rfl)
  case h' =>
   intro Q0 hQ0
   simp only [List.take_succ_cons, List.take_zero]
   repeat (
    first
     | (apply calm_p rfl; case h1 => (intro w1 hw1 hF K hK; obtain ⟨cp, fp⟩ := (Blk.grow BPZ.out hw1).rules; obtain ⟨cq, fq⟩ := (Blk.grow BQZ.out hw1).rules; obtain ⟨c1, f1⟩ := (Blk.grow BR1.out hw1).rules; obtain ⟨c2, f2⟩ := (Blk.grow BR2.out hw1).rules; go_simp; first | exact hK _ (Grow.refl _) | fail))
     | (apply calm_y rfl rfl rfl; case h1 => (intro w1 hw1 hF K hK; obtain ⟨cp, fp⟩ := (Blk.grow BPZ.out hw1).rules; obtain ⟨cq, fq⟩ := (Blk.grow BQZ.out hw1).rules; obtain ⟨c1, f1⟩ := (Blk.grow BR1.out hw1).rules; obtain ⟨c2, f2⟩ := (Blk.grow BR2.out hw1).rules; go_simp; first | exact hK _ (Grow.refl _) | fail))
     | apply calm_n rfl rfl rfl rfl
    intro K hK
    go_simp
    apply hK
    clear hK K)
   apply calm_fp (QS2 (Is p) (Is q)) rfl
   case h1 =>
    intro w1 hw1 hF K hK
    go_simp
    exact hK _ _ ((Grow.refl _).al _) ⟨p, q, _, rfl, rfl, (HP.out.grow (hw1.al _)), (HQ.out.grow (hw1.al _)), rfl, Blk.new _ _ _⟩
   intro vA1 K hK
   go_simp
   apply hK
   clear hK K
   apply calm_fp (QPv (N2 8 .leaf (Is p) (Is q))) rfl
   case h1 =>
    intro w1 hw1 hF K hK
    obtain ⟨r, s, g, hS, hT, hr, hs, hv, hb⟩ := hF _ (List.mem_cons_self ..) ⟨_, rfl, by decide⟩
    subst hv
    go_simp
    go_at_call 22
    refine (on5_any 8 (some ⟨g, 0, none⟩) 2 2 (fun i => if i = 0 then r else s) w1).mono ?_
    rintro en w' ⟨rfl, hg'⟩
    exact ⟨_, rfl, hK _ _ hg' ⟨nod2 8 .leaf (some ⟨g, 0, none⟩) 2 r s, ⟨_, _, r, s, hS, hT, rfl⟩, rfl, px_n2 ⟨by decide, by decide⟩ hb hr hs hg'⟩⟩
   intro vA2 K hK
   go_simp
   apply hK
   clear hK K
   repeat (
    first
     | (apply calm_p rfl; case h1 => (intro w1 hw1 hF K hK; obtain ⟨cp, fp⟩ := (Blk.grow BPZ.out hw1).rules; obtain ⟨cq, fq⟩ := (Blk.grow BQZ.out hw1).rules; obtain ⟨c1, f1⟩ := (Blk.grow BR1.out hw1).rules; obtain ⟨c2, f2⟩ := (Blk.grow BR2.out hw1).rules; go_simp; first | exact hK _ (Grow.refl _) | fail))
     | (apply calm_y rfl rfl rfl; case h1 => (intro w1 hw1 hF K hK; obtain ⟨cp, fp⟩ := (Blk.grow BPZ.out hw1).rules; obtain ⟨cq, fq⟩ := (Blk.grow BQZ.out hw1).rules; obtain ⟨c1, f1⟩ := (Blk.grow BR1.out hw1).rules; obtain ⟨c2, f2⟩ := (Blk.grow BR2.out hw1).rules; go_simp; first | exact hK _ (Grow.refl _) | fail))
     | apply calm_n rfl rfl rfl rfl
    intro K hK
    go_simp
    apply hK
    clear hK K)
   apply calm_fp (QS2 (Is q) (Is p)) rfl
   case h1 =>
    intro w1 hw1 hF K hK
    go_simp
    exact hK _ _ ((Grow.refl _).al _) ⟨q, p, _, rfl, rfl, (HQ.out.grow (hw1.al _)), (HP.out.grow (hw1.al _)), rfl, Blk.new _ _ _⟩
   intro vA3 K hK
   go_simp
   apply hK
   clear hK K
   apply calm_fp (QPv (N2 8 .leaf (Is q) (Is p))) rfl
   case h1 =>
    intro w1 hw1 hF K hK
    obtain ⟨r, s, g, hS, hT, hr, hs, hv, hb⟩ := hF _ (List.mem_cons_self ..) ⟨_, rfl, by decide⟩
    subst hv
    go_simp
    go_at_call 22
    refine (on5_any 8 (some ⟨g, 0, none⟩) 2 2 (fun i => if i = 0 then r else s) w1).mono ?_
    rintro en w' ⟨rfl, hg'⟩
    exact ⟨_, rfl, hK _ _ hg' ⟨nod2 8 .leaf (some ⟨g, 0, none⟩) 2 r s, ⟨_, _, r, s, hS, hT, rfl⟩, rfl, px_n2 ⟨by decide, by decide⟩ hb hr hs hg'⟩⟩
   intro vA4 K hK
   go_simp
   apply hK
   clear hK K
   repeat (
    first
     | (apply calm_p rfl; case h1 => (intro w1 hw1 hF K hK; obtain ⟨cp, fp⟩ := (Blk.grow BPZ.out hw1).rules; obtain ⟨cq, fq⟩ := (Blk.grow BQZ.out hw1).rules; obtain ⟨c1, f1⟩ := (Blk.grow BR1.out hw1).rules; obtain ⟨c2, f2⟩ := (Blk.grow BR2.out hw1).rules; go_simp; first | exact hK _ (Grow.refl _) | fail))
     | (apply calm_y rfl rfl rfl; case h1 => (intro w1 hw1 hF K hK; obtain ⟨cp, fp⟩ := (Blk.grow BPZ.out hw1).rules; obtain ⟨cq, fq⟩ := (Blk.grow BQZ.out hw1).rules; obtain ⟨c1, f1⟩ := (Blk.grow BR1.out hw1).rules; obtain ⟨c2, f2⟩ := (Blk.grow BR2.out hw1).rules; go_simp; first | exact hK _ (Grow.refl _) | fail))
     | apply calm_n rfl rfl rfl rfl
    intro K hK
    go_simp
    apply hK
    clear hK K)
   apply calm_p rfl
   case h1 =>
    intro w1 hw1 hF K hK
    obtain ⟨rA2, hSA2, hvA2, hpA2⟩ := hF _ (List.mem_cons_of_mem _ (List.mem_cons_of_mem _ (List.mem_cons_self ..))) ⟨_, rfl, by decide⟩
    subst hvA2
    obtain ⟨rA4, hSA4, hvA4, hpA4⟩ := hF _ (List.mem_cons_self ..) ⟨_, rfl, by decide⟩
    subst hvA4
    go_simp
    go_at_call 23
    refine (is5_any ts At nt rA2 rA4 ds Ad nd w1 HL.out.1 HL.out.2 (HTS.out.grow hw1) hpA2 hpA4 (HDS.out.grow hw1) (fun a b h1 h2 => qa_add hSA2 hSA4 h1 h2)).mono ?_
    rintro en w' ⟨rfl, hg'⟩
    exact ⟨_, rfl, hK _ hg'⟩
   intro K hK
   go_simp
   apply hK
   clear hK K
   repeat (
    first
     | (apply calm_p rfl; case h1 => (intro w1 hw1 hF K hK; obtain ⟨cp, fp⟩ := (Blk.grow BPZ.out hw1).rules; obtain ⟨cq, fq⟩ := (Blk.grow BQZ.out hw1).rules; obtain ⟨c1, f1⟩ := (Blk.grow BR1.out hw1).rules; obtain ⟨c2, f2⟩ := (Blk.grow BR2.out hw1).rules; go_simp; first | exact hK _ (Grow.refl _) | fail))
     | (apply calm_y rfl rfl rfl; case h1 => (intro w1 hw1 hF K hK; obtain ⟨cp, fp⟩ := (Blk.grow BPZ.out hw1).rules; obtain ⟨cq, fq⟩ := (Blk.grow BQZ.out hw1).rules; obtain ⟨c1, f1⟩ := (Blk.grow BR1.out hw1).rules; obtain ⟨c2, f2⟩ := (Blk.grow BR2.out hw1).rules; go_simp; first | exact hK _ (Grow.refl _) | fail))
     | apply calm_n rfl rfl rfl rfl
    intro K hK
    go_simp
    apply hK
    clear hK K)
   apply calm_fy (QS2 (Is p) (Is q)) rfl rfl rfl
   case h1 =>
    intro w1 hw1 hF K hK
    go_simp
    exact hK _ _ ((Grow.refl _).al _) ⟨p, q, _, rfl, rfl, (HP.out.grow (hw1.al _)), (HQ.out.grow (hw1.al _)), rfl, Blk.new _ _ _⟩
   intro vA5 K hK
   go_simp
   apply hK
   clear hK K
   apply calm_fy (QPv (N2 8 .leaf (Is p) (Is q))) rfl rfl rfl
   case h1 =>
    intro w1 hw1 hF K hK
    obtain ⟨r, s, g, hS, hT, hr, hs, hv, hb⟩ := hF _ (List.mem_cons_self ..) ⟨_, rfl, by decide⟩
    subst hv
    go_simp
    go_at_call 22
    refine (on5_any 8 (some ⟨g, 0, none⟩) 2 2 (fun i => if i = 0 then r else s) w1).mono ?_
    rintro en w' ⟨rfl, hg'⟩
    exact ⟨_, rfl, hK _ _ hg' ⟨nod2 8 .leaf (some ⟨g, 0, none⟩) 2 r s, ⟨_, _, r, s, hS, hT, rfl⟩, rfl, px_n2 ⟨by decide, by decide⟩ hb hr hs hg'⟩⟩
   intro vA6 K hK
   go_simp
   apply hK
   clear hK K
   repeat (
    first
     | (apply calm_p rfl; case h1 => (intro w1 hw1 hF K hK; obtain ⟨cp, fp⟩ := (Blk.grow BPZ.out hw1).rules; obtain ⟨cq, fq⟩ := (Blk.grow BQZ.out hw1).rules; obtain ⟨c1, f1⟩ := (Blk.grow BR1.out hw1).rules; obtain ⟨c2, f2⟩ := (Blk.grow BR2.out hw1).rules; go_simp; first | exact hK _ (Grow.refl _) | fail))
     | (apply calm_y rfl rfl rfl; case h1 => (intro w1 hw1 hF K hK; obtain ⟨cp, fp⟩ := (Blk.grow BPZ.out hw1).rules; obtain ⟨cq, fq⟩ := (Blk.grow BQZ.out hw1).rules; obtain ⟨c1, f1⟩ := (Blk.grow BR1.out hw1).rules; obtain ⟨c2, f2⟩ := (Blk.grow BR2.out hw1).rules; go_simp; first | exact hK _ (Grow.refl _) | fail))
     | apply calm_n rfl rfl rfl rfl
    intro K hK
    go_simp
    apply hK
    clear hK K)
   apply calm_fy (QS2 (N2 8 .leaf (Is p) (Is q)) (Is q)) rfl rfl rfl
   case h1 =>
    intro w1 hw1 hF K hK
    obtain ⟨rA6, hSA6, hvA6, hpA6⟩ := hF _ (List.mem_cons_self ..) ⟨_, rfl, by decide⟩
    subst hvA6
    go_simp
    exact hK _ _ ((Grow.refl _).al _) ⟨rA6, q, _, hSA6, rfl, (hpA6.grow ((Grow.refl _).al _)), (HQ.out.grow (hw1.al _)), rfl, Blk.new _ _ _⟩
   intro vA7 K hK
   go_simp
   apply hK
   clear hK K
   apply calm_fy (QPv (N2 9 .leaf (N2 8 .leaf (Is p) (Is q)) (Is q))) rfl rfl rfl
   case h1 =>
    intro w1 hw1 hF K hK
    obtain ⟨r, s, g, hS, hT, hr, hs, hv, hb⟩ := hF _ (List.mem_cons_self ..) ⟨_, rfl, by decide⟩
    subst hv
    go_simp
    go_at_call 22
    refine (on5_any 9 (some ⟨g, 0, none⟩) 2 2 (fun i => if i = 0 then r else s) w1).mono ?_
    rintro en w' ⟨rfl, hg'⟩
    exact ⟨_, rfl, hK _ _ hg' ⟨nod2 9 .leaf (some ⟨g, 0, none⟩) 2 r s, ⟨_, _, r, s, hS, hT, rfl⟩, rfl, px_n2 ⟨by decide, by decide⟩ hb hr hs hg'⟩⟩
   intro vA8 K hK
   go_simp
   apply hK
   clear hK K
   repeat (
    first
     | (apply calm_p rfl; case h1 => (intro w1 hw1 hF K hK; obtain ⟨cp, fp⟩ := (Blk.grow BPZ.out hw1).rules; obtain ⟨cq, fq⟩ := (Blk.grow BQZ.out hw1).rules; obtain ⟨c1, f1⟩ := (Blk.grow BR1.out hw1).rules; obtain ⟨c2, f2⟩ := (Blk.grow BR2.out hw1).rules; go_simp; first | exact hK _ (Grow.refl _) | fail))
     | (apply calm_y rfl rfl rfl; case h1 => (intro w1 hw1 hF K hK; obtain ⟨cp, fp⟩ := (Blk.grow BPZ.out hw1).rules; obtain ⟨cq, fq⟩ := (Blk.grow BQZ.out hw1).rules; obtain ⟨c1, f1⟩ := (Blk.grow BR1.out hw1).rules; obtain ⟨c2, f2⟩ := (Blk.grow BR2.out hw1).rules; go_simp; first | exact hK _ (Grow.refl _) | fail))
     | apply calm_n rfl rfl rfl rfl
    intro K hK
    go_simp
    apply hK
    clear hK K)
   apply calm_y rfl rfl rfl
   case h1 =>
    intro w1 hw1 hF K hK
    obtain ⟨rA8, hSA8, hvA8, hpA8⟩ := hF _ (List.mem_cons_self ..) ⟨_, rfl, by decide⟩
    subst hvA8
    go_simp
    go_at_call 23
    refine (is5_any ts At nt rA8 p ds Ad nd w1 HL.out.1 HL.out.2 (HTS.out.grow hw1) hpA8 (HP.out.grow hw1) (HDS.out.grow hw1) (fun a b h1 h2 => qa_sub hSA8 h1 h2)).mono ?_
    rintro en w' ⟨rfl, hg'⟩
    exact ⟨_, rfl, hK _ hg'⟩
   intro K hK
   go_simp
   apply hK
   clear hK K
   repeat (
    first
     | (apply calm_p rfl; case h1 => (intro w1 hw1 hF K hK; obtain ⟨cp, fp⟩ := (Blk.grow BPZ.out hw1).rules; obtain ⟨cq, fq⟩ := (Blk.grow BQZ.out hw1).rules; obtain ⟨c1, f1⟩ := (Blk.grow BR1.out hw1).rules; obtain ⟨c2, f2⟩ := (Blk.grow BR2.out hw1).rules; go_simp; first | exact hK _ (Grow.refl _) | fail))
     | (apply calm_y rfl rfl rfl; case h1 => (intro w1 hw1 hF K hK; obtain ⟨cp, fp⟩ := (Blk.grow BPZ.out hw1).rules; obtain ⟨cq, fq⟩ := (Blk.grow BQZ.out hw1).rules; obtain ⟨c1, f1⟩ := (Blk.grow BR1.out hw1).rules; obtain ⟨c2, f2⟩ := (Blk.grow BR2.out hw1).rules; go_simp; first | exact hK _ (Grow.refl _) | fail))
     | apply calm_n rfl rfl rfl rfl
    intro K hK
    go_simp
    apply hK
    clear hK K)
   apply calm_fy (QS1 (Is p)) rfl rfl rfl
   case h1 =>
    intro w1 hw1 hF K hK
    go_simp
    exact hK _ _ ((Grow.refl _).al _) ⟨p, _, rfl, (HP.out.grow (hw1.al _)), rfl, Blk.new _ _ _⟩
   intro vB1 K hK
   go_simp
   apply hK
   clear hK K
   apply calm_fy (QPv (N1 11 (Is p))) rfl rfl rfl
   case h1 =>
    intro w1 hw1 hF K hK
    obtain ⟨r, g, hS, hr, hv, hb⟩ := hF _ (List.mem_cons_self ..) ⟨_, rfl, by decide⟩
    subst hv
    go_simp
    go_at_call 22
    refine (on5_any 11 (some ⟨g, 0, none⟩) 1 1 (fun _ => r) w1).mono ?_
    rintro en w' ⟨rfl, hg'⟩
    exact ⟨_, rfl, hK _ _ hg' ⟨nod1 11 (some ⟨g, 0, none⟩) 1 r, ⟨_, _, r, hS, rfl⟩, rfl, px_n1 ⟨by decide, by decide⟩ hb hr hg'⟩⟩
   intro vB2 K hK
   go_simp
   apply hK
   clear hK K
   apply calm_fy (QS1 (N1 11 (Is p))) rfl rfl rfl
   case h1 =>
    intro w1 hw1 hF K hK
    obtain ⟨rB2, hSB2, hvB2, hpB2⟩ := hF _ (List.mem_cons_self ..) ⟨_, rfl, by decide⟩
    subst hvB2
    go_simp
    exact hK _ _ ((Grow.refl _).al _) ⟨rB2, _, hSB2, (hpB2.grow ((Grow.refl _).al _)), rfl, Blk.new _ _ _⟩
   intro vB3 K hK
   go_simp
   apply hK
   clear hK K
   apply calm_fy (QPv (N1 11 (N1 11 (Is p)))) rfl rfl rfl
   case h1 =>
    intro w1 hw1 hF K hK
    obtain ⟨r, g, hS, hr, hv, hb⟩ := hF _ (List.mem_cons_self ..) ⟨_, rfl, by decide⟩
    subst hv
    go_simp
    go_at_call 22
    refine (on5_any 11 (some ⟨g, 0, none⟩) 1 1 (fun _ => r) w1).mono ?_
    rintro en w' ⟨rfl, hg'⟩
    exact ⟨_, rfl, hK _ _ hg' ⟨nod1 11 (some ⟨g, 0, none⟩) 1 r, ⟨_, _, r, hS, rfl⟩, rfl, px_n1 ⟨by decide, by decide⟩ hb hr hg'⟩⟩
   intro vB4 K hK
   go_simp
   apply hK
   clear hK K
   repeat (
    first
     | (apply calm_p rfl; case h1 => (intro w1 hw1 hF K hK; obtain ⟨cp, fp⟩ := (Blk.grow BPZ.out hw1).rules; obtain ⟨cq, fq⟩ := (Blk.grow BQZ.out hw1).rules; obtain ⟨c1, f1⟩ := (Blk.grow BR1.out hw1).rules; obtain ⟨c2, f2⟩ := (Blk.grow BR2.out hw1).rules; go_simp; first | exact hK _ (Grow.refl _) | fail))
     | (apply calm_y rfl rfl rfl; case h1 => (intro w1 hw1 hF K hK; obtain ⟨cp, fp⟩ := (Blk.grow BPZ.out hw1).rules; obtain ⟨cq, fq⟩ := (Blk.grow BQZ.out hw1).rules; obtain ⟨c1, f1⟩ := (Blk.grow BR1.out hw1).rules; obtain ⟨c2, f2⟩ := (Blk.grow BR2.out hw1).rules; go_simp; first | exact hK _ (Grow.refl _) | fail))
     | apply calm_n rfl rfl rfl rfl
    intro K hK
    go_simp
    apply hK
    clear hK K)
   apply calm_fy (QS1 (Is p)) rfl rfl rfl
   case h1 =>
    intro w1 hw1 hF K hK
    go_simp
    exact hK _ _ ((Grow.refl _).al _) ⟨p, _, rfl, (HP.out.grow (hw1.al _)), rfl, Blk.new _ _ _⟩
   intro vB5 K hK
   go_simp
   apply hK
   clear hK K
   apply calm_fy (QPv (N1 11 (Is p))) rfl rfl rfl
   case h1 =>
    intro w1 hw1 hF K hK
    obtain ⟨r, g, hS, hr, hv, hb⟩ := hF _ (List.mem_cons_self ..) ⟨_, rfl, by decide⟩
    subst hv
    go_simp
    go_at_call 22
    refine (on5_any 11 (some ⟨g, 0, none⟩) 1 1 (fun _ => r) w1).mono ?_
    rintro en w' ⟨rfl, hg'⟩
    exact ⟨_, rfl, hK _ _ hg' ⟨nod1 11 (some ⟨g, 0, none⟩) 1 r, ⟨_, _, r, hS, rfl⟩, rfl, px_n1 ⟨by decide, by decide⟩ hb hr hg'⟩⟩
   intro vB6 K hK
   go_simp
   apply hK
   clear hK K
   repeat (
    first
     | (apply calm_p rfl; case h1 => (intro w1 hw1 hF K hK; obtain ⟨cp, fp⟩ := (Blk.grow BPZ.out hw1).rules; obtain ⟨cq, fq⟩ := (Blk.grow BQZ.out hw1).rules; obtain ⟨c1, f1⟩ := (Blk.grow BR1.out hw1).rules; obtain ⟨c2, f2⟩ := (Blk.grow BR2.out hw1).rules; go_simp; first | exact hK _ (Grow.refl _) | fail))
     | (apply calm_y rfl rfl rfl; case h1 => (intro w1 hw1 hF K hK; obtain ⟨cp, fp⟩ := (Blk.grow BPZ.out hw1).rules; obtain ⟨cq, fq⟩ := (Blk.grow BQZ.out hw1).rules; obtain ⟨c1, f1⟩ := (Blk.grow BR1.out hw1).rules; obtain ⟨c2, f2⟩ := (Blk.grow BR2.out hw1).rules; go_simp; first | exact hK _ (Grow.refl _) | fail))
     | apply calm_n rfl rfl rfl rfl
    intro K hK
    go_simp
    apply hK
    clear hK K)
   apply calm_y rfl rfl rfl
   case h1 =>
    intro w1 hw1 hF K hK
    obtain ⟨rB4, hSB4, hvB4, hpB4⟩ := hF _ (List.mem_cons_of_mem _ (List.mem_cons_of_mem _ (List.mem_cons_self ..))) ⟨_, rfl, by decide⟩
    subst hvB4
    obtain ⟨rB6, hSB6, hvB6, hpB6⟩ := hF _ (List.mem_cons_self ..) ⟨_, rfl, by decide⟩
    subst hvB6
    go_simp
    go_at_call 23
    refine (is5_any ts At nt rB4 rB6 ds Ad nd w1 HL.out.1 HL.out.2 (HTS.out.grow hw1) hpB4 hpB6 (HDS.out.grow hw1) (fun a b h1 h2 => qa_once hSB4 hSB6 h1 h2)).mono ?_
    rintro en w' ⟨rfl, hg'⟩
    exact ⟨_, rfl, hK _ hg'⟩
   intro K hK
   go_simp
   apply hK
   clear hK K
   repeat (
    first
     | (apply calm_p rfl; case h1 => (intro w1 hw1 hF K hK; obtain ⟨cp, fp⟩ := (Blk.grow BPZ.out hw1).rules; obtain ⟨cq, fq⟩ := (Blk.grow BQZ.out hw1).rules; obtain ⟨c1, f1⟩ := (Blk.grow BR1.out hw1).rules; obtain ⟨c2, f2⟩ := (Blk.grow BR2.out hw1).rules; go_simp; first | exact hK _ (Grow.refl _) | fail))
     | (apply calm_y rfl rfl rfl; case h1 => (intro w1 hw1 hF K hK; obtain ⟨cp, fp⟩ := (Blk.grow BPZ.out hw1).rules; obtain ⟨cq, fq⟩ := (Blk.grow BQZ.out hw1).rules; obtain ⟨c1, f1⟩ := (Blk.grow BR1.out hw1).rules; obtain ⟨c2, f2⟩ := (Blk.grow BR2.out hw1).rules; go_simp; first | exact hK _ (Grow.refl _) | fail))
     | apply calm_n rfl rfl rfl rfl
    intro K hK
    go_simp
    apply hK
    clear hK K)
   apply calm_fy (QS1 (Is p)) rfl rfl rfl
   case h1 =>
    intro w1 hw1 hF K hK
    go_simp
    exact hK _ _ ((Grow.refl _).al _) ⟨p, _, rfl, (HP.out.grow (hw1.al _)), rfl, Blk.new _ _ _⟩
   intro vC1 K hK
   go_simp
   apply hK
   clear hK K
   apply calm_fy (QPv (N1 10 (Is p))) rfl rfl rfl
   case h1 =>
    intro w1 hw1 hF K hK
    obtain ⟨r, g, hS, hr, hv, hb⟩ := hF _ (List.mem_cons_self ..) ⟨_, rfl, by decide⟩
    subst hv
    go_simp
    go_at_call 22
    refine (on5_any 10 (some ⟨g, 0, none⟩) 1 1 (fun _ => r) w1).mono ?_
    rintro en w' ⟨rfl, hg'⟩
    exact ⟨_, rfl, hK _ _ hg' ⟨nod1 10 (some ⟨g, 0, none⟩) 1 r, ⟨_, _, r, hS, rfl⟩, rfl, px_n1 ⟨by decide, by decide⟩ hb hr hg'⟩⟩
   intro vC2 K hK
   go_simp
   apply hK
   clear hK K
   apply calm_fy (QS1 (N1 10 (Is p))) rfl rfl rfl
   case h1 =>
    intro w1 hw1 hF K hK
    obtain ⟨rC2, hSC2, hvC2, hpC2⟩ := hF _ (List.mem_cons_self ..) ⟨_, rfl, by decide⟩
    subst hvC2
    go_simp
    exact hK _ _ ((Grow.refl _).al _) ⟨rC2, _, hSC2, (hpC2.grow ((Grow.refl _).al _)), rfl, Blk.new _ _ _⟩
   intro vC3 K hK
   go_simp
   apply hK
   clear hK K
   apply calm_fy (QPv (N1 11 (N1 10 (Is p)))) rfl rfl rfl
   case h1 =>
    intro w1 hw1 hF K hK
    obtain ⟨r, g, hS, hr, hv, hb⟩ := hF _ (List.mem_cons_self ..) ⟨_, rfl, by decide⟩
    subst hv
    go_simp
    go_at_call 22
    refine (on5_any 11 (some ⟨g, 0, none⟩) 1 1 (fun _ => r) w1).mono ?_
    rintro en w' ⟨rfl, hg'⟩
    exact ⟨_, rfl, hK _ _ hg' ⟨nod1 11 (some ⟨g, 0, none⟩) 1 r, ⟨_, _, r, hS, rfl⟩, rfl, px_n1 ⟨by decide, by decide⟩ hb hr hg'⟩⟩
   intro vC4 K hK
   go_simp
   apply hK
   clear hK K
   repeat (
    first
     | (apply calm_p rfl; case h1 => (intro w1 hw1 hF K hK; obtain ⟨cp, fp⟩ := (Blk.grow BPZ.out hw1).rules; obtain ⟨cq, fq⟩ := (Blk.grow BQZ.out hw1).rules; obtain ⟨c1, f1⟩ := (Blk.grow BR1.out hw1).rules; obtain ⟨c2, f2⟩ := (Blk.grow BR2.out hw1).rules; go_simp; first | exact hK _ (Grow.refl _) | fail))
     | (apply calm_y rfl rfl rfl; case h1 => (intro w1 hw1 hF K hK; obtain ⟨cp, fp⟩ := (Blk.grow BPZ.out hw1).rules; obtain ⟨cq, fq⟩ := (Blk.grow BQZ.out hw1).rules; obtain ⟨c1, f1⟩ := (Blk.grow BR1.out hw1).rules; obtain ⟨c2, f2⟩ := (Blk.grow BR2.out hw1).rules; go_simp; first | exact hK _ (Grow.refl _) | fail))
     | apply calm_n rfl rfl rfl rfl
    intro K hK
    go_simp
    apply hK
    clear hK K)
   apply calm_fy (QS1 (Is p)) rfl rfl rfl
   case h1 =>
    intro w1 hw1 hF K hK
    go_simp
    exact hK _ _ ((Grow.refl _).al _) ⟨p, _, rfl, (HP.out.grow (hw1.al _)), rfl, Blk.new _ _ _⟩
   intro vC5 K hK
   go_simp
   apply hK
   clear hK K
   apply calm_fy (QPv (N1 11 (Is p))) rfl rfl rfl
   case h1 =>
    intro w1 hw1 hF K hK
    obtain ⟨r, g, hS, hr, hv, hb⟩ := hF _ (List.mem_cons_self ..) ⟨_, rfl, by decide⟩
    subst hv
    go_simp
    go_at_call 22
    refine (on5_any 11 (some ⟨g, 0, none⟩) 1 1 (fun _ => r) w1).mono ?_
    rintro en w' ⟨rfl, hg'⟩
    exact ⟨_, rfl, hK _ _ hg' ⟨nod1 11 (some ⟨g, 0, none⟩) 1 r, ⟨_, _, r, hS, rfl⟩, rfl, px_n1 ⟨by decide, by decide⟩ hb hr hg'⟩⟩
   intro vC6 K hK
   go_simp
   apply hK
   clear hK K
   repeat (
    first
     | (apply calm_p rfl; case h1 => (intro w1 hw1 hF K hK; obtain ⟨cp, fp⟩ := (Blk.grow BPZ.out hw1).rules; obtain ⟨cq, fq⟩ := (Blk.grow BQZ.out hw1).rules; obtain ⟨c1, f1⟩ := (Blk.grow BR1.out hw1).rules; obtain ⟨c2, f2⟩ := (Blk.grow BR2.out hw1).rules; go_simp; first | exact hK _ (Grow.refl _) | fail))
     | (apply calm_y rfl rfl rfl; case h1 => (intro w1 hw1 hF K hK; obtain ⟨cp, fp⟩ := (Blk.grow BPZ.out hw1).rules; obtain ⟨cq, fq⟩ := (Blk.grow BQZ.out hw1).rules; obtain ⟨c1, f1⟩ := (Blk.grow BR1.out hw1).rules; obtain ⟨c2, f2⟩ := (Blk.grow BR2.out hw1).rules; go_simp; first | exact hK _ (Grow.refl _) | fail))
     | apply calm_n rfl rfl rfl rfl
    intro K hK
    go_simp
    apply hK
    clear hK K)
   apply calm_y rfl rfl rfl
   case h1 =>
    intro w1 hw1 hF K hK
    obtain ⟨rC4, hSC4, hvC4, hpC4⟩ := hF _ (List.mem_cons_of_mem _ (List.mem_cons_of_mem _ (List.mem_cons_self ..))) ⟨_, rfl, by decide⟩
    subst hvC4
    obtain ⟨rC6, hSC6, hvC6, hpC6⟩ := hF _ (List.mem_cons_self ..) ⟨_, rfl, by decide⟩
    subst hvC6
    go_simp
    go_at_call 23
    refine (is5_any ts At nt rC4 rC6 ds Ad nd w1 HL.out.1 HL.out.2 (HTS.out.grow hw1) hpC4 hpC6 (HDS.out.grow hw1) (fun a b h1 h2 => qa_pos hSC4 hSC6 h1 h2)).mono ?_
    rintro en w' ⟨rfl, hg'⟩
    exact ⟨_, rfl, hK _ hg'⟩
   intro K hK
   go_simp
   apply hK
   clear hK K
   repeat (
    first
     | (apply calm_p rfl; case h1 => (intro w1 hw1 hF K hK; obtain ⟨cp, fp⟩ := (Blk.grow BPZ.out hw1).rules; obtain ⟨cq, fq⟩ := (Blk.grow BQZ.out hw1).rules; obtain ⟨c1, f1⟩ := (Blk.grow BR1.out hw1).rules; obtain ⟨c2, f2⟩ := (Blk.grow BR2.out hw1).rules; go_simp; first | exact hK _ (Grow.refl _) | fail))
     | (apply calm_y rfl rfl rfl; case h1 => (intro w1 hw1 hF K hK; obtain ⟨cp, fp⟩ := (Blk.grow BPZ.out hw1).rules; obtain ⟨cq, fq⟩ := (Blk.grow BQZ.out hw1).rules; obtain ⟨c1, f1⟩ := (Blk.grow BR1.out hw1).rules; obtain ⟨c2, f2⟩ := (Blk.grow BR2.out hw1).rules; go_simp; first | exact hK _ (Grow.refl _) | fail))
     | apply calm_n rfl rfl rfl rfl
    intro K hK
    go_simp
    apply hK
    clear hK K)
   apply calm_fy (QS2 (N2 5 x (Is p) (Is q)) (N2 6 x (Is p) (Is q))) rfl rfl rfl
   case h1 =>
    intro w1 hw1 hF K hK
    go_simp
    exact hK _ _ ((Grow.refl _).al _) ⟨r1, r2, _, HS1.out, HS2.out, (HR1.out.grow (hw1.al _)), (HR2.out.grow (hw1.al _)), rfl, Blk.new _ _ _⟩
   intro vD1 K hK
   go_simp
   apply hK
   clear hK K
   apply calm_fy (QPv (N2 8 .leaf (N2 5 x (Is p) (Is q)) (N2 6 x (Is p) (Is q)))) rfl rfl rfl
   case h1 =>
    intro w1 hw1 hF K hK
    obtain ⟨r, s, g, hS, hT, hr, hs, hv, hb⟩ := hF _ (List.mem_cons_self ..) ⟨_, rfl, by decide⟩
    subst hv
    go_simp
    go_at_call 22
    refine (on5_any 8 (some ⟨g, 0, none⟩) 2 2 (fun i => if i = 0 then r else s) w1).mono ?_
    rintro en w' ⟨rfl, hg'⟩
    exact ⟨_, rfl, hK _ _ hg' ⟨nod2 8 .leaf (some ⟨g, 0, none⟩) 2 r s, ⟨_, _, r, s, hS, hT, rfl⟩, rfl, px_n2 ⟨by decide, by decide⟩ hb hr hs hg'⟩⟩
   intro vD2 K hK
   go_simp
   apply hK
   clear hK K
   repeat (
    first
     | (apply calm_p rfl; case h1 => (intro w1 hw1 hF K hK; obtain ⟨cp, fp⟩ := (Blk.grow BPZ.out hw1).rules; obtain ⟨cq, fq⟩ := (Blk.grow BQZ.out hw1).rules; obtain ⟨c1, f1⟩ := (Blk.grow BR1.out hw1).rules; obtain ⟨c2, f2⟩ := (Blk.grow BR2.out hw1).rules; go_simp; first | exact hK _ (Grow.refl _) | fail))
     | (apply calm_y rfl rfl rfl; case h1 => (intro w1 hw1 hF K hK; obtain ⟨cp, fp⟩ := (Blk.grow BPZ.out hw1).rules; obtain ⟨cq, fq⟩ := (Blk.grow BQZ.out hw1).rules; obtain ⟨c1, f1⟩ := (Blk.grow BR1.out hw1).rules; obtain ⟨c2, f2⟩ := (Blk.grow BR2.out hw1).rules; go_simp; first | exact hK _ (Grow.refl _) | fail))
     | apply calm_n rfl rfl rfl rfl
    intro K hK
    go_simp
    apply hK
    clear hK K)
   apply calm_y rfl rfl rfl
   case h1 =>
    intro w1 hw1 hF K hK
    obtain ⟨rD2, hSD2, hvD2, hpD2⟩ := hF _ (List.mem_cons_self ..) ⟨_, rfl, by decide⟩
    subst hvD2
    go_simp
    go_at_call 23
    refine (is5_any ts At nt rD2 p ds Ad nd w1 HL.out.1 HL.out.2 (HTS.out.grow hw1) hpD2 (HP.out.grow hw1) (HDS.out.grow hw1) (fun a b h1 h2 => qa_part hSD2 h1 h2)).mono ?_
    rintro en w' ⟨rfl, hg'⟩
    exact ⟨_, rfl, hK _ hg'⟩
   intro K hK
   go_simp
   apply hK
   clear hK K
   repeat (
    first
     | (apply calm_p rfl; case h1 => (intro w1 hw1 hF K hK; obtain ⟨cp, fp⟩ := (Blk.grow BPZ.out hw1).rules; obtain ⟨cq, fq⟩ := (Blk.grow BQZ.out hw1).rules; obtain ⟨c1, f1⟩ := (Blk.grow BR1.out hw1).rules; obtain ⟨c2, f2⟩ := (Blk.grow BR2.out hw1).rules; go_simp; first | exact hK _ (Grow.refl _) | fail))
     | (apply calm_y rfl rfl rfl; case h1 => (intro w1 hw1 hF K hK; obtain ⟨cp, fp⟩ := (Blk.grow BPZ.out hw1).rules; obtain ⟨cq, fq⟩ := (Blk.grow BQZ.out hw1).rules; obtain ⟨c1, f1⟩ := (Blk.grow BR1.out hw1).rules; obtain ⟨c2, f2⟩ := (Blk.grow BR2.out hw1).rules; go_simp; first | exact hK _ (Grow.refl _) | fail))
     | apply calm_n rfl rfl rfl rfl
    intro K hK
    go_simp
    apply hK
    clear hK K)
   refine calm_nil ?_
   intro w1 hw1 hF
   apply hQ0
   clear hQ0
   simp only [List.drop_succ_cons, List.drop_zero]
   clear hF
   go_wp2
   exact bodyPost_ret (v := .bool true) (by simp [results, Tryz.results6, go_sem]) rfl ⟨rfl, GZ.trans hw1⟩
  case hp' => exact ⟨QS2.pers _ _, QPv.pers _, QS2.pers _ _, QPv.pers _, QS2.pers _ _, QPv.pers _, QS2.pers _ _, QPv.pers _, QS1.pers _, QPv.pers _, QS1.pers _, QPv.pers _, QS1.pers _, QPv.pers _, QS1.pers _, QPv.pers _, QS1.pers _, QPv.pers _, QS1.pers _, QPv.pers _, QS2.pers _ _, QPv.pers _, trivial⟩
 case hp' => exact ⟨QK2.pers _ _, QPk.pers _ _ _, QK2.pers _ _, QPk.pers _ _ _, QAl.pers _, QAl.pers _, trivial⟩
end Go.Proofs.YtifpomonpneanaaGreat
