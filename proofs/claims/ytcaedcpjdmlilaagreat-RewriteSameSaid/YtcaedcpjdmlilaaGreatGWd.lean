/-
 Joined texts of this claim: RwA, RwB0. What each proves its own head says; no condition beside those that each theorem names.
-/
import Derived.Test.YtcaedcpjdmlilaaGreatGWc
import Derived.Test.YtcaedcpjdmlilaaGreatGWd0
import Derived.Test.YtcaedcpjdmlilaaGreatGWb7
set_option maxRecDepth 100000
set_option maxHeartbeats 16000000
namespace Go.Proofs.YtcaedcpjdmlilaaGreat
open Go.RowKit Go.Calm
set_option linter.unusedSimpArgs false
set_option linter.unusedVariables false
abbrev SN (w : World) (g : Nat) (r : E) : World := (((((w.setCell ⟨g, 2, none⟩ (.int .i64 r.kind)).setCell ⟨g, 3, none⟩ (.int .i64 r.v.k)).setCell ⟨g, 4, none⟩ (.int .i64 r.v.n)).setCell ⟨g, 5, none⟩ (.string r.v.s)).setCell ⟨g, 6, none⟩ (.int .i64 r.col)).setCell ⟨g, 7, none⟩ (.slice r.A r.n r.cap)
theorem L9 (w : World) (g : Nat) (r : E) {q : Nat} (hq : q ≠ g) : (SN w g r).heap[q]? = w.heap[q]? := by
 unfold SN
 iterate 6 rw [Below.heap_setCell _ ⟨g, _, none⟩ _ q hq]
theorem Vy (w : World) (g : Nat) (r : E) : (SN w g r).heap.size = w.heap.size := by simp [SN]
theorem Vw {w0 w : World} {g : Nat} (hg : za w0 w) (h : w0.heap.size <= g) (r : E) : za w0 (SN w g r) := za.set (za.set (za.set (za.set (za.set (za.set hg h _) h _) h _) h _) h _) h _
theorem DI {w : World} {g : Nat} {t : TypeId} {a0 a1 a2 a3 a4 a5 a6 a7 a8 a9 a10 : Value} (r : E) (h : zb w g t #[a0, a1, a2, a3, a4, a5, a6, a7, a8, a9, a10]) : zb (SN w g r) g t #[a0, a1, .int .i64 r.kind, .int .i64 r.v.k, .int .i64 r.v.n, .string r.v.s, .int .i64 r.col, .slice r.A r.n r.cap, a8, a9, a10] := by
 have B := (((((h.set 2 (.int .i64 r.kind)).set 3 (.int .i64 r.v.k)).set 4 (.int .i64 r.v.n)).set 5 (.string r.v.s)).set 6 (.int .i64 r.col)).set 7 (.slice r.A r.n r.cap); simp only [List.setIfInBounds_toArray, List.set_cons_zero, List.set_cons_succ] at B; exact B
theorem DJ {w : World} {g q : Nat} {t : TypeId} {cs : Array Value} (r : E) (hne : q ≠ g) (h : zb w g t cs) : zb (SN w q r) g t cs := by
 unfold zb at h ⊢; rw [L9 w q r (Ne.symm hne)]; exact h
theorem Fh (ts : List (L2 Int)) (At : Option Addr) (nt : Nat) (k n : Int) (y : E) (xs : jj) (ag : jh) (A : Option Addr) (m cap : Nat) (kid : Nat -> PL) (ih : ∀ i, i < m -> S5 ts At nt (kid i)) : He ts At nt (.mk k n y xs ag A m cap kid) := by
 intro S gw x w hW hp hx hP hX hk4 hlit; have HW := Lib.hid hW; have HP := Lib.hid hP; have HX := Lib.hid hX; have HWp := Lib.hid hp; have HWx := Lib.hid hx; have IH := Lib.hid ih; have HL := Lib.hid hlit; have c0 := hW.c; obtain rfl : k = 4 := hk4; obtain ⟨hm, hk0, hwy, hwk⟩ : (m : Int) = zo 4 /\ 0 <= zo 4 /\ (4 = 2 \/ ((4 : Int) <= 4 /\ (4 : Int) <= 7) -> WfE y) /\ ∀ i, i < m -> Jo (kid i) := hp
 have hkc : ∀ i, i < m -> ∃ g o, A = some ⟨g, o, none⟩ /\ zX w g (o + i * 11) (kid i) := by
  cases hP.px with
  | mk hm hc => exact hc
 have HM := Lib.hid (show m = 2 by unfold zo at hm; simp at hm; omega); have Hwk := Lib.hid hwk; have Hkc := Lib.hid hkc; unfold E.val PL.val; simp only [PL.k, PL.n, PL.x, PL.xs, PL.ag, PL.A, PL.m, PL.cap]; clear hW hx hP hX ih hm hk0 hwy hwk hkc hlit; go_enter Tryz.func131, Tryz.ntmps131; go_upto_region 1 with fail
 refine zc (fun X => zb X w.heap.size 27 #[.int .i64 x.kind, .int .i64 x.v.k, .int .i64 x.v.n, .string x.v.s, .int .i64 x.col, .slice x.A x.n x.cap] /\ zb X (w.heap.size + 1) 31 #[.int .i64 4, .int .i64 n, .int .i64 y.kind, .int .i64 y.v.k, .int .i64 y.v.n, .string y.v.s, .int .i64 y.col, .slice y.A y.n y.cap, .slice xs.A xs.l.length xs.c, .slice ag.A ag.l.length ag.c, .slice A m cap] /\ zb X (w.heap.size + 1 + 1) 31 #[.int .i64 0, .int .i64 0, .int .i64 0, .int .i64 0, .int .i64 0, .string ⟨#[]⟩, .int .i64 0, .slice none 0 0, .slice none 0 0, .slice none 0 0, .slice none 0 0] /\ za w X) ⟨((zb.new _ _ _).al _).al _, (zb.new' _ _ _ (by simp)).al _, zb.new' _ _ _ (by simp), (by with_reducible repeat (first | exact za.refl _ | assumption | refine za.set ?_ (by simp <;> omega) _ | refine za.al ?_ _ | refine za.drew ?_ | refine za.drewN ?_ _ | refine za.trans ?_ (by assumption)))⟩ ?_; rintro X ⟨BX0, BP0, BR0, G⟩; obtain ⟨gx, hgx⟩ : ∃ gx, w.heap.size = gx := ⟨_, rfl⟩
 have hge : w.heap.size <= gx := by omega
 rw [hgx] at BX0 BP0 BR0 ⊢; have BX := Lib.hid BX0; have BP := Lib.hid BP0; have BR := Lib.hid BR0; have HGE := Lib.hid hge; have sz := BR0.lt; have SZ := Lib.hid sz; have n1 : gx ≠ gx + 1 := by omega
 have n2 : gx ≠ gx + 1 + 1 := by omega
 have n3 : gx + 1 ≠ gx + 1 + 1 := by omega
 have lx := BX0.lt; have lp := BP0.lt; obtain ⟨bx, fx⟩ := BX0.rules; obtain ⟨bp, fp⟩ := BP0.rules; have NN := Lib.hid (And.intro n1 (And.intro n2 n3)); have c1 := G.cell c0; have p0 : qI (yg S w.heap.size gx) X (.mk 4 n y xs ag A m cap kid) := (HP.out.mono (T := yg S w.heap.size gx) (fun q hq hs => .inl ⟨hs, hq⟩)).grow G; have x0 : Xj (yg S w.heap.size gx) X x := (HX.out.mono (T := yg S w.heap.size gx) (fun q hq hs => .inl ⟨hs, hq⟩)).grow G; have P0 := Lib.hid p0; have X0 := Lib.hid x0
 have Ts : ∀ (W : World), X.heap.size <= W.heap.size -> ∀ q, Rt (yg S w.heap.size gx) W.heap.size q -> yg S w.heap.size gx q := fun W hW q hq => by
  rcases hq with h | h
  ·exact h
  ·exact .inr ⟨by omega, by omega, by omega, by omega⟩
 have TS := Lib.hid Ts; have cp := fun i (hi : i < m) W (h : za X W) => (IH.out i hi (yg S w.heap.size gx) gw x W (HW.out.grow (G.trans h)) (Hwk.out i hi) HWx.out ((P0.out.kid hi).grow h) (X0.out.grow h)).mono (fun en w' ⟨r, h1, h2, h3, h4⟩ => (⟨r, h1, h2.mono (fun q _ hq => Ts W h.size q hq), h3, h4⟩ : ∃ r : PL, en = Ending.returned (pV r) /\ qI (yg S w.heap.size gx) w' r /\ nP r = zn (zh ts) (nP (kid i)) (nE x) /\ za W w'))
 have cf := fun W (h : za X W) => (XZ (yg S w.heap.size gx) x (.mk 4 n y xs ag A m cap kid) W (X0.out.grow h) (P0.out.grow h)).mono (fun en w' ⟨r, h1, h2, h3, h4⟩ => (⟨r, h1, h2.mono (fun q _ hq => Ts W h.size q hq), h3, h4⟩ : ∃ r : PL, en = Ending.returned (pV r) /\ qI (yg S w.heap.size gx) w' r /\ nP r = xG (nE x) (nP (.mk 4 n y xs ag A m cap kid)) /\ za W w'))
 unfold E.val at cp cf; unfold PL.val at cp cf; simp only [PL.k, PL.n, PL.x, PL.xs, PL.ag, PL.A, PL.m, PL.cap] at cf; have CP := Lib.hid cp; have CF := Lib.hid cf; clear BX0 BP0 BR0 hge sz p0 x0 Ts cp cf; obtain ⟨ga, oa, hA, K0⟩ := Hkc.out 0 (by have := HM.out; omega); subst hA; simp only [Nat.zero_mul, Nat.add_zero] at K0; have K0 := Lib.hid K0; obtain ⟨ga', oa', hA, K1⟩ := Hkc.out 1 (by have := HM.out; omega); cases hA; simp only [Nat.one_mul] at K1; have K1 := Lib.hid K1; have h0m : 0 < m := by have := HM.out; omega
 have h0i : (0 : Int) < (m : Int) := by omega
 obtain ⟨CE, hCE⟩ : ∃ CE, zi (zh ts) (kid 0) = CE := ⟨_, rfl⟩
 have lCE : CE.1.length <= 8 := by rw [<- hCE]; exact YF _ _
 have cc := fun W (h : za X W) => Wn ts At nt gw (kid 0) W (HW.out.grow (G.trans h)) ((P0.out.kid h0m).grow h).px
 rw [hCE] at cc; unfold PL.val at cc; have CC := Lib.hid cc; have HCE := Lib.hid hCE; have LCE := Lib.hid lCE; clear cc hCE lCE; obtain ⟨k0, k1, k2, k3, k4, k5, k6, k7, k8, k9, k10⟩ := K0.out.grow G; go_upto_region 3 with (go_at_call 129; ((with_reducible refine (CC.out _ (by with_reducible repeat (first | exact za.refl _ | assumption | refine za.set ?_ (by simp <;> omega) _ | refine za.al ?_ _ | refine za.drew ?_ | refine za.drewN ?_ _ | refine za.trans ?_ (by assumption)))).mono ?_); rintro e w7 ⟨B7, c7, rfl, hi7, hg7⟩; have G7 : za X w7 := za.trans (by with_reducible repeat (first | exact za.refl _ | assumption | refine za.set ?_ (by simp <;> omega) _ | refine za.al ?_ _ | refine za.drew ?_ | refine za.drewN ?_ _ | refine za.trans ?_ (by assumption))) hg7; obtain ⟨bx7, fx7⟩ := (BX.out.grow G7).rules; obtain ⟨bp7, fp7⟩ := (BP.out.grow G7).rules; have lx7 := (BX.out.grow G7).lt; have lp7 := (BP.out.grow G7).lt)); refine zc (fun Y => ∃ w0, za X w0 /\ T7 w0 Y (w7.heap.size + 1) w7.heap.size (w7.heap.size + 1 + 1) (CE.1.length : Int) true true /\ X.heap.size <= w7.heap.size) ⟨w7.alloc (.cells #[.int .i64 (CE.1.length : Int)] 3), G7.al _, ⟨(zb.new' _ _ _ (by simp)).al _, zb.new' _ _ _ (by simp), (zb.new w7 _ _).cells (i := 0) rfl, by simp, by simp, by omega, (by with_reducible repeat (first | exact za.refl _ | assumption | refine za.set ?_ (by simp <;> omega) _ | refine za.al ?_ _ | refine za.drew ?_ | refine za.drewN ?_ _ | refine za.trans ?_ (by assumption)))⟩, G7.size⟩ ?_; rintro Y ⟨w0, G0, LR, hs7⟩; obtain ⟨gn, hgn⟩ : ∃ gn, w7.heap.size = gn := ⟨_, rfl⟩
 rw [hgn] at LR hs7 ⊢; clear bx7 fx7 bp7 fp7 lx7 lp7 hi7 hg7 G7 k0 k1 k2 k3 k4 k5 k6 k7 k8 k9 k10 bx fx bp fp lx lp hgn CC; obtain ⟨ba, hba⟩ : ∃ ba, zK (fun c => decide (c < (CE.1.length : Int))) x = ba := ⟨_, rfl⟩
 obtain ⟨bb, hbb⟩ : ∃ bb, zK (fun c => decide ((CE.1.length : Int) <= c)) x = bb := ⟨_, rfl⟩
 have HAB := Lib.hid (And.intro hba hbb); have cl := NY w0 (gn + 1) gn (gn + 1 + 1) (CE.1.length : Int) x gx 0 true true Y (X0.out.grow G0).ex ⟨(BX.out.grow G0).cells (i := 0) rfl, (BX.out.grow G0).cells (i := 1) rfl, (BX.out.grow G0).cells (i := 2) rfl, (BX.out.grow G0).cells (i := 3) rfl, (BX.out.grow G0).cells (i := 4) rfl, (BX.out.grow G0).cells (i := 5) rfl⟩ LR; rw [hba, hbb] at cl; have GY := G0.trans LR.g; have bl0 := LR.bl.lt; clear LR hba hbb; go_upto_region 4 with (go_at_call 170; ((with_reducible refine cl.mono ?_); rintro e w9 ⟨rfl, lr9⟩)); simp only [Bool.true_and] at lr9; have g9 := G0.trans lr9.g; obtain ⟨b1, f1⟩ := lr9.bl.rules; obtain ⟨b2, f2⟩ := lr9.br.rules; have cn9 := lr9.g.cell lr9.cn; refine zc (fun Z => za X Z /\ (∀ i, Z.cell? ⟨gn + 1, i, none⟩ = #[Value.bool ba][i]?) /\ (∀ i, Z.cell? ⟨gn + 1 + 1, i, none⟩ = #[Value.bool bb][i]?) /\ Z.cell? ⟨gn, 0, none⟩ = some (.int .i64 (CE.1.length : Int))) ⟨g9, b1, b2, cn9⟩ ?_; clear lr9 g9 b1 f1 b2 f2 cn9 GY cl bl0 G0; rintro Z ⟨GZ, b1, b2, cn9⟩; cases ba
 ·cases bb
  ·obtain ⟨CE2, hCE2⟩ : ∃ CE, zi (zh ts) (.mk 4 n y xs ag (some ⟨ga, oa, none⟩) m cap kid) = CE := ⟨_, rfl⟩
   have lCE2 : CE2.1.length <= 8 := by rw [<- hCE2]; exact YF _ _
   have cc := fun W (h : za X W) => Wn ts At nt gw (.mk 4 n y xs ag (some ⟨ga, oa, none⟩) m cap kid) W (HW.out.grow (G.trans h)) ((P0.out).grow h).px
   rw [hCE2] at cc; have cb := fun (B : Option Addr) (c9 : Nat) W (h : za X W) (hi : xe W B CE2.1) => Lc CE2.1 B c9 y x W (by omega) hi ((P0.out.nx.x).grow h).ex (X0.out.grow h).ex
   obtain ⟨bb, hbb⟩ : ∃ bb, decide ((zr CE2.1 (yO (nE y) (nE x))).2 = 0) = bb := ⟨_, rfl⟩
   rw [hbb] at cb; unfold E.val at cb; unfold PL.val at cc; simp only [PL.k, PL.n, PL.x, PL.xs, PL.ag, PL.A, PL.m, PL.cap] at cc; have CC := Lib.hid cc; have CB := Lib.hid cb; have HCE2 := Lib.hid (And.intro hCE2 hbb); clear cc cb hCE2 hbb; have Y0 := Lib.hid (P0.out.nx.x); obtain ⟨bx, fx⟩ := (BX.out.grow GZ).rules; obtain ⟨bp, fp⟩ := (BP.out.grow GZ).rules; go_wp2
   go_cut [10, 11] (fun a b wx => ∃ (gz : Nat) (z : E), a = .pointer (some ⟨gz, 0, none⟩) /\ b = .bool bb /\ zb wx gz 27 (eC z) /\ Xj (yg S w.heap.size gx) wx z /\ nE z = yO (nE y) (nE x) /\ za X wx)
   case first =>
    apply T1 11 9 (by kernel_rfl) (by kernel_rfl) (Zd rfl rfl rfl)
    case h' =>
     intro Q0 hQ0; simp only [List.take_succ_cons, List.take_zero]
     repeat ((first | ((first | apply calm_p rfl | apply zg rfl rfl rfl); case h1 => (intro w1 hw1 hF K hK; obtain ⟨bx, fx⟩ := (BX.out.grow (GZ.trans hw1)).rules; obtain ⟨bp, fp⟩ := (BP.out.grow (GZ.trans hw1)).rules; go_simp; first | exact hK _ (za.refl _))) | apply ze rfl rfl rfl rfl); intro K hK; go_simp; apply hK; clear hK K)
     apply calm_fp (PSI CE2.1) rfl
     case h1 =>
      intro w1 hw1 hF K hK; obtain ⟨bx, fx⟩ := (BX.out.grow (GZ.trans hw1)).rules; obtain ⟨bp, fp⟩ := (BP.out.grow (GZ.trans hw1)).rules; go_simp
      go_at_call 129
      refine (CC.out w1 (GZ.trans hw1)).mono ?_; rintro en w' ⟨B7, c7, rfl, hi7, hg'⟩; exact ⟨_, rfl, hK _ _ hg' ⟨B7, c7, rfl, hi7⟩⟩
     intro v35 K hK; go_simp; apply hK; clear hK K
     repeat ((first | ((first | apply calm_p rfl | apply zg rfl rfl rfl); case h1 => (intro w1 hw1 hF K hK; obtain ⟨bx, fx⟩ := (BX.out.grow (GZ.trans hw1)).rules; obtain ⟨bp, fp⟩ := (BP.out.grow (GZ.trans hw1)).rules; go_simp; first | exact hK _ (za.refl _))) | apply ze rfl rfl rfl rfl); intro K hK; go_simp; apply hK; clear hK K)
     apply calm_fp (VA y x bb X.heap.size) rfl
     case h1 =>
      intro w1 hw1 hF K hK; obtain ⟨B7, c7, hv, hi7⟩ := hF _ (List.mem_cons_self ..) ⟨_, rfl, by decide⟩; subst hv; go_simp
      go_at_call 128
      refine (CB.out B7 c7 w1 (GZ.trans hw1) hi7).mono ?_; rintro en w' ⟨g, rfl, hge9, hb9, hg'⟩; exact ⟨_, rfl, hK _ _ hg' ⟨g, rfl, Nat.le_trans (GZ.trans hw1).size hge9, hb9⟩⟩
     intro v39 K hK; go_simp; apply hK; clear hK K; apply calm_fp (VA y x bb X.heap.size) rfl
     case h1 =>
      intro w1 hw1 hF K hK; have D9 := hF _ (List.mem_cons_self ..) ⟨_, rfl, by decide⟩; go_simp; exact hK _ _ (za.refl _) D9
     intro v29 K hK; go_simp; apply hK; clear hK K; apply calm_fp (VA1 y x X.heap.size) rfl
     case h1 =>
      intro w1 hw1 hF K hK; obtain ⟨g, hv, hg1, hb1⟩ := hF _ (List.mem_cons_self ..) ⟨_, rfl, by decide⟩; subst hv; go_simp; exact hK _ _ (za.refl _) ⟨g, rfl, hg1, hb1⟩
     intro v40 K hK; go_simp; apply hK; clear hK K; apply calm_fp (Hh bb) rfl
     case h1 =>
      intro w1 hw1 hF K hK; obtain ⟨g, hv, hg1, hb1⟩ := hF _ (List.mem_cons_of_mem _ (List.mem_cons_self ..)) ⟨_, rfl, by decide⟩; subst hv; go_simp; exact hK _ _ (za.refl _) rfl
     intro v41 K hK; go_simp; apply hK; clear hK K; apply calm_fp (VZ X.heap.size) rfl
     case h1 =>
      intro w1 hw1 hF K hK; go_simp; exact hK _ _ ((za.refl _).al _) ⟨w1.heap.size, rfl, (GZ.trans hw1).size, zb.new _ _ _⟩
     intro v7 K hK; go_simp; apply hK; clear hK K; refine calm_nil ?_; intro w1 hw1 hF; apply hQ0; clear hQ0; simp only [List.drop_succ_cons, List.drop_zero]; obtain ⟨gz, hv, hgz, BZ⟩ := hF _ (List.mem_cons_self ..); subst hv; have hv := hF _ (List.mem_cons_of_mem _ (List.mem_cons_self ..)); unfold Hh at hv; subst hv; obtain ⟨g, hv, hg1, hb1⟩ := hF _ (List.mem_cons_of_mem _ (List.mem_cons_of_mem _ (List.mem_cons_self ..))); subst hv; clear hF
     have hne : g ≠ gz := fun h => by
      subst h; have e := (hb1.cell 11).symm.trans (BZ.cell 11); simp at e
     have hw1 := GZ.trans hw1; have hz1 : Xj (fun q => (yg S w.heap.size gx q /\ q < X.heap.size) \/ q = g) w1 (Za 4 y x (some ⟨g, 0, none⟩)) := fun W a => R2 y x (W4 hb1 a (.inr rfl)) (((Y0.out.mono (T := fun q => yg S w.heap.size gx q /\ q < X.heap.size) (fun q a b => ⟨b, a⟩)).grow hw1) W (a.mono (fun q _ h => .inl h))) (((X0.out.mono (T := fun q => yg S w.heap.size gx q /\ q < X.heap.size) (fun q a b => ⟨b, a⟩)).grow hw1) W (a.mono (fun q _ h => .inl h))) ⟨by decide, by decide⟩
     have ZZ := Lib.hid (zb2 (T := yg S w.heap.size gx) hz1 (za.refl w1) BZ (fun q _ hq => by
      rcases hq with ⟨h1, h2⟩ | h
      ·exact ⟨h1, by omega⟩
      ·subst h; exact ⟨TS.out X (Nat.le_refl _) _ (.inr hg1), hne⟩) hw1 hgz)
     have lgz := BZ.lt; obtain ⟨bz, fz⟩ := BZ.rules; clear hz1 hb1 hne hg1 hgz BZ b1 b2 cn9
     go_wp2_with fail
     go_meet; exact ⟨gz, _, rfl, rfl, ZZ.out.1, ZZ.out.2.1, by rw [MR]; rfl, ZZ.out.2.2⟩
    case hp' => exact ⟨PSI.pers _, VA.pers _ _ _ _, VA.pers _ _ _ _, VA1.pers _ _ _, Hh.pers _, VZ.pers _, trivial⟩
   case rest =>
    obtain ⟨gz, z, rfl, rfl, BZ, hzY, hnz, GY⟩ := hcut; rename World => Y
    have BZ' := Lib.hid BZ; have HZ := Lib.hid (And.intro hzY hnz); clear BZ hzY hnz b1 b2 cn9; cases bb
    ·obtain ⟨bx, fx⟩ := (BX.out.grow GY).rules; obtain ⟨bp, fp⟩ := (BP.out.grow GY).rules
     go_wp2_with (go_at_call 130; ((with_reducible refine (CF.out _ GY).mono ?_); rintro en w5 ⟨r, rfl, hr, hn, hg5⟩; obtain ⟨br, fr⟩ := ((BR.out.grow GY).grow hg5).rules; have lr := ((BR.out.grow GY).grow hg5).lt))
     have B3 := zq r (BR.out.grow (GY.trans hg5)); simp only [st11, PL.k, PL.n, PL.x, PL.xs, PL.ag, PL.A, PL.m, PL.cap] at B3; obtain ⟨b3, f3⟩ := B3.rules; refine bodyPost_ret (v := (r).val) (by simp [results, Tryz.results131, go_sem, b3, PL.val, PL.k, PL.n, PL.x, PL.xs, PL.ag, PL.A, PL.m, PL.cap]) rfl ?_; exact RP.put (r := r) hr (hn.trans (by rw [Na HL.out HM.out, HCE.out, if_neg (by simp [HAB.out.1]), if_neg (by simp [HAB.out.2]), HCE2.out.1, if_neg (of_decide_eq_false HCE2.out.2)])) (G.trans (GY.trans hg5)) HGE.out
    ·obtain ⟨bz, fz⟩ := (BZ'.out).rules; have lz := BZ'.out.lt; obtain ⟨bp, fp⟩ := (BP.out.grow GY).rules; have lp := (BP.out.grow GY).lt; go_upto_region 14 with fail
     have n12 := NN.out.2.2; refine zc (fun V => zb V (gx + 1) 31 #[.int .i64 4, .int .i64 n, .int .i64 z.kind, .int .i64 z.v.k, .int .i64 z.v.n, .string z.v.s, .int .i64 z.col, .slice z.A z.n z.cap, .slice xs.A xs.l.length xs.c, .slice ag.A ag.l.length ag.c, .slice (some ⟨ga, oa, none⟩) m cap] /\ zb V (gx + 1 + 1) 31 #[.int .i64 0, .int .i64 0, .int .i64 0, .int .i64 0, .int .i64 0, .string ⟨#[]⟩, .int .i64 0, .slice none 0 0, .slice none 0 0, .slice none 0 0, .slice none 0 0] /\ qI (yg S w.heap.size gx) V (.mk 4 n z xs ag (some ⟨ga, oa, none⟩) m cap kid) /\ za w V) ⟨DI z (BP.out.grow GY), DJ z n12 (BR.out.grow GY), (zbV (P0.out.grow GY) HZ.out.1).move (fun q hq _ => L9 Y (gx + 1) z (by have := HGE.out; rcases hq with h | h; omega; exact h.2.2.1)) (by rw [Vy]; exact Nat.le_refl _), Vw (G.trans GY) (by have := HGE.out; omega) z⟩ ?_; clear bz fz lz bp fp lp n12; rintro V ⟨BPV, BRV, hrr, GV⟩
     have nrr : nP (.mk 4 n z xs ag (some ⟨ga, oa, none⟩) m cap kid) = zn (zh ts) (nP (.mk 4 n y xs ag (some ⟨ga, oa, none⟩) m cap kid)) (nE x) := by
      have e : nP (.mk 4 n z xs ag (some ⟨ga, oa, none⟩) m cap kid) = yY 4 n (nE z) (xs.l.map nE) (ag.l.map nA) m (fun i => nP (kid i)) := rfl; rw [e, Na HL.out HM.out, HCE.out, if_neg (by simp [HAB.out.1]), if_neg (by simp [HAB.out.2]), HCE2.out.1, if_pos (of_decide_eq_true HCE2.out.2), HZ.out.2, HM.out]
     have B3 := Lib.hid (zq (.mk 4 n z xs ag (some ⟨ga, oa, none⟩) m cap kid) BRV); have RR := Lib.hid (And.intro hrr (And.intro nrr GV)); obtain ⟨bp, fp⟩ := BPV.rules; have lp := BPV.lt; obtain ⟨br, fr⟩ := BRV.rules; have lr := BRV.lt; clear hrr nrr GV BPV BRV; go_wp2; have B3 := B3.out; simp only [st11, PL.k, PL.n, PL.x, PL.xs, PL.ag, PL.A, PL.m, PL.cap] at B3; obtain ⟨b3, f3⟩ := B3.rules; refine bodyPost_ret (v := (PL.mk 4 n z xs ag (some ⟨ga, oa, none⟩) m cap kid).val) (by simp [results, Tryz.results131, go_sem, b3, PL.val, PL.k, PL.n, PL.x, PL.xs, PL.ag, PL.A, PL.m, PL.cap]) rfl ?_; exact RP.put (r := PL.mk 4 n z xs ag (some ⟨ga, oa, none⟩) m cap kid) RR.out.1 RR.out.2.1 RR.out.2.2 HGE.out
  ·obtain ⟨nn, hnn⟩ : ∃ nn : Int, (CE.1.length : Int) = nn := ⟨_, rfl⟩
   have n8 : 0 <= nn /\ nn <= 8 := by have := LCE.out; omega
   have hneg : IntKind.i64.wrap (-nn) = -nn := by rw [IntKind.wrap_i64]; omega
   rw [hnn] at cn9; have cm := fun W (h : za X W) => U4 (-nn) (by omega) (by omega) x (yg S w.heap.size gx) W HWx.out (X0.out.grow h) (by rw [Int.neg_neg, <- hnn]; exact HAB.out.2)
   unfold ME E.val at cm; have CM := Lib.hid cm; have wfm : ∀ r : E, nE r = qO (-nn) x -> WfE r := fun r hr => (D4 r).1 (by rw [hr]; exact T0 nn n8.1 x HWx.out (by rw [<- hnn]; exact HAB.out.2))
   have WFM := Lib.hid wfm; have cq := fun (x' : E) (hx' : nE x' = qO (-nn) x) W (h : za X W) (hE : Xj (yg S w.heap.size gx) W x') => (IH.out 1 (by have := HM.out; omega) (yg S w.heap.size gx) gw x' W (HW.out.grow (G.trans h)) (Hwk.out 1 (by have := HM.out; omega)) (wfm x' hx') ((P0.out.kid (by have := HM.out; omega)).grow h) hE).mono (fun en w' ⟨r, h1, h2, h3, h4⟩ => (⟨r, h1, h2.mono (fun q _ hq => TS.out W h.size q hq), h3, h4⟩ : ∃ r : PL, en = Ending.returned (pV r) /\ qI (yg S w.heap.size gx) w' r /\ nP r = zn (zh ts) (nP (kid 1)) (nE x') /\ za W w'))
   unfold E.val PL.val at cq; have CQ := Lib.hid cq; have N8 := Lib.hid (And.intro hnn n8); clear cm wfm cq hnn n8; obtain ⟨bx, fx⟩ := (BX.out.grow GZ).rules; obtain ⟨bp, fp⟩ := (BP.out.grow GZ).rules; have h1i : (1 : Int) < (m : Int) := by have := HM.out; omega
   go_wp2; apply wp_region_calm 16 (by kernel_rfl) (by kernel_rfl)
   case h' =>
    intro Q0 hQ0; simp only [List.take_succ_cons, List.take_zero]
    repeat ((first | ((first | apply calm_p rfl | apply zg rfl rfl rfl); case h1 => (intro w1 hw1 hF K hK; obtain ⟨bx, fx⟩ := (BX.out.grow (GZ.trans hw1)).rules; obtain ⟨bp, fp⟩ := (BP.out.grow (GZ.trans hw1)).rules; obtain ⟨k0, k1, k2, k3, k4, k5, k6, k7, k8, k9, k10⟩ := K0.out.grow (G.trans (GZ.trans hw1)); obtain ⟨j0, j1, j2, j3, j4, j5, j6, j7, j8, j9, j10⟩ := K1.out.grow (G.trans (GZ.trans hw1)); have cn2 := hw1.cell cn9; go_simp; first | exact hK _ (za.refl _))) | apply ze rfl rfl rfl rfl); intro K hK; go_simp; apply hK; clear hK K)
    apply calm_fp (VE (yg S w.heap.size gx) (qO (-nn) x)) rfl
    case h1 =>
     intro w1 hw1 hF K hK; obtain ⟨bx, fx⟩ := (BX.out.grow (GZ.trans hw1)).rules; obtain ⟨bp, fp⟩ := (BP.out.grow (GZ.trans hw1)).rules; obtain ⟨k0, k1, k2, k3, k4, k5, k6, k7, k8, k9, k10⟩ := K0.out.grow (G.trans (GZ.trans hw1)); obtain ⟨j0, j1, j2, j3, j4, j5, j6, j7, j8, j9, j10⟩ := K1.out.grow (G.trans (GZ.trans hw1)); have cn2 := hw1.cell cn9; go_simp
     go_at_call 172
     refine (CM.out w1 (GZ.trans hw1)).mono ?_; rintro en w' ⟨r, rfl, hr, hn, hg'⟩; exact ⟨_, rfl, hK _ _ hg' ⟨r, rfl, hr.mono (fun q _ hq => TS.out w1 (GZ.trans hw1).size q hq), hn⟩⟩
    intro v47 K hK; go_simp; apply hK; clear hK K
    repeat ((first | ((first | apply calm_p rfl | apply zg rfl rfl rfl); case h1 => (intro w1 hw1 hF K hK; obtain ⟨bx, fx⟩ := (BX.out.grow (GZ.trans hw1)).rules; obtain ⟨bp, fp⟩ := (BP.out.grow (GZ.trans hw1)).rules; obtain ⟨k0, k1, k2, k3, k4, k5, k6, k7, k8, k9, k10⟩ := K0.out.grow (G.trans (GZ.trans hw1)); obtain ⟨j0, j1, j2, j3, j4, j5, j6, j7, j8, j9, j10⟩ := K1.out.grow (G.trans (GZ.trans hw1)); have cn2 := hw1.cell cn9; go_simp; first | exact hK _ (za.refl _))) | apply ze rfl rfl rfl rfl); intro K hK; go_simp; apply hK; clear hK K)
    apply calm_fp (VP (yg S w.heap.size gx) (zn (zh ts) (nP (kid 1)) (qO (-nn) x))) rfl
    case h1 =>
     intro w1 hw1 hF K hK; obtain ⟨r0, hv, hr, hn⟩ := hF _ (List.mem_cons_self ..) ⟨_, rfl, by decide⟩; subst hv; go_simp
     go_at_call 90
     refine (CQ.out r0 hn w1 (GZ.trans hw1) hr).mono ?_; rintro en w' ⟨r, rfl, hr', hn', hg'⟩; exact ⟨_, rfl, hK _ _ hg' ⟨r, rfl, hr', hn'.trans (by rw [hn])⟩⟩
    intro v52 K hK; go_simp; apply hK; clear hK K; apply calm_fp (Ta (yg S w.heap.size gx) (nP (kid 0)) (zn (zh ts) (nP (kid 1)) (qO (-nn) x))) rfl
    case h1 =>
     intro w1 hw1 hF K hK; obtain ⟨r, hv, hr, hn⟩ := hF _ (List.mem_cons_self ..) ⟨_, rfl, by decide⟩; subst hv; go_simp; exact hK _ _ ((za.refl _).al _) ⟨w1.heap.size, kid 0, r, rfl, (.inr ⟨by have := HGE.out; have := SZ.out; have := GZ.size; have := hw1.size; omega, by have := SZ.out; have := GZ.size; have := hw1.size; omega, by have := SZ.out; have := GZ.size; have := hw1.size; omega, by have := SZ.out; have := GZ.size; have := hw1.size; omega⟩), zb.new _ _ _, (P0.out.kid (by have := HM.out; omega)).grow ((GZ.trans hw1).al _), hr.grow ((za.refl _).al _), rfl, hn⟩
    intro v53 K hK; go_simp; apply hK; clear hK K
    repeat ((first | ((first | apply calm_p rfl | apply zg rfl rfl rfl); case h1 => (intro w1 hw1 hF K hK; obtain ⟨bx, fx⟩ := (BX.out.grow (GZ.trans hw1)).rules; obtain ⟨bp, fp⟩ := (BP.out.grow (GZ.trans hw1)).rules; go_simp; first | exact hK _ (za.refl _))) | apply ze rfl rfl rfl rfl); intro K hK; go_simp; apply hK; clear hK K)
    refine calm_nil ?_; intro w1 hw1 hF; apply hQ0; clear hQ0; simp only [List.drop_succ_cons, List.drop_zero]; obtain ⟨g2, r, r', hv, hT, hB, hr, hr', hn, hn'⟩ := hF _ (List.mem_cons_self ..); subst hv; clear hF; have GW1 := GZ.trans hw1; obtain ⟨br, fr⟩ := (BR.out.grow GW1).rules; have lr := (BR.out.grow GW1).lt; obtain ⟨bp, fp⟩ := (BP.out.grow GW1).rules; have lp := (BP.out.grow GW1).lt; go_wp2; have hh : ∀ q, q ≠ gx + 1 -> (w1.setCell ⟨gx + 1, 10, none⟩ (.slice (some ⟨g2, 0, none⟩) 2 2)).heap[q]? = w1.heap[q]? := fun q hq => Below.heap_setCell w1 ⟨gx + 1, 10, none⟩ _ q hq
    have ag9 : Zh (yg S w.heap.size gx) w1 (w1.setCell ⟨gx + 1, 10, none⟩ (.slice (some ⟨g2, 0, none⟩) 2 2)) := fun q hq _ => hh q (by have := HGE.out; rcases hq with h | h; omega; exact h.2.2.1)
    have hrr : qI (yg S w.heap.size gx) (w1.setCell ⟨gx + 1, 10, none⟩ (.slice (some ⟨g2, 0, none⟩) 2 2)) (qh 4 n y xs ag g2 2 r r') := (YP 2 hB hT ((P0.out.nx).grow GW1) hr hr').move ag9 (by simp); have nrr : nP (qh 4 n y xs ag g2 2 r r') = zn (zh ts) (nP (.mk 4 n y xs ag (some ⟨ga, oa, none⟩) m cap kid)) (nE x) := by rw [Q4, hn, hn', Na HL.out HM.out, HCE.out, if_neg (by simp [HAB.out.1]), if_pos HAB.out.2, N8.out.1]
    have BRW : zb (w1.setCell ⟨gx + 1, 10, none⟩ (.slice (some ⟨g2, 0, none⟩) 2 2)) (gx + 1 + 1) 31 #[.int .i64 0, .int .i64 0, .int .i64 0, .int .i64 0, .int .i64 0, .string ⟨#[]⟩, .int .i64 0, .slice none 0 0, .slice none 0 0, .slice none 0 0, .slice none 0 0] := zb.other (BR.out.grow GW1) NN.out.2.2 10 _; have GW : za w (w1.setCell ⟨gx + 1, 10, none⟩ (.slice (some ⟨g2, 0, none⟩) 2 2)) := za.set (G.trans GW1) (by have := HGE.out; show w.heap.size <= gx + 1; omega) _; have B3 := zq (qh 4 n y xs ag g2 2 r r') BRW; simp only [st11, qh, PL.k, PL.n, PL.x, PL.xs, PL.ag, PL.A, PL.m, PL.cap] at B3; obtain ⟨b3, f3⟩ := B3.rules; refine bodyPost_ret (v := (qh 4 n y xs ag g2 2 r r').val) (by simp [results, Tryz.results131, go_sem, b3, qh, PL.val, PL.k, PL.n, PL.x, PL.xs, PL.ag, PL.A, PL.m, PL.cap]) rfl ?_; exact RP.put (r := (qh 4 n y xs ag g2 2 r r')) hrr nrr GW HGE.out
   case hp' => exact ⟨VE.pers _ _, VP.pers _ _, Ta.pers _ _ _, trivial⟩
 ·obtain ⟨bx, fx⟩ := (BX.out.grow GZ).rules; obtain ⟨bp, fp⟩ := (BP.out.grow GZ).rules; have h1i : (1 : Int) < (m : Int) := by have := HM.out; omega
  go_wp2; apply wp_region_calm 13 (by kernel_rfl) (by kernel_rfl)
  case h' =>
   intro Q0 hQ0; simp only [List.take_succ_cons, List.take_zero]
   repeat ((first | ((first | apply calm_p rfl | apply zg rfl rfl rfl); case h1 => (intro w1 hw1 hF K hK; obtain ⟨bx, fx⟩ := (BX.out.grow (GZ.trans hw1)).rules; obtain ⟨bp, fp⟩ := (BP.out.grow (GZ.trans hw1)).rules; obtain ⟨k0, k1, k2, k3, k4, k5, k6, k7, k8, k9, k10⟩ := K0.out.grow (G.trans (GZ.trans hw1)); obtain ⟨j0, j1, j2, j3, j4, j5, j6, j7, j8, j9, j10⟩ := K1.out.grow (G.trans (GZ.trans hw1)); have cn2 := hw1.cell cn9; go_simp; first | exact hK _ (za.refl _))) | apply ze rfl rfl rfl rfl); intro K hK; go_simp; apply hK; clear hK K)
   apply calm_fp (VP (yg S w.heap.size gx) (zn (zh ts) (nP (kid 0)) (nE x))) rfl
   case h1 =>
    intro w1 hw1 hF K hK; obtain ⟨bx, fx⟩ := (BX.out.grow (GZ.trans hw1)).rules; obtain ⟨bp, fp⟩ := (BP.out.grow (GZ.trans hw1)).rules; obtain ⟨k0, k1, k2, k3, k4, k5, k6, k7, k8, k9, k10⟩ := K0.out.grow (G.trans (GZ.trans hw1)); obtain ⟨j0, j1, j2, j3, j4, j5, j6, j7, j8, j9, j10⟩ := K1.out.grow (G.trans (GZ.trans hw1)); have cn2 := hw1.cell cn9; go_simp
    go_at_call 90
    refine (CP.out 0 (by have := HM.out; omega) w1 (GZ.trans hw1)).mono ?_; rintro en w' ⟨r, rfl, hr, hn, hg'⟩; exact ⟨_, rfl, hK _ _ hg' ⟨r, rfl, hr, hn⟩⟩
   intro v29 K hK; go_simp; apply hK; clear hK K
   repeat ((first | ((first | apply calm_p rfl | apply zg rfl rfl rfl); case h1 => (intro w1 hw1 hF K hK; obtain ⟨bx, fx⟩ := (BX.out.grow (GZ.trans hw1)).rules; obtain ⟨bp, fp⟩ := (BP.out.grow (GZ.trans hw1)).rules; obtain ⟨k0, k1, k2, k3, k4, k5, k6, k7, k8, k9, k10⟩ := K0.out.grow (G.trans (GZ.trans hw1)); obtain ⟨j0, j1, j2, j3, j4, j5, j6, j7, j8, j9, j10⟩ := K1.out.grow (G.trans (GZ.trans hw1)); have cn2 := hw1.cell cn9; go_simp; first | exact hK _ (za.refl _))) | apply ze rfl rfl rfl rfl); intro K hK; go_simp; apply hK; clear hK K)
   apply calm_fp (Ta (yg S w.heap.size gx) (zn (zh ts) (nP (kid 0)) (nE x)) (nP (kid 1))) rfl
   case h1 =>
    intro w1 hw1 hF K hK; obtain ⟨r, hv, hr, hn⟩ := hF _ (List.mem_cons_self ..) ⟨_, rfl, by decide⟩; subst hv; go_simp; exact hK _ _ ((za.refl _).al _) ⟨w1.heap.size, r, kid 1, rfl, (.inr ⟨by have := HGE.out; have := SZ.out; have := GZ.size; have := hw1.size; omega, by have := SZ.out; have := GZ.size; have := hw1.size; omega, by have := SZ.out; have := GZ.size; have := hw1.size; omega, by have := SZ.out; have := GZ.size; have := hw1.size; omega⟩), zb.new _ _ _, hr.grow ((za.refl _).al _), (P0.out.kid (by have := HM.out; omega)).grow ((GZ.trans hw1).al _), hn, rfl⟩
   intro v34 K hK; go_simp; apply hK; clear hK K
   repeat ((first | ((first | apply calm_p rfl | apply zg rfl rfl rfl); case h1 => (intro w1 hw1 hF K hK; obtain ⟨bx, fx⟩ := (BX.out.grow (GZ.trans hw1)).rules; obtain ⟨bp, fp⟩ := (BP.out.grow (GZ.trans hw1)).rules; go_simp; first | exact hK _ (za.refl _))) | apply ze rfl rfl rfl rfl); intro K hK; go_simp; apply hK; clear hK K)
   refine calm_nil ?_; intro w1 hw1 hF; apply hQ0; clear hQ0; simp only [List.drop_succ_cons, List.drop_zero]; obtain ⟨g2, r, r', hv, hT, hB, hr, hr', hn, hn'⟩ := hF _ (List.mem_cons_self ..); subst hv; clear hF; have GW1 := GZ.trans hw1; obtain ⟨br, fr⟩ := (BR.out.grow GW1).rules; have lr := (BR.out.grow GW1).lt; obtain ⟨bp, fp⟩ := (BP.out.grow GW1).rules; have lp := (BP.out.grow GW1).lt; go_wp2; have hh : ∀ q, q ≠ gx + 1 -> (w1.setCell ⟨gx + 1, 10, none⟩ (.slice (some ⟨g2, 0, none⟩) 2 2)).heap[q]? = w1.heap[q]? := fun q hq => Below.heap_setCell w1 ⟨gx + 1, 10, none⟩ _ q hq
   have ag9 : Zh (yg S w.heap.size gx) w1 (w1.setCell ⟨gx + 1, 10, none⟩ (.slice (some ⟨g2, 0, none⟩) 2 2)) := fun q hq _ => hh q (by have := HGE.out; rcases hq with h | h; omega; exact h.2.2.1)
   have hrr : qI (yg S w.heap.size gx) (w1.setCell ⟨gx + 1, 10, none⟩ (.slice (some ⟨g2, 0, none⟩) 2 2)) (qh 4 n y xs ag g2 2 r r') := (YP 2 hB hT ((P0.out.nx).grow GW1) hr hr').move ag9 (by simp); have nrr : nP (qh 4 n y xs ag g2 2 r r') = zn (zh ts) (nP (.mk 4 n y xs ag (some ⟨ga, oa, none⟩) m cap kid)) (nE x) := by rw [Q4, hn, hn', Na HL.out HM.out, HCE.out, if_pos HAB.out.1]
   have BRW : zb (w1.setCell ⟨gx + 1, 10, none⟩ (.slice (some ⟨g2, 0, none⟩) 2 2)) (gx + 1 + 1) 31 #[.int .i64 0, .int .i64 0, .int .i64 0, .int .i64 0, .int .i64 0, .string ⟨#[]⟩, .int .i64 0, .slice none 0 0, .slice none 0 0, .slice none 0 0, .slice none 0 0] := zb.other (BR.out.grow GW1) NN.out.2.2 10 _; have GW : za w (w1.setCell ⟨gx + 1, 10, none⟩ (.slice (some ⟨g2, 0, none⟩) 2 2)) := za.set (G.trans GW1) (by have := HGE.out; show w.heap.size <= gx + 1; omega) _; have B3 := zq (qh 4 n y xs ag g2 2 r r') BRW; simp only [st11, qh, PL.k, PL.n, PL.x, PL.xs, PL.ag, PL.A, PL.m, PL.cap] at B3; obtain ⟨b3, f3⟩ := B3.rules; refine bodyPost_ret (v := (qh 4 n y xs ag g2 2 r r').val) (by simp [results, Tryz.results131, go_sem, b3, qh, PL.val, PL.k, PL.n, PL.x, PL.xs, PL.ag, PL.A, PL.m, PL.cap]) rfl ?_; exact RP.put (r := (qh 4 n y xs ag g2 2 r r')) hrr nrr GW HGE.out
  case hp' => exact ⟨VP.pers _ _, Ta.pers _ _ _, trivial⟩
abbrev Zm (S : Nat -> Prop) (b gx : Nat) : Nat -> Prop := fun q => (S q /\ q < b) \/ (b <= q /\ q ≠ gx /\ q ≠ gx + 1)
abbrev Ru (S : Nat -> Prop) (b gx g : Nat) : Nat -> Prop := fun q => (S q /\ q < b) \/ (b <= q /\ q ≠ g /\ q ≠ gx /\ q ≠ gx + 1)
theorem RP.put2 {S : Nat -> Prop} {q r : PL} {w W : World} {gx : Nat} (hr : qI (Zm S w.heap.size gx) W r) (hn : nP r = q) (hg : za w W) (hge : w.heap.size <= gx) : RP S q w (st11 W (gx + 1) r) (.returned r.val) := by
 refine ⟨r, rfl, ?_, hn, ja hg (by omega) r⟩; have h1 := hr.move (w' := st11 W (gx + 1) r) (fun q hq _ => yF W (gx + 1) r (by rcases hq with h | h; omega; exact h.2.2)) (by rw [YW]; exact Nat.le_refl _); exact h1.mono (fun q _ hq => hq.imp And.left And.left)
abbrev Xd (w : World) (g o : Nat) (r : PL) : World := ((((((((((w.setCell ⟨g, o, none⟩ (.int .i64 r.k)).setCell ⟨g, o + 1, none⟩ (.int .i64 r.n)).setCell ⟨g, o + 2, none⟩ (.int .i64 r.x.kind)).setCell ⟨g, o + 3, none⟩ (.int .i64 r.x.v.k)).setCell ⟨g, o + 4, none⟩ (.int .i64 r.x.v.n)).setCell ⟨g, o + 5, none⟩ (.string r.x.v.s)).setCell ⟨g, o + 6, none⟩ (.int .i64 r.x.col)).setCell ⟨g, o + 7, none⟩ (.slice r.x.A r.x.n r.x.cap)).setCell ⟨g, o + 8, none⟩ (.slice r.xs.A r.xs.l.length r.xs.c)).setCell ⟨g, o + 9, none⟩ (.slice r.ag.A r.ag.l.length r.ag.c)).setCell ⟨g, o + 10, none⟩ (.slice r.A r.m r.cap)
theorem Kk (w : World) (g o : Nat) (r : PL) {q : Nat} (hq : q ≠ g) : (Xd w g o r).heap[q]? = w.heap[q]? := by
 unfold Xd
 iterate 11 rw [Below.heap_setCell _ ⟨g, _, none⟩ _ q hq]
theorem Kl (w : World) (g o : Nat) (r : PL) : (Xd w g o r).heap.size = w.heap.size := by simp [Xd]
theorem SK {w0 w : World} {g : Nat} (hg : za w0 w) (h : w0.heap.size <= g) (o : Nat) (r : PL) : za w0 (Xd w g o r) := za.set (za.set (za.set (za.set (za.set (za.set (za.set (za.set (za.set (za.set (za.set hg h _) h _) h _) h _) h _) h _) h _) h _) h _) h _) h _
theorem zb.farP {w : World} {g q : Nat} {t : TypeId} {cs : Array Value} (h : zb w g t cs) (hne : q ≠ g) (o : Nat) (r : PL) : zb (Xd w q o r) g t cs := by
 unfold zb at h ⊢; rw [Kk w q o r (Ne.symm hne)]; exact h
theorem zbE (cur : Array Value) (o : Nat) (a0 a1 a2 a3 a4 a5 a6 a7 a8 a9 a10 : Value) (h : o + 11 <= cur.size) : ∃ c : Array Value, c = ((((((((((cur.setIfInBounds o a0).setIfInBounds (o + 1) a1).setIfInBounds (o + 2) a2).setIfInBounds (o + 3) a3).setIfInBounds (o + 4) a4).setIfInBounds (o + 5) a5).setIfInBounds (o + 6) a6).setIfInBounds (o + 7) a7).setIfInBounds (o + 8) a8).setIfInBounds (o + 9) a9).setIfInBounds (o + 10) a10 /\ c.size = cur.size /\ (∀ i u, ([a0, a1, a2, a3, a4, a5, a6, a7, a8, a9, a10] : List Value)[i]? = some u -> c[o + i]? = some u) /\ ∀ p, (p < o \/ o + 11 <= p) -> c[p]? = cur[p]? := by
 refine ⟨_, rfl, by simp, fun i u hu => ?_, fun p hp => ?_⟩
 ·match i, hu with
  | 0, hu => simp at hu; subst hu; simp [Array.getElem?_setIfInBounds]; omega
  | 1, hu => simp at hu; subst hu; simp [Array.getElem?_setIfInBounds]; omega
  | 2, hu => simp at hu; subst hu; simp [Array.getElem?_setIfInBounds]; omega
  | 3, hu => simp at hu; subst hu; simp [Array.getElem?_setIfInBounds]; omega
  | 4, hu => simp at hu; subst hu; simp [Array.getElem?_setIfInBounds]; omega
  | 5, hu => simp at hu; subst hu; simp [Array.getElem?_setIfInBounds]; omega
  | 6, hu => simp at hu; subst hu; simp [Array.getElem?_setIfInBounds]; omega
  | 7, hu => simp at hu; subst hu; simp [Array.getElem?_setIfInBounds]; omega
  | 8, hu => simp at hu; subst hu; simp [Array.getElem?_setIfInBounds]; omega
  | 9, hu => simp at hu; subst hu; simp [Array.getElem?_setIfInBounds]; omega
  | 10, hu => simp at hu; subst hu; simp [Array.getElem?_setIfInBounds]; omega
  | i + 11, hu => simp at hu
 ·simp only [Array.getElem?_setIfInBounds]
  iterate 11 rw [if_neg (by omega)]
theorem Vv {w : World} {g o : Nat} {r : PL} {t : TypeId} {cur : Array Value} (h : zb w g t cur) (ho : o + 11 <= cur.size) : ∃ c, zb (Xd w g o r) g t c /\ c.size = cur.size /\ zX (Xd w g o r) g o r /\ ∀ p, (p < o \/ o + 11 <= p) -> c[p]? = cur[p]? := by
 obtain ⟨c, hc, hs, h0, h6⟩ := zbE cur o (.int .i64 r.k) (.int .i64 r.n) (.int .i64 r.x.kind) (.int .i64 r.x.v.k) (.int .i64 r.x.v.n) (.string r.x.v.s) (.int .i64 r.x.col) (.slice r.x.A r.x.n r.x.cap) (.slice r.xs.A r.xs.l.length r.xs.c) (.slice r.ag.A r.ag.l.length r.ag.c) (.slice r.A r.m r.cap) ho
 have hb : zb (Xd w g o r) g t c := by
  rw [hc]; exact ((((((((((h.set o _).set (o + 1) _).set (o + 2) _).set (o + 3) _).set (o + 4) _).set (o + 5) _).set (o + 6) _).set (o + 7) _).set (o + 8) _).set (o + 9) _).set (o + 10) _
 have f : ∀ i u, ([.int .i64 r.k, .int .i64 r.n, .int .i64 r.x.kind, .int .i64 r.x.v.k, .int .i64 r.x.v.n, .string r.x.v.s, .int .i64 r.x.col, .slice r.x.A r.x.n r.x.cap, .slice r.xs.A r.xs.l.length r.xs.c, .slice r.ag.A r.ag.l.length r.ag.c, .slice r.A r.m r.cap] : List Value)[i]? = some u -> (Xd w g o r).cell? ⟨g, o + i, none⟩ = some u := fun i u hu => by rw [hb.cell]; exact h0 i u hu
 exact ⟨c, hb, hs, ⟨f 0 _ rfl, f 1 _ rfl, f 2 _ rfl, f 3 _ rfl, f 4 _ rfl, f 5 _ rfl, f 6 _ rfl, f 7 _ rfl, f 8 _ rfl, f 9 _ rfl, f 10 _ rfl⟩, h6⟩
structure VN (S : Nat -> Prop) (w wr : World) (gx : Nat) (B : Option Addr) (n j : Nat) (Q : PL -> PL) (kid F : Nat -> PL) : Prop where
 row : (n = 0 /\ B = none) \/ ∃ g cur, B = some ⟨g, 0, none⟩ /\ w.heap.size <= g /\ g ≠ gx /\ g ≠ gx + 1 /\ zb wr g 31 cur /\ n * 11 <= cur.size /\ (∀ i, i < n -> zX wr g (i * 11) (F i)) /\ ∀ i, i < j -> qI (Ru S w.heap.size gx g) wr (F i)
 done : ∀ i, i < j -> nP (F i) = Q (nP (kid i))
 todo : ∀ i, j <= i -> F i = kid i
theorem VN.grow {S : Nat -> Prop} {w wr w' : World} {gx : Nat} {B : Option Addr} {n j : Nat} {Q : PL -> PL} {kid F : Nat -> PL} (h : VN S w wr gx B n j Q kid F) (hg : za wr w') : VN S w w' gx B n j Q kid F := by
 refine ⟨?_, h.done, h.todo⟩; rcases h.row with h | ⟨g, cur, a, b, c, d, e, f, i, k⟩
 ·exact .inl h
 ·exact .inr ⟨g, cur, a, b, c, d, e.grow hg, f, fun q hq => (i q hq).grow hg, fun q hq => (k q hq).grow hg⟩
theorem VN.put {S : Nat -> Prop} {w wr : World} {gx g : Nat} {n j : Nat} {Q : PL -> PL} {kid F : Nat -> PL} (h : VN S w wr gx (some ⟨g, 0, none⟩) n j Q kid F) (hj : j < n) {r : PL} (hr : qI (Ru S w.heap.size gx g) wr r) (hn : nP r = Q (nP (kid j))) :
  VN S w (Xd wr g (j * 11) r) gx (some ⟨g, 0, none⟩) n (j + 1) Q kid (fun i => if i = j then r else F i) := by
 refine ⟨?_, fun i hi => ?_, fun i hi => ?_⟩
 ·rcases h.row with ⟨h0, _⟩ | ⟨g', cur, e, b, c, d, hb, f, hc, hk⟩
  ·omega
  ·cases e; obtain ⟨c', hb', hs, hec, ho⟩ := Vv (r := r) (o := j * 11) hb (by omega); have agr : Zh (Ru S w.heap.size gx g) wr (Xd wr g (j * 11) r) := fun q hq _ => Kk wr g (j * 11) r (by rcases hq with ⟨_, h⟩ | h; omega; exact h.2.1)
   refine .inr ⟨g, c', rfl, b, c, d, hb', by omega, fun i hi => ?_, fun i hi => ?_⟩
   ·by_cases hij : i = j
    ·subst hij; rw [if_pos rfl]; exact hec
    ·rw [if_neg hij]; have hc := hc i hi
     have tr : ∀ k u, k < 11 -> wr.cell? ⟨g, i * 11 + k, none⟩ = some u -> (Xd wr g (j * 11) r).cell? ⟨g, i * 11 + k, none⟩ = some u := fun k u hk hu => by
      rw [hb.cell] at hu; rw [hb'.cell, ho _ (by omega)]; exact hu
     exact ⟨tr 0 _ (by omega) hc.c0, tr 1 _ (by omega) hc.c1, tr 2 _ (by omega) hc.c2, tr 3 _ (by omega) hc.c3, tr 4 _ (by omega) hc.c4, tr 5 _ (by omega) hc.c5, tr 6 _ (by omega) hc.c6, tr 7 _ (by omega) hc.c7, tr 8 _ (by omega) hc.c8, tr 9 _ (by omega) hc.c9, tr 10 _ (by omega) hc.c10⟩
   ·by_cases hij : i = j
    ·subst hij; simp only [if_pos]; exact hr.move agr (by rw [Kl]; exact Nat.le_refl _)
    ·simp only [if_neg hij]; exact (hk i (by omega)).move agr (by rw [Kl]; exact Nat.le_refl _)
 ·by_cases hij : i = j
  ·subst hij; simp only [if_pos]; exact hn
  ·simp only [if_neg hij]; exact h.done i (by omega)
 ·simp only [if_neg (show ¬ i = j by omega)]; exact h.todo i (by omega)
theorem VN.fin {S : Nat -> Prop} {w wr : World} {gx : Nat} {B : Option Addr} {m cap' : Nat} {Q : PL -> PL} {kid F : Nat -> PL} {k n : Int} {y : E} {xs : jj} {ag : jh} (h : VN S w wr gx B m m Q kid F) (hx : Mo S w k n y xs ag) (hm : m <= 10) (hg : za w wr) :
  qI (Zm S w.heap.size gx) wr (.mk k n y xs ag B m cap' F) /\ nP (.mk k n y xs ag B m cap' F) = yY k n (nE y) (xs.l.map nE) (ag.l.map nA) m (fun i => Q (nP (kid i))) := by
 have hx' : Mo (Zm S w.heap.size gx) wr k n y xs ag := ((hx.mono (T := fun q => S q /\ q < w.heap.size) (fun q a b => ⟨b, a⟩)).grow hg).mono (fun q _ hq => .inl hq)
 constructor
 ·intro W a; have nx := hx' W a; rcases h.row with ⟨h0, rfl⟩ | ⟨g, cur, rfl, b, c1, d, hb, f, hcs, hk⟩
  ·subst h0; exact .mk (Nat.zero_le _) (fun i hi => absurd hi (Nat.not_lt_zero _)) (fun i hi => absurd hi (Nat.not_lt_zero _)) nx.hx nx.hs nx.ha nx.hl nx.hi
  ·refine .mk (by show m <= 140737488355328; omega) (fun i hi => ⟨g, 0, rfl, ?_⟩) (fun i hi => hk i hi W (a.mono (fun q _ hq => ?_))) nx.hx nx.hs nx.ha nx.hl nx.hi
   ·rw [Nat.zero_add]; exact (hcs i hi).agr a (.inr ⟨b, c1, d⟩)
   ·rcases hq with hq | hq
    ·exact .inl hq
    ·exact .inr ⟨hq.1, hq.2.2⟩
 ·show yY k n (nE y) (xs.l.map nE) (ag.l.map nA) m (fun i => nP (F i)) = _; exact kW (fun i hi => h.done i hi)
theorem qI.al9 {S : Nat -> Prop} {w : World} {p : PL} (h : qI S w p) (o : _) : qI S (w.alloc o) p := h.grow ((za.refl _).al o)
section
variable {ts : List (List Int)} {k n : Int} {y : E} {xs : jj} {ag : jh} {A : Option Addr} {m cap : Nat} {kid : Nat -> PL}
theorem FS : zx ts (nP (.mk 2 n y xs ag A 1 cap kid)) = zn ts (zx ts (nP (kid 0))) (nE y) := rfl
theorem jg (h : k ≠ 2 /\ k ≠ 10 /\ k ≠ 11) : zx ts (nP (.mk k n y xs ag A m cap kid)) = yY k n (nE y) (xs.l.map nE) (ag.l.map nA) m (fun i => zx ts (nP (kid i))) := by
 show zx ts (yY k n (nE y) (xs.l.map nE) (ag.l.map nA) m (fun i => nP (kid i))) = _
 conv => lhs; unfold yY zx
 rw [if_neg h.1, if_neg (by omega)]; exact kW (fun i hi => by simp only [if_pos hi])
theorem J9 (hk : k = 10 \/ k = 11) : zx ts (nP (.mk k n y xs ag A 1 cap kid)) = if (zx ts (nP (kid 0))).k = 11 \/ (zx ts (nP (kid 0))).k = k then zx ts (nP (kid 0)) else if (zx ts (nP (kid 0))).k = 10 then yY k 0 .leaf [] [] 1 (fun _ => (zx ts (nP (kid 0))).kid 0) else yY k n (nE y) (xs.l.map nE) (ag.l.map nA) 1 (fun i => zx ts (nP (kid i))) := by
 show zx ts (yY k n (nE y) (xs.l.map nE) (ag.l.map nA) 1 (fun i => nP (kid i))) = _
 conv => lhs; unfold yY zx
 rw [if_neg (by omega), if_pos hk]; simp only [if_pos (show (0 : Nat) < 1 by omega)]; have e : yY k n (nE y) (xs.l.map nE) (ag.l.map nA) 1 (fun i => zx ts (if i < 1 then nP (kid i) else .leaf)) = yY k n (nE y) (xs.l.map nE) (ag.l.map nA) 1 (fun i => zx ts (nP (kid i))) := kW (fun i hi => by simp only [if_pos hi]); rw [e]
variable {fk fn : Int} {fy : E} {fxs : jj} {fag : jh} {fA : Option Addr} {fm fcap : Nat} {fkid : Nat -> PL}
theorem Q8 (hk : k = 10 \/ k = 11) (h : nP (.mk fk fn fy fxs fag fA fm fcap fkid) = zx ts (nP (kid 0))) (h1 : fk = 11 \/ fk = k) : zx ts (nP (.mk k n y xs ag A 1 cap kid)) = zx ts (nP (kid 0)) := by
 rw [J9 hk, if_pos (by rw [<- h]; exact h1)]
theorem Vg (h : nP (.mk 10 fn fy fxs fag fA 1 fcap fkid) = zx ts (nP (kid 0))) : zx ts (nP (.mk 11 n y xs ag A 1 cap kid)) = yY 11 0 .leaf [] [] 1 (fun _ => nP (fkid 0)) := by
 rw [J9 (.inr rfl), <- h, if_neg (by show ¬ ((10 : Int) = 11 \/ (10 : Int) = 11); decide), if_pos (show (nP (PL.mk 10 fn fy fxs fag fA 1 fcap fkid)).k = 10 from rfl)]; rfl
theorem LV (hk : k = 10 \/ k = 11) (h : nP (.mk fk fn fy fxs fag fA fm fcap fkid) = zx ts (nP (kid 0))) (h1 : fk ≠ 11) (h2 : fk ≠ 10) : zx ts (nP (.mk k n y xs ag A 1 cap kid)) = yY k n (nE y) (xs.l.map nE) (ag.l.map nA) 1 (fun i => zx ts (nP (kid i))) := by
 have e : (zx ts (nP (kid 0))).k = fk := by rw [<- h]; rfl
 rw [J9 hk, e, if_neg (by omega), if_neg h2]
end
theorem zbG {w : World} {g o : Nat} {t : TypeId} {cur : Array Value} (h : zb w g t cur) (ho : o + 11 <= cur.size) : ∃ u0 u1 u2 u3 u4 u5 u6 u7 u8 u9 u10, w.cell? ⟨g, o, none⟩ = some u0 /\ w.cell? ⟨g, o + 1, none⟩ = some u1 /\ w.cell? ⟨g, o + 2, none⟩ = some u2 /\ w.cell? ⟨g, o + 3, none⟩ = some u3 /\ w.cell? ⟨g, o + 4, none⟩ = some u4 /\ w.cell? ⟨g, o + 5, none⟩ = some u5 /\ w.cell? ⟨g, o + 6, none⟩ = some u6 /\ w.cell? ⟨g, o + 7, none⟩ = some u7 /\ w.cell? ⟨g, o + 8, none⟩ = some u8 /\ w.cell? ⟨g, o + 9, none⟩ = some u9 /\ w.cell? ⟨g, o + 10, none⟩ = some u10 := by
 have f : ∀ i, i < cur.size -> w.cell? ⟨g, i, none⟩ = some (cur.getD i undef) := fun i hi => by rw [h.cell]; simp [hi]
 exact ⟨_, _, _, _, _, _, _, _, _, _, _, f _ (by omega), f _ (by omega), f _ (by omega), f _ (by omega), f _ (by omega), f _ (by omega), f _ (by omega), f _ (by omega), f _ (by omega), f _ (by omega), f _ (by omega)⟩
end Go.Proofs.YtcaedcpjdmlilaaGreat

