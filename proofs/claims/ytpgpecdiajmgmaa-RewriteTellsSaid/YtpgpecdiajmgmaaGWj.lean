/-
  Joined texts of this claim: RfE4l, RfE4r. What each proves its own head says; no condition beside those that each theorem names.
-/
import Derived.Test.YtpgpecdiajmgmaaGWf
import Derived.Test.YtpgpecdiajmgmaaGWd
namespace Go.Proofs.Ytpgpecdiajmgmaa
open Go.RowKit Go.Calm
set_option linter.unusedSimpArgs false
set_option linter.unusedVariables false

set_option maxRecDepth 100000 in
set_option maxHeartbeats 16000000 in
theorem sink_4l (ts : List (L2 Int)) (At : Option Addr) (nt : Nat) (k n : Int) (y : E) (xs : XsS) (ag : AgS) (A : Option Addr) (m cap : Nat) (kid : Nat → PL) (hk : k = 4) (ih : ∀ i, i < m → SinkC ts At nt (kid i)) : ∀ (S : Nat → Prop) (x : E) (w : World), TbS w ts At → WfP (.mk k n y xs ag A m cap kid) → WfE x → PXs S w (.mk k n y xs ag A m cap kid) → EXs S w x → litT x = false → colsAll (fun c => decide (c < ((colsE (tabs ts) (kid 0)).1.length : Int))) x = true → Calls Try.prog 57 #[.slice At ts.length nt, x.val, (PL.mk k n y xs ag A m cap kid).val] w fun en w' => RP S (pushP (tabs ts) (nP (.mk k n y xs ag A m cap kid)) (nE x)) w w' en := by
  intro S x w hW hp hx hP hX hlit hcase
  have IH := Lib.hid ih
  clear ih
  have HK := Lib.hid hk
  clear hk
  have HW := Lib.hid hW
  have HP := Lib.hid hP
  have HX := Lib.hid hX
  have HWp := Lib.hid hp
  have HWx := Lib.hid hx
  have HL := Lib.hid hlit
  have hkc : ∀ i, i < m → ∃ g o, A = some ⟨g, o, none⟩ ∧ PCells w g (o + i * 11) (kid i) := by
    cases hP.px with
    | mk hm hc => exact hc
  have HM := Lib.hid (show (m : Int) = kidsP k from hp.1)
  have HM2 := Lib.hid (show m ≤ 2 by have h1 : (m : Int) = kidsP k := hp.1; have := kidsP_le k; omega)
  have Hwk := Lib.hid hp.2.2.2
  have Hkc := Lib.hid hkc
  unfold E.val PL.val
  simp only [PL.k, PL.n, PL.x, PL.xs, PL.ag, PL.A, PL.m, PL.cap]
  clear hW hx hP hX hp hkc hlit
  go_enter Try.func57, Try.ntmps57
  go_upto_region 1 with fail
  refine wp_forget (fun X => Blk X w.heap.size 27 #[.int .i64 x.kind, .int .i64 x.v.k, .int .i64 x.v.n, .string x.v.s, .int .i64 x.col, .slice x.A x.n x.cap] ∧ Blk X (w.heap.size + 1) 31 #[.int .i64 k, .int .i64 n, .int .i64 y.kind, .int .i64 y.v.k, .int .i64 y.v.n, .string y.v.s, .int .i64 y.col, .slice y.A y.n y.cap, .slice xs.A xs.l.length xs.c, .slice ag.A ag.l.length ag.c, .slice A m cap] ∧ Blk X (w.heap.size + 1 + 1) 31 #[.int .i64 0, .int .i64 0, .int .i64 0, .int .i64 0, .int .i64 0, .string ⟨#[]⟩, .int .i64 0, .slice none 0 0, .slice none 0 0, .slice none 0 0, .slice none 0 0] ∧ Grow w X) ⟨((Blk.new _ _ _).al _).al _, (Blk.new' _ _ _ (by simp)).al _, Blk.new' _ _ _ (by simp), (by repeat (first | (with_reducible exact Grow.refl _) | (with_reducible assumption) | (with_reducible refine Grow.set ?_ (by first | (simp; done) | (simp; omega)) _) | (with_reducible refine Grow.al ?_ _) | (with_reducible refine Grow.drew ?_) | (with_reducible refine Grow.drewN ?_ _) | (with_reducible refine Grow.trans ?_ (by assumption))))⟩ ?_
  rintro X ⟨BX0, BP0, BR0, G⟩
  obtain ⟨gx, hgx⟩ : ∃ gx, w.heap.size = gx := ⟨_, rfl⟩
  have HGX := Lib.hid hgx
  rw [hgx] at BX0 BP0 BR0 ⊢
  clear hgx
  have BX := Lib.hid BX0
  have BP := Lib.hid BP0
  have BR := Lib.hid BR0
  have lx := BX0.lt
  have lp := BP0.lt
  obtain ⟨bx, fx⟩ := BX0.rules
  obtain ⟨bp, fp⟩ := BP0.rules
  clear BX0 BP0 BR0
  go_cut [29] (fun s wx => s = .bool (litT x) ∧ wx = X)
  case first =>
    by_cases a1 : x.kind = 1
    · have d1 : (x.kind == 1) = true := by simpa using a1
      by_cases a2 : x.v.k = 2
      · have d2 : (x.v.k == 2) = true := by simpa using a2
        by_cases a3 : x.v.n = 1
        · have d3 : (x.v.n == 1) = true := by simpa using a3
          go_wp2
          go_meet
          exact ⟨by simp [litT, a1, a2, a3], rfl⟩
        · have d3 : (x.v.n == 1) = false := by simpa using a3
          go_wp2
          go_meet
          exact ⟨by simp [litT, a1, a2, a3], rfl⟩
      · have d2 : (x.v.k == 2) = false := by simpa using a2
        go_wp2
        go_meet
        exact ⟨by simp [litT, a1, a2], rfl⟩
    · have d1 : (x.kind == 1) = false := by simpa using a1
      go_wp2
      go_meet
      exact ⟨by simp [litT, a1], rfl⟩
  obtain ⟨rfl, rfl⟩ := hcut
  rename World => X
  rw [HL.out]
  clear bx fx lx
  go_upto_region 3 with fail
  clear bp fp lp
  apply wp_region_calm 16 (by kernel_rfl) (by kernel_rfl)
  case h' =>
    intro Q0 hQ0
    simp only [List.take_succ_cons, List.take_zero]
    repeat (
      first
        | (apply calm_p rfl; case h1 => (intro w1 hw1 hF K hK; obtain ⟨bp, fp⟩ := (BP.out.grow hw1).rules; go_simp; first | exact hK _ (Grow.refl _) | fail))
        | (apply calm_y rfl rfl rfl; case h1 => (intro w1 hw1 hF K hK; obtain ⟨bp, fp⟩ := (BP.out.grow hw1).rules; go_simp; first | exact hK _ (Grow.refl _) | fail))
        | apply calm_n rfl rfl rfl rfl
      intro K hK
      go_simp
      apply hK
      clear hK K)
    apply calm_fp (DE0 X.heap.size) rfl
    case h1 =>
      intro w1 hw1 hF K hK
      go_simp
      exact hK _ _ ((Grow.refl _).al _) ⟨w1.heap.size, rfl, hw1.size, Blk.new _ _ _⟩
    intro v41 K hK
    go_simp
    apply hK
    clear hK K
    repeat (
      first
        | (apply calm_p rfl; case h1 => (intro w1 hw1 hF K hK; obtain ⟨bp, fp⟩ := (BP.out.grow hw1).rules; go_simp; first | exact hK _ (Grow.refl _) | fail))
        | (apply calm_y rfl rfl rfl; case h1 => (intro w1 hw1 hF K hK; obtain ⟨bp, fp⟩ := (BP.out.grow hw1).rules; go_simp; first | exact hK _ (Grow.refl _) | fail))
        | apply calm_n rfl rfl rfl rfl
      intro K hK
      go_simp
      apply hK
      clear hK K)
    apply calm_fp (DRow X.heap.size m kid) rfl
    case h1 =>
      intro w1 hw1 hF K hK
      obtain ⟨g, hv, hg, hB⟩ := hF _ (List.mem_cons_self ..) ⟨_, rfl, by decide⟩
      subst hv
      obtain ⟨B, cap', w', hr, hrow, hg'⟩ := run_fresh 29 (lo := X.heap.size) (m := m) (kid := kid) (A := A) (cap := cap) (by have := HM2.out; omega) (fun i hi => by obtain ⟨g, o, a, b⟩ := Hkc.out i hi; exact ⟨g, o, a, b.grow (G.trans hw1)⟩) hB hg
      exact calm_append (.tmp 41) (.tmp 43) 29 rfl 29 rfl (.slice (some ⟨g, 0, none⟩) 0 0) (.slice A m cap) rfl rfl (.slice B m cap') w' hr (hK _ _ hg' ⟨B, cap', rfl, hrow⟩)
    intro v44 K hK
    go_simp
    apply hK
    clear hK K
    apply calm_fp (DOut k n y xs ag X.heap.size m kid) rfl
    case h1 =>
      intro w1 hw1 hF K hK
      obtain ⟨B, cap', hv, hrow⟩ := hF _ (List.mem_cons_self ..) ⟨_, rfl, by decide⟩
      subst hv
      go_simp
      exact hK _ _ (Grow.refl _) ⟨B, cap', rfl, hrow⟩
    intro v45 K hK
    go_simp
    apply hK
    clear hK K
    apply calm_fp (DZ X.heap.size) rfl
    case h1 =>
      intro w1 hw1 hF K hK
      go_simp
      exact hK _ _ ((Grow.refl _).al _) ⟨w1.heap.size, rfl, hw1.size, Blk.new _ _ _⟩
    intro v7 K hK
    go_simp
    apply hK
    clear hK K
    refine calm_nil ?_
    intro w1 hw1 hF
    apply hQ0
    clear hQ0
    simp only [List.drop_succ_cons, List.drop_zero]
    obtain ⟨go', hv, hgo, BZ⟩ := hF _ (List.mem_cons_self ..)
    subst hv
    obtain ⟨B, cap', hv, hrow⟩ := hF _ (List.mem_cons_of_mem _ (List.mem_cons_self ..))
    subst hv
    clear hF
    obtain ⟨bz, fz⟩ := BZ.rules
    have lz := BZ.lt
    have HNE := Lib.hid (hrow.ne Hwk.out BZ)
    have LRX := Lib.hid (show gx + 1 + 1 < X.heap.size from BR.out.lt)
    have ST := Lib.hid (And.intro (st11_blk (PL.mk k n y xs ag B m cap' kid) BZ) (hrow.st Hwk.out BZ (PL.mk k n y xs ag B m cap' kid)))
    have LR := Lib.hid (show gx + 1 + 1 < go' by have := BR.out.lt; omega)
    have GZ := Lib.hid (show X.heap.size ≤ go' from hgo)
    clear hrow BZ hgo
    go_upto_region 4 with fail
    refine wp_forget (fun Z => Blk Z gx 27 #[.int .i64 x.kind, .int .i64 x.v.k, .int .i64 x.v.n, .string x.v.s, .int .i64 x.col, .slice x.A x.n x.cap] ∧ Blk Z (gx + 1) 31 #[.int .i64 k, .int .i64 n, .int .i64 y.kind, .int .i64 y.v.k, .int .i64 y.v.n, .string y.v.s, .int .i64 y.col, .slice y.A y.n y.cap, .slice xs.A xs.l.length xs.c, .slice ag.A ag.l.length ag.c, .slice A m cap] ∧ Blk Z (gx + 1 + 1) 31 #[.int .i64 0, .int .i64 0, .int .i64 0, .int .i64 0, .int .i64 0, .string ⟨#[]⟩, .int .i64 0, .slice none 0 0, .slice none 0 0, .slice none 0 0, .slice none 0 0] ∧ Blk Z go' 31 #[.int .i64 k, .int .i64 n, .int .i64 y.kind, .int .i64 y.v.k, .int .i64 y.v.n, .string y.v.s, .int .i64 y.col, .slice y.A y.n y.cap, .slice xs.A xs.l.length xs.c, .slice ag.A ag.l.length ag.c, .slice B m cap'] ∧ RowQ Z X.heap.size B m kid ∧ Grow X Z) ⟨by have h1 := LR.out; have h2 : go' ≠ gx := (by omega); exact st11_far (PL.mk k n y xs ag B m cap' kid) h2 (BX.out.grow hw1), by have h1 := LR.out; have h2 : go' ≠ gx + 1 := (by omega); exact st11_far (PL.mk k n y xs ag B m cap' kid) h2 (BP.out.grow hw1), by have h1 := LR.out; have h2 : go' ≠ gx + 1 + 1 := (by omega); exact st11_far (PL.mk k n y xs ag B m cap' kid) h2 (BR.out.grow hw1), ST.out.1, ST.out.2, st11_grow hw1 GZ.out (PL.mk k n y xs ag B m cap' kid)⟩ ?_
    have GOX := Lib.hid (show gx + 1 + 1 < go' from LR.out)
    clear ST bz fz lz BX BP BR hw1
    rintro Z ⟨BX0, BP0, BR0, BO0, rq, GXZ⟩
    have BX := Lib.hid BX0
    have BP := Lib.hid BP0
    have BR := Lib.hid BR0
    have BO := Lib.hid BO0
    have RQ := Lib.hid rq
    obtain ⟨bx, fx⟩ := BX0.rules
    obtain ⟨bp, fp⟩ := BP0.rules
    have lx := BX0.lt
    have lp := BP0.lt
    have gw := G.trans GXZ
    have GW := Lib.hid gw
    have p1 : PXs (fun q => S q ∧ q < w.heap.size) Z (.mk k n y xs ag A m cap kid) := (HP.out.mono (T := fun q => S q ∧ q < w.heap.size) (fun q hq hs => ⟨hs, hq⟩)).grow gw
    have x1 : EXs (fun q => S q ∧ q < w.heap.size) Z x := (HX.out.mono (T := fun q => S q ∧ q < w.heap.size) (fun q hq hs => ⟨hs, hq⟩)).grow gw
    have P1 := Lib.hid p1
    have X1 := Lib.hid x1
    have tz : ∀ (W : World), Grow Z W → ∀ q, Snew (fun q => S q ∧ q < w.heap.size) W.heap.size q → Snew (fun q => S q ∧ q < w.heap.size) Z.heap.size q := fun W h q hq => hq.imp id (fun h2 => Nat.le_trans h.size h2)
    have TZ := Lib.hid tz
    have tf : ∀ q, Snew (fun q => S q ∧ q < w.heap.size) Z.heap.size q → Sown S w.heap.size gx q := fun q hq => by
      have h1 := HGX.out
      have h2 := BR0.lt
      rcases hq with h | h
      · exact .inl h
      · exact .inr ⟨by omega, by omega, by omega, by omega⟩
    have TF := Lib.hid tf
    have HGE := Lib.hid (show w.heap.size ≤ gx by have := HGX.out; omega)
    clear BX0 BP0 BR0 BO0 rq gw p1 x1 tz tf
    have cs := fun i (hi : i < m) W (h : Grow Z W) => (IH.out i hi (fun q => S q ∧ q < w.heap.size) x W (HW.out.grow (GW.out.trans h)) (Hwk.out i hi) HWx.out ((P1.out.kid hi).grow h) (X1.out.grow h)).mono (fun en w' ⟨r, h1, h2, h3, h4⟩ => (⟨r, h1, h2.mono (fun q _ hq => TZ.out W h q hq), h3, h4⟩ : ∃ r : PL, en = Ending.returned (pV r) ∧ PXs (Snew (fun q => S q ∧ q < w.heap.size) Z.heap.size) w' r ∧ nP r = pushP (tabs ts) (nP (kid i)) (nE x) ∧ Grow W w'))
    unfold E.val PL.val at cs
    have CS := Lib.hid cs
    clear cs
    have hk := HK.out
    subst hk
    have HM1 := Lib.hid (show m = 2 by have := HM.out; unfold kidsP at this; simp at this; omega)
    clear HM
    have h0m : 0 < m := by have := HM1.out; omega
    have h0i : (0 : Int) < (m : Int) := by omega
    obtain ⟨ga, oa, hA, K0⟩ := Hkc.out 0 (by have := HM1.out; omega)
    subst hA
    simp only [Nat.zero_mul, Nat.add_zero] at K0
    have K0 := Lib.hid K0
    have h1m : 1 < m := by have := HM1.out; omega
    have h1i : (1 : Int) < (m : Int) := by omega
    obtain ⟨ga', oa', hA, K1⟩ := Hkc.out 1 (by have := HM1.out; omega)
    cases hA
    simp only [Nat.one_mul] at K1
    have K1 := Lib.hid K1
    obtain ⟨CE, hCE⟩ : ∃ CE, colsE (tabs ts) (kid 0) = CE := ⟨_, rfl⟩
    have lCE : CE.1.length ≤ 8 := by rw [← hCE]; exact colsE_len _ _
    have cc := fun W (h : Grow Z W) => rcols_any ts At nt (kid 0) W (HW.out.grow (GW.out.trans h)) ((P1.out.kid h0m).grow h).px
    rw [hCE] at cc
    unfold PL.val at cc
    obtain ⟨nn, hnn⟩ : ∃ nn : Int, (CE.1.length : Int) = nn := ⟨_, rfl⟩
    have n8 : 0 ≤ nn ∧ nn ≤ 8 := by omega
    have hsh := span_hi n8.1 x HWx.out
    have hsl := span_lo (n0 := nn) (by omega) x HWx.out
    obtain ⟨lo9, hi9, hsp⟩ : ∃ a b, spanE x = (a, b) := ⟨_, _, rfl⟩
    have csp := fun W (h : Grow Z W) => rspan_any x W (X1.out.grow h).ex
    rw [hsp] at csp hsh hsl
    simp only at csp hsh hsl
    unfold E.val at csp
    rw [hCE, hnn] at hcase
    have CC := Lib.hid cc
    have CSP := Lib.hid csp
    have HCE := Lib.hid hCE
    have NN8 := Lib.hid (And.intro hnn n8)
    clear cc csp hCE hsp lCE n8
    have HA := Lib.hid hcase
    rw [hcase] at hsh
    have hsh' : decide (hi9 < nn) = true := hsh
    clear hsl hcase
    obtain ⟨gB, cur, hBe, hlo, hBB, hsz, hcs⟩ := RQ.out h0m
    subst hBe
    have GB := Lib.hid (And.intro hlo (And.intro hBB (And.intro hsz hcs)))
    have hne := HNE.out gB rfl h0m
    have HNB := Lib.hid hne
    clear hlo hBB hsz hcs hne
    obtain ⟨k0, k1, k2, k3, k4, k5, k6, k7, k8, k9, k10⟩ := K0.out.grow GW.out
    go_upto_region 24 with (first | (go_at_call 101; ((with_reducible refine (CC.out _ (by repeat (first | (with_reducible exact Grow.refl _) | (with_reducible assumption) | (with_reducible refine Grow.set ?_ (by first | (simp; done) | (simp; omega)) _) | (with_reducible refine Grow.al ?_ _) | (with_reducible refine Grow.drew ?_) | (with_reducible refine Grow.drewN ?_ _) | (with_reducible refine Grow.trans ?_ (by assumption))))).mono ?_); rintro en w7 ⟨B7, c7, rfl, hi7, hg7⟩; clear hi7; have G7 : Grow Z w7 := Grow.trans (by repeat (first | (with_reducible exact Grow.refl _) | (with_reducible assumption) | (with_reducible refine Grow.set ?_ (by first | (simp; done) | (simp; omega)) _) | (with_reducible refine Grow.al ?_ _) | (with_reducible refine Grow.drew ?_) | (with_reducible refine Grow.drewN ?_ _) | (with_reducible refine Grow.trans ?_ (by assumption)))) hg7; obtain ⟨bx7, fx7⟩ := (BX.out.grow G7).rules; obtain ⟨bp7, fp7⟩ := (BP.out.grow G7).rules; have lx7 := (BX.out.grow G7).lt; have lp7 := (BP.out.grow G7).lt)) | (go_at_call 103; ((with_reducible refine (CSP.out _ (by repeat (first | (with_reducible exact Grow.refl _) | (with_reducible assumption) | (with_reducible refine Grow.set ?_ (by first | (simp; done) | (simp; omega)) _) | (with_reducible refine Grow.al ?_ _) | (with_reducible refine Grow.drew ?_) | (with_reducible refine Grow.drewN ?_ _) | (with_reducible refine Grow.trans ?_ (by assumption))))).mono ?_); rintro en w8 ⟨rfl, hg8⟩)))
    refine wp_forget (fun Z2 => Grow Z Z2) (by repeat (first | (with_reducible exact Grow.refl _) | (with_reducible assumption) | (with_reducible refine Grow.set ?_ (by first | (simp; done) | (simp; omega)) _) | (with_reducible refine Grow.al ?_ _) | (with_reducible refine Grow.drew ?_) | (with_reducible refine Grow.drewN ?_ _) | (with_reducible refine Grow.trans ?_ (by assumption)))) ?_
    clear bx7 fx7 bp7 fp7 lx7 lp7 hg7 G7 hg8 hnn
    rintro Z2 GZ2
    clear k0 k1 k2 k3 k4 k5 k6 k7 k8 k9 k10 hsh hsh' bx fx bp fp lx lp
    obtain ⟨bx, fx⟩ := (BX.out.grow GZ2).rules
    obtain ⟨bp, fp⟩ := (BP.out.grow GZ2).rules
    have lx := (BX.out.grow GZ2).lt
    have lp := (BP.out.grow GZ2).lt
    apply wp_region_calm 10 (by kernel_rfl) (by kernel_rfl)
    case h' =>
      intro Q0 hQ0
      simp only [List.take_succ_cons, List.take_zero]
      repeat (
        first
          | (apply calm_p rfl; case h1 => (intro w1 hw1 hF K hK; have hw1 := GZ2.trans hw1; obtain ⟨bo, fo⟩ := (BO.out.grow hw1).rules; obtain ⟨bx, fx⟩ := (BX.out.grow hw1).rules; obtain ⟨bp, fp⟩ := (BP.out.grow hw1).rules; obtain ⟨k0, k1, k2, k3, k4, k5, k6, k7, k8, k9, k10⟩ := K0.out.grow (GW.out.trans hw1); go_simp; first | exact hK _ (Grow.refl _) | fail))
          | (apply calm_y rfl rfl rfl; case h1 => (intro w1 hw1 hF K hK; have hw1 := GZ2.trans hw1; obtain ⟨bo, fo⟩ := (BO.out.grow hw1).rules; obtain ⟨bx, fx⟩ := (BX.out.grow hw1).rules; obtain ⟨bp, fp⟩ := (BP.out.grow hw1).rules; obtain ⟨k0, k1, k2, k3, k4, k5, k6, k7, k8, k9, k10⟩ := K0.out.grow (GW.out.trans hw1); go_simp; first | exact hK _ (Grow.refl _) | fail))
          | apply calm_n rfl rfl rfl rfl
        intro K hK
        go_simp
        apply hK
        clear hK K)
      apply calm_fp (VP (Snew (fun q => S q ∧ q < w.heap.size) Z.heap.size) (pushP (tabs ts) (nP (kid 0)) (nE x))) rfl
      case h1 =>
        intro w1 hw1 hF K hK
        have hw1 := GZ2.trans hw1 
        obtain ⟨bo, fo⟩ := (BO.out.grow hw1).rules 
        obtain ⟨bx, fx⟩ := (BX.out.grow hw1).rules 
        obtain ⟨bp, fp⟩ := (BP.out.grow hw1).rules 
        obtain ⟨k0, k1, k2, k3, k4, k5, k6, k7, k8, k9, k10⟩ := K0.out.grow (GW.out.trans hw1)
        go_simp
        go_at_call 57
        refine (CS.out 0 (by have := HM1.out; omega) w1 hw1).mono ?_
        rintro en w' ⟨r, rfl, hr, hn, hg'⟩
        exact ⟨_, rfl, hK _ _ hg' ⟨r, rfl, hr, hn⟩⟩
      intro v148 K hK
      go_simp
      apply hK
      clear hK K
      repeat (
        first
          | (apply calm_p rfl; case h1 => (intro w1 hw1 hF K hK; skip; go_simp; first | exact hK _ (Grow.refl _) | fail))
          | (apply calm_y rfl rfl rfl; case h1 => (intro w1 hw1 hF K hK; skip; go_simp; first | exact hK _ (Grow.refl _) | fail))
          | apply calm_n rfl rfl rfl rfl
        intro K hK
        go_simp
        apply hK
        clear hK K)
      refine calm_nil ?_
      intro w1 hw1 hF
      apply hQ0
      clear hQ0
      simp only [List.drop_succ_cons, List.drop_zero]
      obtain ⟨r, hv, hr, hn⟩ := hF _ (List.mem_cons_self ..)
      subst hv
      clear hF bx fx bp fp lx lp
      have hw1 := GZ2.trans hw1
      have hb1 := GB.out.2.1.grow hw1
      obtain ⟨bg, fg⟩ := hb1.rules
      have gl := hb1.lt
      obtain ⟨u0, u1, u2, u3, u4, u5, u6, u7, u8, u9, u10, k0, k1, k2, k3, k4, k5, k6, k7, k8, k9, k10⟩ := cur11 hb1 (show 0 * 11 + 11 ≤ cur.size by have := GB.out.2.2.1; have := HM1.out; omega)
      clear bg hb1
      go_upto_region 25 with fail
      have h1 := HGX.out
      have h2 := GB.out.1
      have h3 := BR.out.lt
      have h4 := GB.out.2.1.lt
      have h5 := GXZ.size
      have h6 := LRX.out
      have RR := Lib.hid (And.intro hr hn)
      refine wp_forget (fun V => Blk V (gx + 1 + 1) 31 #[.int .i64 0, .int .i64 0, .int .i64 0, .int .i64 0, .int .i64 0, .string ⟨#[]⟩, .int .i64 0, .slice none 0 0, .slice none 0 0, .slice none 0 0, .slice none 0 0] ∧ Blk V go' 31 #[.int .i64 4, .int .i64 n, .int .i64 y.kind, .int .i64 y.v.k, .int .i64 y.v.n, .string y.v.s, .int .i64 y.col, .slice y.A y.n y.cap, .slice xs.A xs.l.length xs.c, .slice ag.A ag.l.length ag.c, .slice (some ⟨gB, 0, none⟩) m cap'] ∧ RowQ V X.heap.size (some ⟨gB, 0, none⟩) m (fun i => if i = 0 then r else kid i) ∧ PXs (Snew (fun q => S q ∧ q < w.heap.size) Z.heap.size) V r ∧ Agr (Snew (fun q => S q ∧ q < w.heap.size) Z.heap.size) w1 V ∧ w1.heap.size ≤ V.heap.size ∧ Grow w V) ⟨Blk.farP (BR.out.grow hw1) (show gB ≠ gx + 1 + 1 by omega) (0 * 11) r, Blk.farP (BO.out.grow hw1) HNB.out (0 * 11) r, (RQ.out.grow hw1).put (j := 0) (by have := HM1.out; omega) r, RR.out.1.move (fun q hq _ => st11o_heap w1 gB (0 * 11) r (by rcases hq with h | h <;> omega)) (by rw [st11o_size]; exact Nat.le_refl _), fun q hq _ => st11o_heap w1 gB (0 * 11) r (by rcases hq with h | h <;> omega), (by rw [st11o_size]; exact Nat.le_refl _), st11o_grow (GW.out.trans hw1) (by omega) (0 * 11) r⟩ ?_
      clear h1 h2 h3 h4 h5 h6 hr hn k0 k1 k2 k3 k4 k5 k6 k7 k8 k9 k10 fg gl
      rintro V ⟨BRV, BOV, rqV, hrV, agV, szV, GV⟩
      have hrr : PXs (Sown S w.heap.size gx) V (PL.mk 4 n y xs ag (some ⟨gB, 0, none⟩) m cap' (fun i => if i = 0 then r else kid i)) := pxs_row (T := Sown S w.heap.size gx) rqV (fun g hg => .inr ⟨by have := HGX.out; have := LRX.out; omega, by have := LRX.out; omega, by have := LRX.out; omega, by have := LRX.out; omega⟩) ((((P1.out.nx.mono (T := Snew (fun q => S q ∧ q < w.heap.size) Z.heap.size) (fun q _ h => .inl h)).grow hw1).move agV szV).mono (fun q _ hq => TF.out q hq)) (fun i hi => by
        by_cases hij : i = 0
        · simp only [if_pos hij]; exact hrV.mono (fun q _ hq => TF.out q hq)
        · simp only [if_neg hij]; exact ((((P1.out.kid hi).mono (T := Snew (fun q => S q ∧ q < w.heap.size) Z.heap.size) (fun q _ h => .inl h)).grow hw1).move agV szV).mono (fun q _ hq => TF.out q hq)) (by have := HM1.out; omega)
      have nrr : nP (PL.mk 4 n y xs ag (some ⟨gB, 0, none⟩) m cap' (fun i => if i = 0 then r else kid i)) = pushP (tabs ts) (nP (.mk 4 n y xs ag (some ⟨ga, oa, none⟩) m cap kid)) (nE x) := by
        have e : nP (PL.mk 4 n y xs ag (some ⟨gB, 0, none⟩) m cap' (fun i => if i = 0 then r else kid i)) = mkP 4 n (nE y) (xs.l.map nE) (ag.l.map nA) m (fun i => nP (if i = 0 then r else kid i)) := rfl
        rw [e, push_4 HL.out HM1.out, HCE.out, NN8.out.1, if_pos HA.out, HM1.out]
        refine mkP_congr (fun i hi => ?_)
        rcases (show i = 0 ∨ i = 1 by omega) with rfl | rfl
        · first | exact RR.out.2 | rfl
        · first | rfl | exact RR.out.2
      have HH := Lib.hid (And.intro hrr (And.intro nrr GV))
      have B3 := Lib.hid (st11_blk (PL.mk 4 n y xs ag (some ⟨gB, 0, none⟩) m cap' (fun i => if i = 0 then r else kid i)) BRV)
      obtain ⟨bo, fo⟩ := BOV.rules
      have lo := BOV.lt
      obtain ⟨br, fr⟩ := BRV.rules
      have lr := BRV.lt
      clear hrr nrr GV BRV BOV rqV hrV agV szV
      go_wp2
      have B3 := B3.out
      simp only [st11, PL.k, PL.n, PL.x, PL.xs, PL.ag, PL.A, PL.m, PL.cap] at B3
      obtain ⟨b3, f3⟩ := B3.rules
      refine bodyPost_ret (v := (PL.mk 4 n y xs ag (some ⟨gB, 0, none⟩) m cap' (fun i => if i = 0 then r else kid i)).val) (by simp [results, Try.results57, go_sem, b3, PL.val, PL.k, PL.n, PL.x, PL.xs, PL.ag, PL.A, PL.m, PL.cap]) rfl ?_
      exact RP.put (r := (PL.mk 4 n y xs ag (some ⟨gB, 0, none⟩) m cap' (fun i => if i = 0 then r else kid i))) HH.out.1 HH.out.2.1 HH.out.2.2 HGE.out
    case hp' => exact ⟨VP.pers _ _, trivial⟩
  case hp' => exact ⟨DE0.pers _, DRow.pers _ _ _, DOut.pers _ _ _ _ _ _ _ _, DZ.pers _, trivial⟩
end Go.Proofs.Ytpgpecdiajmgmaa

namespace Go.Proofs.Ytpgpecdiajmgmaa
open Go.RowKit Go.Calm
set_option linter.unusedSimpArgs false
set_option linter.unusedVariables false

set_option maxRecDepth 100000 in
set_option maxHeartbeats 16000000 in
theorem sink_4r (ts : List (L2 Int)) (At : Option Addr) (nt : Nat) (k n : Int) (y : E) (xs : XsS) (ag : AgS) (A : Option Addr) (m cap : Nat) (kid : Nat → PL) (hk : k = 4) (ih : ∀ i, i < m → SinkC ts At nt (kid i)) : ∀ (S : Nat → Prop) (x : E) (w : World), TbS w ts At → WfP (.mk k n y xs ag A m cap kid) → WfE x → PXs S w (.mk k n y xs ag A m cap kid) → EXs S w x → litT x = false → colsAll (fun c => decide (c < ((colsE (tabs ts) (kid 0)).1.length : Int))) x = false → colsAll (fun c => decide (((colsE (tabs ts) (kid 0)).1.length : Int) ≤ c)) x = true → Calls Try.prog 57 #[.slice At ts.length nt, x.val, (PL.mk k n y xs ag A m cap kid).val] w fun en w' => RP S (pushP (tabs ts) (nP (.mk k n y xs ag A m cap kid)) (nE x)) w w' en := by
  intro S x w hW hp hx hP hX hlit hcase hcas2
  have IH := Lib.hid ih
  clear ih
  have HK := Lib.hid hk
  clear hk
  have HW := Lib.hid hW
  have HP := Lib.hid hP
  have HX := Lib.hid hX
  have HWp := Lib.hid hp
  have HWx := Lib.hid hx
  have HL := Lib.hid hlit
  have hkc : ∀ i, i < m → ∃ g o, A = some ⟨g, o, none⟩ ∧ PCells w g (o + i * 11) (kid i) := by
    cases hP.px with
    | mk hm hc => exact hc
  have HM := Lib.hid (show (m : Int) = kidsP k from hp.1)
  have HM2 := Lib.hid (show m ≤ 2 by have h1 : (m : Int) = kidsP k := hp.1; have := kidsP_le k; omega)
  have Hwk := Lib.hid hp.2.2.2
  have Hkc := Lib.hid hkc
  unfold E.val PL.val
  simp only [PL.k, PL.n, PL.x, PL.xs, PL.ag, PL.A, PL.m, PL.cap]
  clear hW hx hP hX hp hkc hlit
  go_enter Try.func57, Try.ntmps57
  go_upto_region 1 with fail
  refine wp_forget (fun X => Blk X w.heap.size 27 #[.int .i64 x.kind, .int .i64 x.v.k, .int .i64 x.v.n, .string x.v.s, .int .i64 x.col, .slice x.A x.n x.cap] ∧ Blk X (w.heap.size + 1) 31 #[.int .i64 k, .int .i64 n, .int .i64 y.kind, .int .i64 y.v.k, .int .i64 y.v.n, .string y.v.s, .int .i64 y.col, .slice y.A y.n y.cap, .slice xs.A xs.l.length xs.c, .slice ag.A ag.l.length ag.c, .slice A m cap] ∧ Blk X (w.heap.size + 1 + 1) 31 #[.int .i64 0, .int .i64 0, .int .i64 0, .int .i64 0, .int .i64 0, .string ⟨#[]⟩, .int .i64 0, .slice none 0 0, .slice none 0 0, .slice none 0 0, .slice none 0 0] ∧ Grow w X) ⟨((Blk.new _ _ _).al _).al _, (Blk.new' _ _ _ (by simp)).al _, Blk.new' _ _ _ (by simp), (by repeat (first | (with_reducible exact Grow.refl _) | (with_reducible assumption) | (with_reducible refine Grow.set ?_ (by first | (simp; done) | (simp; omega)) _) | (with_reducible refine Grow.al ?_ _) | (with_reducible refine Grow.drew ?_) | (with_reducible refine Grow.drewN ?_ _) | (with_reducible refine Grow.trans ?_ (by assumption))))⟩ ?_
  rintro X ⟨BX0, BP0, BR0, G⟩
  obtain ⟨gx, hgx⟩ : ∃ gx, w.heap.size = gx := ⟨_, rfl⟩
  have HGX := Lib.hid hgx
  rw [hgx] at BX0 BP0 BR0 ⊢
  clear hgx
  have BX := Lib.hid BX0
  have BP := Lib.hid BP0
  have BR := Lib.hid BR0
  have lx := BX0.lt
  have lp := BP0.lt
  obtain ⟨bx, fx⟩ := BX0.rules
  obtain ⟨bp, fp⟩ := BP0.rules
  clear BX0 BP0 BR0
  go_cut [29] (fun s wx => s = .bool (litT x) ∧ wx = X)
  case first =>
    by_cases a1 : x.kind = 1
    · have d1 : (x.kind == 1) = true := by simpa using a1
      by_cases a2 : x.v.k = 2
      · have d2 : (x.v.k == 2) = true := by simpa using a2
        by_cases a3 : x.v.n = 1
        · have d3 : (x.v.n == 1) = true := by simpa using a3
          go_wp2
          go_meet
          exact ⟨by simp [litT, a1, a2, a3], rfl⟩
        · have d3 : (x.v.n == 1) = false := by simpa using a3
          go_wp2
          go_meet
          exact ⟨by simp [litT, a1, a2, a3], rfl⟩
      · have d2 : (x.v.k == 2) = false := by simpa using a2
        go_wp2
        go_meet
        exact ⟨by simp [litT, a1, a2], rfl⟩
    · have d1 : (x.kind == 1) = false := by simpa using a1
      go_wp2
      go_meet
      exact ⟨by simp [litT, a1], rfl⟩
  obtain ⟨rfl, rfl⟩ := hcut
  rename World => X
  rw [HL.out]
  clear bx fx lx
  go_upto_region 3 with fail
  clear bp fp lp
  apply wp_region_calm 16 (by kernel_rfl) (by kernel_rfl)
  case h' =>
    intro Q0 hQ0
    simp only [List.take_succ_cons, List.take_zero]
    repeat (
      first
        | (apply calm_p rfl; case h1 => (intro w1 hw1 hF K hK; obtain ⟨bp, fp⟩ := (BP.out.grow hw1).rules; go_simp; first | exact hK _ (Grow.refl _) | fail))
        | (apply calm_y rfl rfl rfl; case h1 => (intro w1 hw1 hF K hK; obtain ⟨bp, fp⟩ := (BP.out.grow hw1).rules; go_simp; first | exact hK _ (Grow.refl _) | fail))
        | apply calm_n rfl rfl rfl rfl
      intro K hK
      go_simp
      apply hK
      clear hK K)
    apply calm_fp (DE0 X.heap.size) rfl
    case h1 =>
      intro w1 hw1 hF K hK
      go_simp
      exact hK _ _ ((Grow.refl _).al _) ⟨w1.heap.size, rfl, hw1.size, Blk.new _ _ _⟩
    intro v41 K hK
    go_simp
    apply hK
    clear hK K
    repeat (
      first
        | (apply calm_p rfl; case h1 => (intro w1 hw1 hF K hK; obtain ⟨bp, fp⟩ := (BP.out.grow hw1).rules; go_simp; first | exact hK _ (Grow.refl _) | fail))
        | (apply calm_y rfl rfl rfl; case h1 => (intro w1 hw1 hF K hK; obtain ⟨bp, fp⟩ := (BP.out.grow hw1).rules; go_simp; first | exact hK _ (Grow.refl _) | fail))
        | apply calm_n rfl rfl rfl rfl
      intro K hK
      go_simp
      apply hK
      clear hK K)
    apply calm_fp (DRow X.heap.size m kid) rfl
    case h1 =>
      intro w1 hw1 hF K hK
      obtain ⟨g, hv, hg, hB⟩ := hF _ (List.mem_cons_self ..) ⟨_, rfl, by decide⟩
      subst hv
      obtain ⟨B, cap', w', hr, hrow, hg'⟩ := run_fresh 29 (lo := X.heap.size) (m := m) (kid := kid) (A := A) (cap := cap) (by have := HM2.out; omega) (fun i hi => by obtain ⟨g, o, a, b⟩ := Hkc.out i hi; exact ⟨g, o, a, b.grow (G.trans hw1)⟩) hB hg
      exact calm_append (.tmp 41) (.tmp 43) 29 rfl 29 rfl (.slice (some ⟨g, 0, none⟩) 0 0) (.slice A m cap) rfl rfl (.slice B m cap') w' hr (hK _ _ hg' ⟨B, cap', rfl, hrow⟩)
    intro v44 K hK
    go_simp
    apply hK
    clear hK K
    apply calm_fp (DOut k n y xs ag X.heap.size m kid) rfl
    case h1 =>
      intro w1 hw1 hF K hK
      obtain ⟨B, cap', hv, hrow⟩ := hF _ (List.mem_cons_self ..) ⟨_, rfl, by decide⟩
      subst hv
      go_simp
      exact hK _ _ (Grow.refl _) ⟨B, cap', rfl, hrow⟩
    intro v45 K hK
    go_simp
    apply hK
    clear hK K
    apply calm_fp (DZ X.heap.size) rfl
    case h1 =>
      intro w1 hw1 hF K hK
      go_simp
      exact hK _ _ ((Grow.refl _).al _) ⟨w1.heap.size, rfl, hw1.size, Blk.new _ _ _⟩
    intro v7 K hK
    go_simp
    apply hK
    clear hK K
    refine calm_nil ?_
    intro w1 hw1 hF
    apply hQ0
    clear hQ0
    simp only [List.drop_succ_cons, List.drop_zero]
    obtain ⟨go', hv, hgo, BZ⟩ := hF _ (List.mem_cons_self ..)
    subst hv
    obtain ⟨B, cap', hv, hrow⟩ := hF _ (List.mem_cons_of_mem _ (List.mem_cons_self ..))
    subst hv
    clear hF
    obtain ⟨bz, fz⟩ := BZ.rules
    have lz := BZ.lt
    have HNE := Lib.hid (hrow.ne Hwk.out BZ)
    have LRX := Lib.hid (show gx + 1 + 1 < X.heap.size from BR.out.lt)
    have ST := Lib.hid (And.intro (st11_blk (PL.mk k n y xs ag B m cap' kid) BZ) (hrow.st Hwk.out BZ (PL.mk k n y xs ag B m cap' kid)))
    have LR := Lib.hid (show gx + 1 + 1 < go' by have := BR.out.lt; omega)
    have GZ := Lib.hid (show X.heap.size ≤ go' from hgo)
    clear hrow BZ hgo
    go_upto_region 4 with fail
    refine wp_forget (fun Z => Blk Z gx 27 #[.int .i64 x.kind, .int .i64 x.v.k, .int .i64 x.v.n, .string x.v.s, .int .i64 x.col, .slice x.A x.n x.cap] ∧ Blk Z (gx + 1) 31 #[.int .i64 k, .int .i64 n, .int .i64 y.kind, .int .i64 y.v.k, .int .i64 y.v.n, .string y.v.s, .int .i64 y.col, .slice y.A y.n y.cap, .slice xs.A xs.l.length xs.c, .slice ag.A ag.l.length ag.c, .slice A m cap] ∧ Blk Z (gx + 1 + 1) 31 #[.int .i64 0, .int .i64 0, .int .i64 0, .int .i64 0, .int .i64 0, .string ⟨#[]⟩, .int .i64 0, .slice none 0 0, .slice none 0 0, .slice none 0 0, .slice none 0 0] ∧ Blk Z go' 31 #[.int .i64 k, .int .i64 n, .int .i64 y.kind, .int .i64 y.v.k, .int .i64 y.v.n, .string y.v.s, .int .i64 y.col, .slice y.A y.n y.cap, .slice xs.A xs.l.length xs.c, .slice ag.A ag.l.length ag.c, .slice B m cap'] ∧ RowQ Z X.heap.size B m kid ∧ Grow X Z) ⟨by have h1 := LR.out; have h2 : go' ≠ gx := (by omega); exact st11_far (PL.mk k n y xs ag B m cap' kid) h2 (BX.out.grow hw1), by have h1 := LR.out; have h2 : go' ≠ gx + 1 := (by omega); exact st11_far (PL.mk k n y xs ag B m cap' kid) h2 (BP.out.grow hw1), by have h1 := LR.out; have h2 : go' ≠ gx + 1 + 1 := (by omega); exact st11_far (PL.mk k n y xs ag B m cap' kid) h2 (BR.out.grow hw1), ST.out.1, ST.out.2, st11_grow hw1 GZ.out (PL.mk k n y xs ag B m cap' kid)⟩ ?_
    have GOX := Lib.hid (show gx + 1 + 1 < go' from LR.out)
    clear ST bz fz lz BX BP BR hw1
    rintro Z ⟨BX0, BP0, BR0, BO0, rq, GXZ⟩
    have BX := Lib.hid BX0
    have BP := Lib.hid BP0
    have BR := Lib.hid BR0
    have BO := Lib.hid BO0
    have RQ := Lib.hid rq
    obtain ⟨bx, fx⟩ := BX0.rules
    obtain ⟨bp, fp⟩ := BP0.rules
    have lx := BX0.lt
    have lp := BP0.lt
    have gw := G.trans GXZ
    have GW := Lib.hid gw
    have p1 : PXs (fun q => S q ∧ q < w.heap.size) Z (.mk k n y xs ag A m cap kid) := (HP.out.mono (T := fun q => S q ∧ q < w.heap.size) (fun q hq hs => ⟨hs, hq⟩)).grow gw
    have x1 : EXs (fun q => S q ∧ q < w.heap.size) Z x := (HX.out.mono (T := fun q => S q ∧ q < w.heap.size) (fun q hq hs => ⟨hs, hq⟩)).grow gw
    have P1 := Lib.hid p1
    have X1 := Lib.hid x1
    have tz : ∀ (W : World), Grow Z W → ∀ q, Snew (fun q => S q ∧ q < w.heap.size) W.heap.size q → Snew (fun q => S q ∧ q < w.heap.size) Z.heap.size q := fun W h q hq => hq.imp id (fun h2 => Nat.le_trans h.size h2)
    have TZ := Lib.hid tz
    have tf : ∀ q, Snew (fun q => S q ∧ q < w.heap.size) Z.heap.size q → Sown S w.heap.size gx q := fun q hq => by
      have h1 := HGX.out
      have h2 := BR0.lt
      rcases hq with h | h
      · exact .inl h
      · exact .inr ⟨by omega, by omega, by omega, by omega⟩
    have TF := Lib.hid tf
    have HGE := Lib.hid (show w.heap.size ≤ gx by have := HGX.out; omega)
    clear BX0 BP0 BR0 BO0 rq gw p1 x1 tz tf
    have cs := fun i (hi : i < m) W (h : Grow Z W) => (IH.out i hi (fun q => S q ∧ q < w.heap.size) x W (HW.out.grow (GW.out.trans h)) (Hwk.out i hi) HWx.out ((P1.out.kid hi).grow h) (X1.out.grow h)).mono (fun en w' ⟨r, h1, h2, h3, h4⟩ => (⟨r, h1, h2.mono (fun q _ hq => TZ.out W h q hq), h3, h4⟩ : ∃ r : PL, en = Ending.returned (pV r) ∧ PXs (Snew (fun q => S q ∧ q < w.heap.size) Z.heap.size) w' r ∧ nP r = pushP (tabs ts) (nP (kid i)) (nE x) ∧ Grow W w'))
    unfold E.val PL.val at cs
    have CS := Lib.hid cs
    clear cs
    have hk := HK.out
    subst hk
    have HM1 := Lib.hid (show m = 2 by have := HM.out; unfold kidsP at this; simp at this; omega)
    clear HM
    have h0m : 0 < m := by have := HM1.out; omega
    have h0i : (0 : Int) < (m : Int) := by omega
    obtain ⟨ga, oa, hA, K0⟩ := Hkc.out 0 (by have := HM1.out; omega)
    subst hA
    simp only [Nat.zero_mul, Nat.add_zero] at K0
    have K0 := Lib.hid K0
    have h1m : 1 < m := by have := HM1.out; omega
    have h1i : (1 : Int) < (m : Int) := by omega
    obtain ⟨ga', oa', hA, K1⟩ := Hkc.out 1 (by have := HM1.out; omega)
    cases hA
    simp only [Nat.one_mul] at K1
    have K1 := Lib.hid K1
    obtain ⟨CE, hCE⟩ : ∃ CE, colsE (tabs ts) (kid 0) = CE := ⟨_, rfl⟩
    have lCE : CE.1.length ≤ 8 := by rw [← hCE]; exact colsE_len _ _
    have cc := fun W (h : Grow Z W) => rcols_any ts At nt (kid 0) W (HW.out.grow (GW.out.trans h)) ((P1.out.kid h0m).grow h).px
    rw [hCE] at cc
    unfold PL.val at cc
    obtain ⟨nn, hnn⟩ : ∃ nn : Int, (CE.1.length : Int) = nn := ⟨_, rfl⟩
    have n8 : 0 ≤ nn ∧ nn ≤ 8 := by omega
    have hsh := span_hi n8.1 x HWx.out
    have hsl := span_lo (n0 := nn) (by omega) x HWx.out
    obtain ⟨lo9, hi9, hsp⟩ : ∃ a b, spanE x = (a, b) := ⟨_, _, rfl⟩
    have csp := fun W (h : Grow Z W) => rspan_any x W (X1.out.grow h).ex
    rw [hsp] at csp hsh hsl
    simp only at csp hsh hsl
    unfold E.val at csp
    rw [hCE, hnn] at hcase
    have CC := Lib.hid cc
    have CSP := Lib.hid csp
    have HCE := Lib.hid hCE
    have NN8 := Lib.hid (And.intro hnn n8)
    clear cc csp hCE hsp lCE n8
    rw [HCE.out, hnn] at hcas2
    have HA := Lib.hid (And.intro hcase hcas2)
    rw [hcase] at hsh
    rw [hcas2] at hsl
    have hsh' : decide (hi9 < nn) = false := hsh
    have hsl' : decide (nn ≤ lo9) = true := hsl
    clear hcase hcas2
    obtain ⟨gB, cur, hBe, hlo, hBB, hsz, hcs⟩ := RQ.out h0m
    subst hBe
    have GB := Lib.hid (And.intro hlo (And.intro hBB (And.intro hsz hcs)))
    have hne := HNE.out gB rfl h0m
    have HNB := Lib.hid hne
    clear hlo hBB hsz hcs hne
    obtain ⟨k0, k1, k2, k3, k4, k5, k6, k7, k8, k9, k10⟩ := K0.out.grow GW.out
    have cb := fun W (h : Grow Z W) => (back_any nn NN8.out.2.1 (by have := NN8.out.2.2; omega) x (fun q => S q ∧ q < w.heap.size) W HWx.out (X1.out.grow h) HA.out.2).mono (fun en w' ⟨r, h1, h2, h3, h4⟩ => (⟨r, h1, h2.mono (fun q _ hq => TZ.out W h q hq), h3, h4⟩ : ∃ r : E, en = Ending.returned (eV r) ∧ EXs (Snew (fun q => S q ∧ q < w.heap.size) Z.heap.size) w' r ∧ nE r = movE (-nn) x ∧ Grow W w'))
    unfold E.val at cb
    have CB := Lib.hid cb
    have wfm : ∀ r : E, nE r = movE (-nn) x → WfE r := fun r hr => (wfE_nE r).1 (by rw [hr]; exact wfE_mov nn NN8.out.2.1 x HWx.out HA.out.2)
    have cq := fun (x' : E) (hx' : nE x' = movE (-nn) x) W (h : Grow Z W) (hE : EXs (Snew (fun q => S q ∧ q < w.heap.size) Z.heap.size) W x') => (IH.out 1 (by have := HM1.out; omega) (Snew (fun q => S q ∧ q < w.heap.size) Z.heap.size) x' W (HW.out.grow (GW.out.trans h)) (Hwk.out 1 (by have := HM1.out; omega)) (wfm x' hx') (((P1.out.kid (by have := HM1.out; omega)).mono (T := Snew (fun q => S q ∧ q < w.heap.size) Z.heap.size) (fun q _ h => .inl h)).grow h) hE).mono (fun en w' ⟨r, h1, h2, h3, h4⟩ => (⟨r, h1, h2.mono (fun q _ hq => hq.elim id (fun h9 => .inr (Nat.le_trans h.size h9))), h3, h4⟩ : ∃ r : PL, en = Ending.returned (pV r) ∧ PXs (Snew (fun q => S q ∧ q < w.heap.size) Z.heap.size) w' r ∧ nP r = pushP (tabs ts) (nP (kid 1)) (nE x') ∧ Grow W w'))
    unfold E.val PL.val at cq
    have CQ := Lib.hid cq
    clear cb wfm cq
    go_upto_region 27 with (first | (go_at_call 101; ((with_reducible refine (CC.out _ (by repeat (first | (with_reducible exact Grow.refl _) | (with_reducible assumption) | (with_reducible refine Grow.set ?_ (by first | (simp; done) | (simp; omega)) _) | (with_reducible refine Grow.al ?_ _) | (with_reducible refine Grow.drew ?_) | (with_reducible refine Grow.drewN ?_ _) | (with_reducible refine Grow.trans ?_ (by assumption))))).mono ?_); rintro en w7 ⟨B7, c7, rfl, hi7, hg7⟩; clear hi7; have G7 : Grow Z w7 := Grow.trans (by repeat (first | (with_reducible exact Grow.refl _) | (with_reducible assumption) | (with_reducible refine Grow.set ?_ (by first | (simp; done) | (simp; omega)) _) | (with_reducible refine Grow.al ?_ _) | (with_reducible refine Grow.drew ?_) | (with_reducible refine Grow.drewN ?_ _) | (with_reducible refine Grow.trans ?_ (by assumption)))) hg7; obtain ⟨bx7, fx7⟩ := (BX.out.grow G7).rules; obtain ⟨bp7, fp7⟩ := (BP.out.grow G7).rules; have lx7 := (BX.out.grow G7).lt; have lp7 := (BP.out.grow G7).lt)) | (go_at_call 103; ((with_reducible refine (CSP.out _ (by repeat (first | (with_reducible exact Grow.refl _) | (with_reducible assumption) | (with_reducible refine Grow.set ?_ (by first | (simp; done) | (simp; omega)) _) | (with_reducible refine Grow.al ?_ _) | (with_reducible refine Grow.drew ?_) | (with_reducible refine Grow.drewN ?_ _) | (with_reducible refine Grow.trans ?_ (by assumption))))).mono ?_); rintro en w8 ⟨rfl, hg8⟩)))
    refine wp_forget (fun Z2 => Grow Z Z2) (by repeat (first | (with_reducible exact Grow.refl _) | (with_reducible assumption) | (with_reducible refine Grow.set ?_ (by first | (simp; done) | (simp; omega)) _) | (with_reducible refine Grow.al ?_ _) | (with_reducible refine Grow.drew ?_) | (with_reducible refine Grow.drewN ?_ _) | (with_reducible refine Grow.trans ?_ (by assumption)))) ?_
    clear bx7 fx7 bp7 fp7 lx7 lp7 hg7 G7 hg8 hnn
    rintro Z2 GZ2
    clear k0 k1 k2 k3 k4 k5 k6 k7 k8 k9 k10 hsh hsh' hsl hsl' bx fx bp fp lx lp
    obtain ⟨bx, fx⟩ := (BX.out.grow GZ2).rules
    obtain ⟨bp, fp⟩ := (BP.out.grow GZ2).rules
    have lx := (BX.out.grow GZ2).lt
    have lp := (BP.out.grow GZ2).lt
    apply wp_region_calm 12 (by kernel_rfl) (by kernel_rfl)
    case h' =>
      intro Q0 hQ0
      simp only [List.take_succ_cons, List.take_zero]
      repeat (
        first
          | (apply calm_p rfl; case h1 => (intro w1 hw1 hF K hK; have hw1 := GZ2.trans hw1; obtain ⟨bo, fo⟩ := (BO.out.grow hw1).rules; obtain ⟨bx, fx⟩ := (BX.out.grow hw1).rules; obtain ⟨bp, fp⟩ := (BP.out.grow hw1).rules; obtain ⟨j0, j1, j2, j3, j4, j5, j6, j7, j8, j9, j10⟩ := K1.out.grow (GW.out.trans hw1); go_simp; first | exact hK _ (Grow.refl _) | fail))
          | (apply calm_y rfl rfl rfl; case h1 => (intro w1 hw1 hF K hK; have hw1 := GZ2.trans hw1; obtain ⟨bo, fo⟩ := (BO.out.grow hw1).rules; obtain ⟨bx, fx⟩ := (BX.out.grow hw1).rules; obtain ⟨bp, fp⟩ := (BP.out.grow hw1).rules; obtain ⟨j0, j1, j2, j3, j4, j5, j6, j7, j8, j9, j10⟩ := K1.out.grow (GW.out.trans hw1); go_simp; first | exact hK _ (Grow.refl _) | fail))
          | apply calm_n rfl rfl rfl rfl
        intro K hK
        go_simp
        apply hK
        clear hK K)
      apply calm_fp (VE (Snew (fun q => S q ∧ q < w.heap.size) Z.heap.size) (movE (-nn) x)) rfl
      case h1 =>
        intro w1 hw1 hF K hK
        have hw1 := GZ2.trans hw1 
        obtain ⟨bo, fo⟩ := (BO.out.grow hw1).rules 
        obtain ⟨bx, fx⟩ := (BX.out.grow hw1).rules 
        obtain ⟨bp, fp⟩ := (BP.out.grow hw1).rules 
        obtain ⟨j0, j1, j2, j3, j4, j5, j6, j7, j8, j9, j10⟩ := K1.out.grow (GW.out.trans hw1)
        go_simp
        go_at_call 104
        refine (CB.out w1 hw1).mono ?_
        rintro en w' ⟨r, rfl, hr, hn, hg'⟩
        exact ⟨_, rfl, hK _ _ hg' ⟨r, rfl, hr, hn⟩⟩
      intro v159 K hK
      go_simp
      apply hK
      clear hK K
      repeat (
        first
          | (apply calm_p rfl; case h1 => (intro w1 hw1 hF K hK; have hw1 := GZ2.trans hw1; obtain ⟨bo, fo⟩ := (BO.out.grow hw1).rules; obtain ⟨bx, fx⟩ := (BX.out.grow hw1).rules; obtain ⟨bp, fp⟩ := (BP.out.grow hw1).rules; obtain ⟨j0, j1, j2, j3, j4, j5, j6, j7, j8, j9, j10⟩ := K1.out.grow (GW.out.trans hw1); go_simp; first | exact hK _ (Grow.refl _) | fail))
          | (apply calm_y rfl rfl rfl; case h1 => (intro w1 hw1 hF K hK; have hw1 := GZ2.trans hw1; obtain ⟨bo, fo⟩ := (BO.out.grow hw1).rules; obtain ⟨bx, fx⟩ := (BX.out.grow hw1).rules; obtain ⟨bp, fp⟩ := (BP.out.grow hw1).rules; obtain ⟨j0, j1, j2, j3, j4, j5, j6, j7, j8, j9, j10⟩ := K1.out.grow (GW.out.trans hw1); go_simp; first | exact hK _ (Grow.refl _) | fail))
          | apply calm_n rfl rfl rfl rfl
        intro K hK
        go_simp
        apply hK
        clear hK K)
      apply calm_fp (VP (Snew (fun q => S q ∧ q < w.heap.size) Z.heap.size) (pushP (tabs ts) (nP (kid 1)) (movE (-nn) x))) rfl
      case h1 =>
        intro w1 hw1 hF K hK
        have hw1 := GZ2.trans hw1
        obtain ⟨r0, hv, hr, hn⟩ := hF _ (List.mem_cons_self ..) ⟨_, rfl, by decide⟩
        subst hv
        go_simp
        go_at_call 57
        refine (CQ.out r0 hn w1 hw1 hr).mono ?_
        rintro en w' ⟨r, rfl, hr', hn', hg'⟩
        exact ⟨_, rfl, hK _ _ hg' ⟨r, rfl, hr', hn'.trans (by rw [hn])⟩⟩
      intro v164 K hK
      go_simp
      apply hK
      clear hK K
      repeat (
        first
          | (apply calm_p rfl; case h1 => (intro w1 hw1 hF K hK; skip; go_simp; first | exact hK _ (Grow.refl _) | fail))
          | (apply calm_y rfl rfl rfl; case h1 => (intro w1 hw1 hF K hK; skip; go_simp; first | exact hK _ (Grow.refl _) | fail))
          | apply calm_n rfl rfl rfl rfl
        intro K hK
        go_simp
        apply hK
        clear hK K)
      refine calm_nil ?_
      intro w1 hw1 hF
      apply hQ0
      clear hQ0
      simp only [List.drop_succ_cons, List.drop_zero]
      obtain ⟨r, hv, hr, hn⟩ := hF _ (List.mem_cons_self ..)
      subst hv
      clear hF bx fx bp fp lx lp
      have hw1 := GZ2.trans hw1
      have hb1 := GB.out.2.1.grow hw1
      obtain ⟨bg, fg⟩ := hb1.rules
      have gl := hb1.lt
      obtain ⟨u0, u1, u2, u3, u4, u5, u6, u7, u8, u9, u10, k0, k1, k2, k3, k4, k5, k6, k7, k8, k9, k10⟩ := cur11 hb1 (show 1 * 11 + 11 ≤ cur.size by have := GB.out.2.2.1; have := HM1.out; omega)
      clear bg hb1
      go_upto_region 28 with fail
      have h1 := HGX.out
      have h2 := GB.out.1
      have h3 := BR.out.lt
      have h4 := GB.out.2.1.lt
      have h5 := GXZ.size
      have h6 := LRX.out
      have RR := Lib.hid (And.intro hr hn)
      refine wp_forget (fun V => Blk V (gx + 1 + 1) 31 #[.int .i64 0, .int .i64 0, .int .i64 0, .int .i64 0, .int .i64 0, .string ⟨#[]⟩, .int .i64 0, .slice none 0 0, .slice none 0 0, .slice none 0 0, .slice none 0 0] ∧ Blk V go' 31 #[.int .i64 4, .int .i64 n, .int .i64 y.kind, .int .i64 y.v.k, .int .i64 y.v.n, .string y.v.s, .int .i64 y.col, .slice y.A y.n y.cap, .slice xs.A xs.l.length xs.c, .slice ag.A ag.l.length ag.c, .slice (some ⟨gB, 0, none⟩) m cap'] ∧ RowQ V X.heap.size (some ⟨gB, 0, none⟩) m (fun i => if i = 1 then r else kid i) ∧ PXs (Snew (fun q => S q ∧ q < w.heap.size) Z.heap.size) V r ∧ Agr (Snew (fun q => S q ∧ q < w.heap.size) Z.heap.size) w1 V ∧ w1.heap.size ≤ V.heap.size ∧ Grow w V) ⟨Blk.farP (BR.out.grow hw1) (show gB ≠ gx + 1 + 1 by omega) (1 * 11) r, Blk.farP (BO.out.grow hw1) HNB.out (1 * 11) r, (RQ.out.grow hw1).put (j := 1) (by have := HM1.out; omega) r, RR.out.1.move (fun q hq _ => st11o_heap w1 gB (1 * 11) r (by rcases hq with h | h <;> omega)) (by rw [st11o_size]; exact Nat.le_refl _), fun q hq _ => st11o_heap w1 gB (1 * 11) r (by rcases hq with h | h <;> omega), (by rw [st11o_size]; exact Nat.le_refl _), st11o_grow (GW.out.trans hw1) (by omega) (1 * 11) r⟩ ?_
      clear h1 h2 h3 h4 h5 h6 hr hn k0 k1 k2 k3 k4 k5 k6 k7 k8 k9 k10 fg gl
      rintro V ⟨BRV, BOV, rqV, hrV, agV, szV, GV⟩
      have hrr : PXs (Sown S w.heap.size gx) V (PL.mk 4 n y xs ag (some ⟨gB, 0, none⟩) m cap' (fun i => if i = 1 then r else kid i)) := pxs_row (T := Sown S w.heap.size gx) rqV (fun g hg => .inr ⟨by have := HGX.out; have := LRX.out; omega, by have := LRX.out; omega, by have := LRX.out; omega, by have := LRX.out; omega⟩) ((((P1.out.nx.mono (T := Snew (fun q => S q ∧ q < w.heap.size) Z.heap.size) (fun q _ h => .inl h)).grow hw1).move agV szV).mono (fun q _ hq => TF.out q hq)) (fun i hi => by
        by_cases hij : i = 1
        · simp only [if_pos hij]; exact hrV.mono (fun q _ hq => TF.out q hq)
        · simp only [if_neg hij]; exact ((((P1.out.kid hi).mono (T := Snew (fun q => S q ∧ q < w.heap.size) Z.heap.size) (fun q _ h => .inl h)).grow hw1).move agV szV).mono (fun q _ hq => TF.out q hq)) (by have := HM1.out; omega)
      have nrr : nP (PL.mk 4 n y xs ag (some ⟨gB, 0, none⟩) m cap' (fun i => if i = 1 then r else kid i)) = pushP (tabs ts) (nP (.mk 4 n y xs ag (some ⟨ga, oa, none⟩) m cap kid)) (nE x) := by
        have e : nP (PL.mk 4 n y xs ag (some ⟨gB, 0, none⟩) m cap' (fun i => if i = 1 then r else kid i)) = mkP 4 n (nE y) (xs.l.map nE) (ag.l.map nA) m (fun i => nP (if i = 1 then r else kid i)) := rfl
        rw [e, push_4 HL.out HM1.out, HCE.out, NN8.out.1, if_neg (by simp [HA.out.1]), if_pos HA.out.2, HM1.out]
        refine mkP_congr (fun i hi => ?_)
        rcases (show i = 0 ∨ i = 1 by omega) with rfl | rfl
        · first | exact RR.out.2 | rfl
        · first | rfl | exact RR.out.2
      have HH := Lib.hid (And.intro hrr (And.intro nrr GV))
      have B3 := Lib.hid (st11_blk (PL.mk 4 n y xs ag (some ⟨gB, 0, none⟩) m cap' (fun i => if i = 1 then r else kid i)) BRV)
      obtain ⟨bo, fo⟩ := BOV.rules
      have lo := BOV.lt
      obtain ⟨br, fr⟩ := BRV.rules
      have lr := BRV.lt
      clear hrr nrr GV BRV BOV rqV hrV agV szV
      go_wp2
      have B3 := B3.out
      simp only [st11, PL.k, PL.n, PL.x, PL.xs, PL.ag, PL.A, PL.m, PL.cap] at B3
      obtain ⟨b3, f3⟩ := B3.rules
      refine bodyPost_ret (v := (PL.mk 4 n y xs ag (some ⟨gB, 0, none⟩) m cap' (fun i => if i = 1 then r else kid i)).val) (by simp [results, Try.results57, go_sem, b3, PL.val, PL.k, PL.n, PL.x, PL.xs, PL.ag, PL.A, PL.m, PL.cap]) rfl ?_
      exact RP.put (r := (PL.mk 4 n y xs ag (some ⟨gB, 0, none⟩) m cap' (fun i => if i = 1 then r else kid i))) HH.out.1 HH.out.2.1 HH.out.2.2 HGE.out
    case hp' => exact ⟨VE.pers _ _, VP.pers _ _, trivial⟩
  case hp' => exact ⟨DE0.pers _, DRow.pers _ _ _, DOut.pers _ _ _ _ _ _ _ _, DZ.pers _, trivial⟩
end Go.Proofs.Ytpgpecdiajmgmaa
