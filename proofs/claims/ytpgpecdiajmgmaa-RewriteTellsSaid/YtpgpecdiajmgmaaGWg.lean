/-
  Joined texts of this claim: RfE1, RfE2, RfE5. What each proves its own head says; no condition beside those that each theorem names.
-/
import Derived.Test.YtpgpecdiajmgmaaGWf
import Derived.Test.YtpgpecdiajmgmaaGWd
namespace Go.Proofs.Ytpgpecdiajmgmaa
open Go.RowKit Go.Calm
set_option linter.unusedSimpArgs false
set_option linter.unusedVariables false

set_option maxRecDepth 100000 in
set_option maxHeartbeats 16000000 in
theorem sink_o (ts : List (L2 Int)) (At : Option Addr) (nt : Nat) (k n : Int) (y : E) (xs : XsS) (ag : AgS) (A : Option Addr) (m cap : Nat) (kid : Nat → PL) (hk : k = 1 ∨ k = 3 ∨ k = 7 ∨ k = 12 ∨ k = 13) : SinkN ts At nt (.mk k n y xs ag A m cap kid) := by
  intro S x w hW hp hx hP hX hlit
  have HW := Lib.hid hW
  have HP := Lib.hid hP
  have HX := Lib.hid hX
  have HWp := Lib.hid hp
  have HWx := Lib.hid hx
  have HL := Lib.hid hlit
  have hkc : ∀ i, i < m → ∃ g o, A = some ⟨g, o, none⟩ ∧ PCells w g (o + i * 11) (kid i) := by
    cases hP.px with
    | mk hm hc => exact hc
  have HM := Lib.hid (show (m : Int) = kidsP k from hp.1)
  have HM2 := Lib.hid (show m ≤ 2 by have h1 : (m : Int) = kidsP k := hp.1; have := kidsP_le k; omega)
  have Hwk := Lib.hid hp.2.2.2
  have Hkc := Lib.hid hkc
  unfold E.val PL.val
  simp only [PL.k, PL.n, PL.x, PL.xs, PL.ag, PL.A, PL.m, PL.cap]
  clear hW hx hP hX hp hkc hlit
  go_enter Try.func57, Try.ntmps57
  go_upto_region 1 with fail
  refine wp_forget (fun X => Blk X w.heap.size 27 #[.int .i64 x.kind, .int .i64 x.v.k, .int .i64 x.v.n, .string x.v.s, .int .i64 x.col, .slice x.A x.n x.cap] ∧ Blk X (w.heap.size + 1) 31 #[.int .i64 k, .int .i64 n, .int .i64 y.kind, .int .i64 y.v.k, .int .i64 y.v.n, .string y.v.s, .int .i64 y.col, .slice y.A y.n y.cap, .slice xs.A xs.l.length xs.c, .slice ag.A ag.l.length ag.c, .slice A m cap] ∧ Blk X (w.heap.size + 1 + 1) 31 #[.int .i64 0, .int .i64 0, .int .i64 0, .int .i64 0, .int .i64 0, .string ⟨#[]⟩, .int .i64 0, .slice none 0 0, .slice none 0 0, .slice none 0 0, .slice none 0 0] ∧ Grow w X) ⟨((Blk.new _ _ _).al _).al _, (Blk.new' _ _ _ (by simp)).al _, Blk.new' _ _ _ (by simp), (by repeat (first | (with_reducible exact Grow.refl _) | (with_reducible assumption) | (with_reducible refine Grow.set ?_ (by first | (simp; done) | (simp; omega)) _) | (with_reducible refine Grow.al ?_ _) | (with_reducible refine Grow.drew ?_) | (with_reducible refine Grow.drewN ?_ _) | (with_reducible refine Grow.trans ?_ (by assumption))))⟩ ?_
  rintro X ⟨BX0, BP0, BR0, G⟩
  obtain ⟨gx, hgx⟩ : ∃ gx, w.heap.size = gx := ⟨_, rfl⟩
  have HGX := Lib.hid hgx
  rw [hgx] at BX0 BP0 BR0 ⊢
  clear hgx
  have BX := Lib.hid BX0
  have BP := Lib.hid BP0
  have BR := Lib.hid BR0
  have lx := BX0.lt
  have lp := BP0.lt
  obtain ⟨bx, fx⟩ := BX0.rules
  obtain ⟨bp, fp⟩ := BP0.rules
  clear BX0 BP0 BR0
  go_cut [29] (fun s wx => s = .bool (litT x) ∧ wx = X)
  case first =>
    by_cases a1 : x.kind = 1
    · have d1 : (x.kind == 1) = true := by simpa using a1
      by_cases a2 : x.v.k = 2
      · have d2 : (x.v.k == 2) = true := by simpa using a2
        by_cases a3 : x.v.n = 1
        · have d3 : (x.v.n == 1) = true := by simpa using a3
          go_wp2
          go_meet
          exact ⟨by simp [litT, a1, a2, a3], rfl⟩
        · have d3 : (x.v.n == 1) = false := by simpa using a3
          go_wp2
          go_meet
          exact ⟨by simp [litT, a1, a2, a3], rfl⟩
      · have d2 : (x.v.k == 2) = false := by simpa using a2
        go_wp2
        go_meet
        exact ⟨by simp [litT, a1, a2], rfl⟩
    · have d1 : (x.kind == 1) = false := by simpa using a1
      go_wp2
      go_meet
      exact ⟨by simp [litT, a1], rfl⟩
  obtain ⟨rfl, rfl⟩ := hcut
  rename World => X
  rw [HL.out]
  clear bx fx lx
  go_upto_region 3 with fail
  clear bp fp lp
  apply wp_region_calm 16 (by kernel_rfl) (by kernel_rfl)
  case h' =>
    intro Q0 hQ0
    simp only [List.take_succ_cons, List.take_zero]
    repeat (
      first
        | (apply calm_p rfl; case h1 => (intro w1 hw1 hF K hK; obtain ⟨bp, fp⟩ := (BP.out.grow hw1).rules; go_simp; first | exact hK _ (Grow.refl _) | fail))
        | (apply calm_y rfl rfl rfl; case h1 => (intro w1 hw1 hF K hK; obtain ⟨bp, fp⟩ := (BP.out.grow hw1).rules; go_simp; first | exact hK _ (Grow.refl _) | fail))
        | apply calm_n rfl rfl rfl rfl
      intro K hK
      go_simp
      apply hK
      clear hK K)
    apply calm_fp (DE0 X.heap.size) rfl
    case h1 =>
      intro w1 hw1 hF K hK
      go_simp
      exact hK _ _ ((Grow.refl _).al _) ⟨w1.heap.size, rfl, hw1.size, Blk.new _ _ _⟩
    intro v41 K hK
    go_simp
    apply hK
    clear hK K
    repeat (
      first
        | (apply calm_p rfl; case h1 => (intro w1 hw1 hF K hK; obtain ⟨bp, fp⟩ := (BP.out.grow hw1).rules; go_simp; first | exact hK _ (Grow.refl _) | fail))
        | (apply calm_y rfl rfl rfl; case h1 => (intro w1 hw1 hF K hK; obtain ⟨bp, fp⟩ := (BP.out.grow hw1).rules; go_simp; first | exact hK _ (Grow.refl _) | fail))
        | apply calm_n rfl rfl rfl rfl
      intro K hK
      go_simp
      apply hK
      clear hK K)
    apply calm_fp (DRow X.heap.size m kid) rfl
    case h1 =>
      intro w1 hw1 hF K hK
      obtain ⟨g, hv, hg, hB⟩ := hF _ (List.mem_cons_self ..) ⟨_, rfl, by decide⟩
      subst hv
      obtain ⟨B, cap', w', hr, hrow, hg'⟩ := run_fresh 29 (lo := X.heap.size) (m := m) (kid := kid) (A := A) (cap := cap) (by have := HM2.out; omega) (fun i hi => by obtain ⟨g, o, a, b⟩ := Hkc.out i hi; exact ⟨g, o, a, b.grow (G.trans hw1)⟩) hB hg
      exact calm_append (.tmp 41) (.tmp 43) 29 rfl 29 rfl (.slice (some ⟨g, 0, none⟩) 0 0) (.slice A m cap) rfl rfl (.slice B m cap') w' hr (hK _ _ hg' ⟨B, cap', rfl, hrow⟩)
    intro v44 K hK
    go_simp
    apply hK
    clear hK K
    apply calm_fp (DOut k n y xs ag X.heap.size m kid) rfl
    case h1 =>
      intro w1 hw1 hF K hK
      obtain ⟨B, cap', hv, hrow⟩ := hF _ (List.mem_cons_self ..) ⟨_, rfl, by decide⟩
      subst hv
      go_simp
      exact hK _ _ (Grow.refl _) ⟨B, cap', rfl, hrow⟩
    intro v45 K hK
    go_simp
    apply hK
    clear hK K
    apply calm_fp (DZ X.heap.size) rfl
    case h1 =>
      intro w1 hw1 hF K hK
      go_simp
      exact hK _ _ ((Grow.refl _).al _) ⟨w1.heap.size, rfl, hw1.size, Blk.new _ _ _⟩
    intro v7 K hK
    go_simp
    apply hK
    clear hK K
    refine calm_nil ?_
    intro w1 hw1 hF
    apply hQ0
    clear hQ0
    simp only [List.drop_succ_cons, List.drop_zero]
    obtain ⟨go', hv, hgo, BZ⟩ := hF _ (List.mem_cons_self ..)
    subst hv
    obtain ⟨B, cap', hv, hrow⟩ := hF _ (List.mem_cons_of_mem _ (List.mem_cons_self ..))
    subst hv
    clear hF
    obtain ⟨bz, fz⟩ := BZ.rules
    have lz := BZ.lt
    have HNE := Lib.hid (hrow.ne Hwk.out BZ)
    have LRX := Lib.hid (show gx + 1 + 1 < X.heap.size from BR.out.lt)
    have ST := Lib.hid (And.intro (st11_blk (PL.mk k n y xs ag B m cap' kid) BZ) (hrow.st Hwk.out BZ (PL.mk k n y xs ag B m cap' kid)))
    have LR := Lib.hid (show gx + 1 + 1 < go' by have := BR.out.lt; omega)
    have GZ := Lib.hid (show X.heap.size ≤ go' from hgo)
    clear hrow BZ hgo
    go_upto_region 4 with fail
    refine wp_forget (fun Z => Blk Z gx 27 #[.int .i64 x.kind, .int .i64 x.v.k, .int .i64 x.v.n, .string x.v.s, .int .i64 x.col, .slice x.A x.n x.cap] ∧ Blk Z (gx + 1) 31 #[.int .i64 k, .int .i64 n, .int .i64 y.kind, .int .i64 y.v.k, .int .i64 y.v.n, .string y.v.s, .int .i64 y.col, .slice y.A y.n y.cap, .slice xs.A xs.l.length xs.c, .slice ag.A ag.l.length ag.c, .slice A m cap] ∧ Blk Z (gx + 1 + 1) 31 #[.int .i64 0, .int .i64 0, .int .i64 0, .int .i64 0, .int .i64 0, .string ⟨#[]⟩, .int .i64 0, .slice none 0 0, .slice none 0 0, .slice none 0 0, .slice none 0 0] ∧ Blk Z go' 31 #[.int .i64 k, .int .i64 n, .int .i64 y.kind, .int .i64 y.v.k, .int .i64 y.v.n, .string y.v.s, .int .i64 y.col, .slice y.A y.n y.cap, .slice xs.A xs.l.length xs.c, .slice ag.A ag.l.length ag.c, .slice B m cap'] ∧ RowQ Z X.heap.size B m kid ∧ Grow X Z) ⟨by have h1 := LR.out; have h2 : go' ≠ gx := (by omega); exact st11_far (PL.mk k n y xs ag B m cap' kid) h2 (BX.out.grow hw1), by have h1 := LR.out; have h2 : go' ≠ gx + 1 := (by omega); exact st11_far (PL.mk k n y xs ag B m cap' kid) h2 (BP.out.grow hw1), by have h1 := LR.out; have h2 : go' ≠ gx + 1 + 1 := (by omega); exact st11_far (PL.mk k n y xs ag B m cap' kid) h2 (BR.out.grow hw1), ST.out.1, ST.out.2, st11_grow hw1 GZ.out (PL.mk k n y xs ag B m cap' kid)⟩ ?_
    clear ST bz fz lz BX BP BR hw1
    rintro Z ⟨BX0, BP0, BR0, BO0, rq, GXZ⟩
    have BX := Lib.hid BX0
    have BP := Lib.hid BP0
    have BR := Lib.hid BR0
    have BO := Lib.hid BO0
    have RQ := Lib.hid rq
    obtain ⟨bx, fx⟩ := BX0.rules
    obtain ⟨bp, fp⟩ := BP0.rules
    have lx := BX0.lt
    have lp := BP0.lt
    have gw := G.trans GXZ
    have GW := Lib.hid gw
    have p1 : PXs (fun q => S q ∧ q < w.heap.size) Z (.mk k n y xs ag A m cap kid) := (HP.out.mono (T := fun q => S q ∧ q < w.heap.size) (fun q hq hs => ⟨hs, hq⟩)).grow gw
    have x1 : EXs (fun q => S q ∧ q < w.heap.size) Z x := (HX.out.mono (T := fun q => S q ∧ q < w.heap.size) (fun q hq hs => ⟨hs, hq⟩)).grow gw
    have P1 := Lib.hid p1
    have X1 := Lib.hid x1
    have tz : ∀ (W : World), Grow Z W → ∀ q, Snew (fun q => S q ∧ q < w.heap.size) W.heap.size q → Snew (fun q => S q ∧ q < w.heap.size) Z.heap.size q := fun W h q hq => hq.imp id (fun h2 => Nat.le_trans h.size h2)
    have TZ := Lib.hid tz
    have tf : ∀ q, Snew (fun q => S q ∧ q < w.heap.size) Z.heap.size q → Sown S w.heap.size gx q := fun q hq => by
      have h1 := HGX.out
      have h2 := BR0.lt
      rcases hq with h | h
      · exact .inl h
      · exact .inr ⟨by omega, by omega, by omega, by omega⟩
    have TF := Lib.hid tf
    have HGE := Lib.hid (show w.heap.size ≤ gx by have := HGX.out; omega)
    clear BX0 BP0 BR0 BO0 rq gw p1 x1 tz tf
    have cf := fun W (h : Grow Z W) => (ratS_any (fun q => S q ∧ q < w.heap.size) x (.mk k n y xs ag A m cap kid) W (X1.out.grow h) (P1.out.grow h)).mono (fun en w' ⟨r, h1, h2, h3, h4⟩ => (⟨r, h1, (h2.mono (fun q _ hq => TZ.out W h q hq)), h3, h4⟩ : ∃ r : PL, en = Ending.returned (pV r) ∧ PXs (Snew (fun q => S q ∧ q < w.heap.size) Z.heap.size) w' r ∧ nP r = fltP (nE x) (nP (.mk k n y xs ag A m cap kid)) ∧ Grow W w'))
    unfold E.val at cf
    unfold PL.val at cf
    simp only [PL.k, PL.n, PL.x, PL.xs, PL.ag, PL.A, PL.m, PL.cap] at cf
    have CF := Lib.hid cf
    clear cf
    rcases hk with rfl | rfl | rfl | rfl | rfl
    · go_wp2_with (go_at_call 102; ((with_reducible refine (CF.out _ (Grow.refl _)).mono ?_); rintro en w5 ⟨r, rfl, hr, hn, hg5⟩; obtain ⟨br, fr⟩ := (BR.out.grow hg5).rules; have lr := (BR.out.grow hg5).lt))
      have B3 := st11_blk r (BR.out.grow hg5)
      simp only [st11, PL.k, PL.n, PL.x, PL.xs, PL.ag, PL.A, PL.m, PL.cap] at B3
      obtain ⟨b3, f3⟩ := B3.rules
      refine bodyPost_ret (v := (r).val) (by simp [results, Try.results57, go_sem, b3, PL.val, PL.k, PL.n, PL.x, PL.xs, PL.ag, PL.A, PL.m, PL.cap]) rfl ?_
      exact RP.put (r := r) (hr.mono (fun q _ hq => TF.out q hq)) (hn.trans (push_o HL.out (by decide)).symm) (GW.out.trans hg5) HGE.out
    · go_wp2_with (go_at_call 102; ((with_reducible refine (CF.out _ (Grow.refl _)).mono ?_); rintro en w5 ⟨r, rfl, hr, hn, hg5⟩; obtain ⟨br, fr⟩ := (BR.out.grow hg5).rules; have lr := (BR.out.grow hg5).lt))
      have B3 := st11_blk r (BR.out.grow hg5)
      simp only [st11, PL.k, PL.n, PL.x, PL.xs, PL.ag, PL.A, PL.m, PL.cap] at B3
      obtain ⟨b3, f3⟩ := B3.rules
      refine bodyPost_ret (v := (r).val) (by simp [results, Try.results57, go_sem, b3, PL.val, PL.k, PL.n, PL.x, PL.xs, PL.ag, PL.A, PL.m, PL.cap]) rfl ?_
      exact RP.put (r := r) (hr.mono (fun q _ hq => TF.out q hq)) (hn.trans (push_o HL.out (by decide)).symm) (GW.out.trans hg5) HGE.out
    · go_wp2_with (go_at_call 102; ((with_reducible refine (CF.out _ (Grow.refl _)).mono ?_); rintro en w5 ⟨r, rfl, hr, hn, hg5⟩; obtain ⟨br, fr⟩ := (BR.out.grow hg5).rules; have lr := (BR.out.grow hg5).lt))
      have B3 := st11_blk r (BR.out.grow hg5)
      simp only [st11, PL.k, PL.n, PL.x, PL.xs, PL.ag, PL.A, PL.m, PL.cap] at B3
      obtain ⟨b3, f3⟩ := B3.rules
      refine bodyPost_ret (v := (r).val) (by simp [results, Try.results57, go_sem, b3, PL.val, PL.k, PL.n, PL.x, PL.xs, PL.ag, PL.A, PL.m, PL.cap]) rfl ?_
      exact RP.put (r := r) (hr.mono (fun q _ hq => TF.out q hq)) (hn.trans (push_o HL.out (by decide)).symm) (GW.out.trans hg5) HGE.out
    · go_wp2_with (go_at_call 102; ((with_reducible refine (CF.out _ (Grow.refl _)).mono ?_); rintro en w5 ⟨r, rfl, hr, hn, hg5⟩; obtain ⟨br, fr⟩ := (BR.out.grow hg5).rules; have lr := (BR.out.grow hg5).lt))
      have B3 := st11_blk r (BR.out.grow hg5)
      simp only [st11, PL.k, PL.n, PL.x, PL.xs, PL.ag, PL.A, PL.m, PL.cap] at B3
      obtain ⟨b3, f3⟩ := B3.rules
      refine bodyPost_ret (v := (r).val) (by simp [results, Try.results57, go_sem, b3, PL.val, PL.k, PL.n, PL.x, PL.xs, PL.ag, PL.A, PL.m, PL.cap]) rfl ?_
      exact RP.put (r := r) (hr.mono (fun q _ hq => TF.out q hq)) (hn.trans (push_o HL.out (by decide)).symm) (GW.out.trans hg5) HGE.out
    · go_wp2_with (go_at_call 102; ((with_reducible refine (CF.out _ (Grow.refl _)).mono ?_); rintro en w5 ⟨r, rfl, hr, hn, hg5⟩; obtain ⟨br, fr⟩ := (BR.out.grow hg5).rules; have lr := (BR.out.grow hg5).lt))
      have B3 := st11_blk r (BR.out.grow hg5)
      simp only [st11, PL.k, PL.n, PL.x, PL.xs, PL.ag, PL.A, PL.m, PL.cap] at B3
      obtain ⟨b3, f3⟩ := B3.rules
      refine bodyPost_ret (v := (r).val) (by simp [results, Try.results57, go_sem, b3, PL.val, PL.k, PL.n, PL.x, PL.xs, PL.ag, PL.A, PL.m, PL.cap]) rfl ?_
      exact RP.put (r := r) (hr.mono (fun q _ hq => TF.out q hq)) (hn.trans (push_o HL.out (by decide)).symm) (GW.out.trans hg5) HGE.out
  case hp' => exact ⟨DE0.pers _, DRow.pers _ _ _, DOut.pers _ _ _ _ _ _ _ _, DZ.pers _, trivial⟩
end Go.Proofs.Ytpgpecdiajmgmaa

namespace Go.Proofs.Ytpgpecdiajmgmaa
open Go.RowKit Go.Calm
set_option linter.unusedSimpArgs false
set_option linter.unusedVariables false

set_option maxRecDepth 100000 in
set_option maxHeartbeats 16000000 in
theorem sink_2 (ts : List (L2 Int)) (At : Option Addr) (nt : Nat) (k n : Int) (y : E) (xs : XsS) (ag : AgS) (A : Option Addr) (m cap : Nat) (kid : Nat → PL) (hk : k = 2) : SinkN ts At nt (.mk k n y xs ag A m cap kid) := by
  intro S x w hW hp hx hP hX hlit
  have HK := Lib.hid hk
  clear hk
  have HW := Lib.hid hW
  have HP := Lib.hid hP
  have HX := Lib.hid hX
  have HWp := Lib.hid hp
  have HWx := Lib.hid hx
  have HL := Lib.hid hlit
  have hkc : ∀ i, i < m → ∃ g o, A = some ⟨g, o, none⟩ ∧ PCells w g (o + i * 11) (kid i) := by
    cases hP.px with
    | mk hm hc => exact hc
  have HM := Lib.hid (show (m : Int) = kidsP k from hp.1)
  have HM2 := Lib.hid (show m ≤ 2 by have h1 : (m : Int) = kidsP k := hp.1; have := kidsP_le k; omega)
  have Hwk := Lib.hid hp.2.2.2
  have Hkc := Lib.hid hkc
  unfold E.val PL.val
  simp only [PL.k, PL.n, PL.x, PL.xs, PL.ag, PL.A, PL.m, PL.cap]
  clear hW hx hP hX hp hkc hlit
  go_enter Try.func57, Try.ntmps57
  go_upto_region 1 with fail
  refine wp_forget (fun X => Blk X w.heap.size 27 #[.int .i64 x.kind, .int .i64 x.v.k, .int .i64 x.v.n, .string x.v.s, .int .i64 x.col, .slice x.A x.n x.cap] ∧ Blk X (w.heap.size + 1) 31 #[.int .i64 k, .int .i64 n, .int .i64 y.kind, .int .i64 y.v.k, .int .i64 y.v.n, .string y.v.s, .int .i64 y.col, .slice y.A y.n y.cap, .slice xs.A xs.l.length xs.c, .slice ag.A ag.l.length ag.c, .slice A m cap] ∧ Blk X (w.heap.size + 1 + 1) 31 #[.int .i64 0, .int .i64 0, .int .i64 0, .int .i64 0, .int .i64 0, .string ⟨#[]⟩, .int .i64 0, .slice none 0 0, .slice none 0 0, .slice none 0 0, .slice none 0 0] ∧ Grow w X) ⟨((Blk.new _ _ _).al _).al _, (Blk.new' _ _ _ (by simp)).al _, Blk.new' _ _ _ (by simp), (by repeat (first | (with_reducible exact Grow.refl _) | (with_reducible assumption) | (with_reducible refine Grow.set ?_ (by first | (simp; done) | (simp; omega)) _) | (with_reducible refine Grow.al ?_ _) | (with_reducible refine Grow.drew ?_) | (with_reducible refine Grow.drewN ?_ _) | (with_reducible refine Grow.trans ?_ (by assumption))))⟩ ?_
  rintro X ⟨BX0, BP0, BR0, G⟩
  obtain ⟨gx, hgx⟩ : ∃ gx, w.heap.size = gx := ⟨_, rfl⟩
  have HGX := Lib.hid hgx
  rw [hgx] at BX0 BP0 BR0 ⊢
  clear hgx
  have BX := Lib.hid BX0
  have BP := Lib.hid BP0
  have BR := Lib.hid BR0
  have lx := BX0.lt
  have lp := BP0.lt
  obtain ⟨bx, fx⟩ := BX0.rules
  obtain ⟨bp, fp⟩ := BP0.rules
  clear BX0 BP0 BR0
  go_cut [29] (fun s wx => s = .bool (litT x) ∧ wx = X)
  case first =>
    by_cases a1 : x.kind = 1
    · have d1 : (x.kind == 1) = true := by simpa using a1
      by_cases a2 : x.v.k = 2
      · have d2 : (x.v.k == 2) = true := by simpa using a2
        by_cases a3 : x.v.n = 1
        · have d3 : (x.v.n == 1) = true := by simpa using a3
          go_wp2
          go_meet
          exact ⟨by simp [litT, a1, a2, a3], rfl⟩
        · have d3 : (x.v.n == 1) = false := by simpa using a3
          go_wp2
          go_meet
          exact ⟨by simp [litT, a1, a2, a3], rfl⟩
      · have d2 : (x.v.k == 2) = false := by simpa using a2
        go_wp2
        go_meet
        exact ⟨by simp [litT, a1, a2], rfl⟩
    · have d1 : (x.kind == 1) = false := by simpa using a1
      go_wp2
      go_meet
      exact ⟨by simp [litT, a1], rfl⟩
  obtain ⟨rfl, rfl⟩ := hcut
  rename World => X
  rw [HL.out]
  clear bx fx lx
  go_upto_region 3 with fail
  clear bp fp lp
  apply wp_region_calm 16 (by kernel_rfl) (by kernel_rfl)
  case h' =>
    intro Q0 hQ0
    simp only [List.take_succ_cons, List.take_zero]
    repeat (
      first
        | (apply calm_p rfl; case h1 => (intro w1 hw1 hF K hK; obtain ⟨bp, fp⟩ := (BP.out.grow hw1).rules; go_simp; first | exact hK _ (Grow.refl _) | fail))
        | (apply calm_y rfl rfl rfl; case h1 => (intro w1 hw1 hF K hK; obtain ⟨bp, fp⟩ := (BP.out.grow hw1).rules; go_simp; first | exact hK _ (Grow.refl _) | fail))
        | apply calm_n rfl rfl rfl rfl
      intro K hK
      go_simp
      apply hK
      clear hK K)
    apply calm_fp (DE0 X.heap.size) rfl
    case h1 =>
      intro w1 hw1 hF K hK
      go_simp
      exact hK _ _ ((Grow.refl _).al _) ⟨w1.heap.size, rfl, hw1.size, Blk.new _ _ _⟩
    intro v41 K hK
    go_simp
    apply hK
    clear hK K
    repeat (
      first
        | (apply calm_p rfl; case h1 => (intro w1 hw1 hF K hK; obtain ⟨bp, fp⟩ := (BP.out.grow hw1).rules; go_simp; first | exact hK _ (Grow.refl _) | fail))
        | (apply calm_y rfl rfl rfl; case h1 => (intro w1 hw1 hF K hK; obtain ⟨bp, fp⟩ := (BP.out.grow hw1).rules; go_simp; first | exact hK _ (Grow.refl _) | fail))
        | apply calm_n rfl rfl rfl rfl
      intro K hK
      go_simp
      apply hK
      clear hK K)
    apply calm_fp (DRow X.heap.size m kid) rfl
    case h1 =>
      intro w1 hw1 hF K hK
      obtain ⟨g, hv, hg, hB⟩ := hF _ (List.mem_cons_self ..) ⟨_, rfl, by decide⟩
      subst hv
      obtain ⟨B, cap', w', hr, hrow, hg'⟩ := run_fresh 29 (lo := X.heap.size) (m := m) (kid := kid) (A := A) (cap := cap) (by have := HM2.out; omega) (fun i hi => by obtain ⟨g, o, a, b⟩ := Hkc.out i hi; exact ⟨g, o, a, b.grow (G.trans hw1)⟩) hB hg
      exact calm_append (.tmp 41) (.tmp 43) 29 rfl 29 rfl (.slice (some ⟨g, 0, none⟩) 0 0) (.slice A m cap) rfl rfl (.slice B m cap') w' hr (hK _ _ hg' ⟨B, cap', rfl, hrow⟩)
    intro v44 K hK
    go_simp
    apply hK
    clear hK K
    apply calm_fp (DOut k n y xs ag X.heap.size m kid) rfl
    case h1 =>
      intro w1 hw1 hF K hK
      obtain ⟨B, cap', hv, hrow⟩ := hF _ (List.mem_cons_self ..) ⟨_, rfl, by decide⟩
      subst hv
      go_simp
      exact hK _ _ (Grow.refl _) ⟨B, cap', rfl, hrow⟩
    intro v45 K hK
    go_simp
    apply hK
    clear hK K
    apply calm_fp (DZ X.heap.size) rfl
    case h1 =>
      intro w1 hw1 hF K hK
      go_simp
      exact hK _ _ ((Grow.refl _).al _) ⟨w1.heap.size, rfl, hw1.size, Blk.new _ _ _⟩
    intro v7 K hK
    go_simp
    apply hK
    clear hK K
    refine calm_nil ?_
    intro w1 hw1 hF
    apply hQ0
    clear hQ0
    simp only [List.drop_succ_cons, List.drop_zero]
    obtain ⟨go', hv, hgo, BZ⟩ := hF _ (List.mem_cons_self ..)
    subst hv
    obtain ⟨B, cap', hv, hrow⟩ := hF _ (List.mem_cons_of_mem _ (List.mem_cons_self ..))
    subst hv
    clear hF
    obtain ⟨bz, fz⟩ := BZ.rules
    have lz := BZ.lt
    have HNE := Lib.hid (hrow.ne Hwk.out BZ)
    have LRX := Lib.hid (show gx + 1 + 1 < X.heap.size from BR.out.lt)
    have ST := Lib.hid (And.intro (st11_blk (PL.mk k n y xs ag B m cap' kid) BZ) (hrow.st Hwk.out BZ (PL.mk k n y xs ag B m cap' kid)))
    have LR := Lib.hid (show gx + 1 + 1 < go' by have := BR.out.lt; omega)
    have GZ := Lib.hid (show X.heap.size ≤ go' from hgo)
    clear hrow BZ hgo
    go_upto_region 4 with fail
    refine wp_forget (fun Z => Blk Z gx 27 #[.int .i64 x.kind, .int .i64 x.v.k, .int .i64 x.v.n, .string x.v.s, .int .i64 x.col, .slice x.A x.n x.cap] ∧ Blk Z (gx + 1) 31 #[.int .i64 k, .int .i64 n, .int .i64 y.kind, .int .i64 y.v.k, .int .i64 y.v.n, .string y.v.s, .int .i64 y.col, .slice y.A y.n y.cap, .slice xs.A xs.l.length xs.c, .slice ag.A ag.l.length ag.c, .slice A m cap] ∧ Blk Z (gx + 1 + 1) 31 #[.int .i64 0, .int .i64 0, .int .i64 0, .int .i64 0, .int .i64 0, .string ⟨#[]⟩, .int .i64 0, .slice none 0 0, .slice none 0 0, .slice none 0 0, .slice none 0 0] ∧ Blk Z go' 31 #[.int .i64 k, .int .i64 n, .int .i64 y.kind, .int .i64 y.v.k, .int .i64 y.v.n, .string y.v.s, .int .i64 y.col, .slice y.A y.n y.cap, .slice xs.A xs.l.length xs.c, .slice ag.A ag.l.length ag.c, .slice B m cap'] ∧ RowQ Z X.heap.size B m kid ∧ Grow X Z) ⟨by have h1 := LR.out; have h2 : go' ≠ gx := (by omega); exact st11_far (PL.mk k n y xs ag B m cap' kid) h2 (BX.out.grow hw1), by have h1 := LR.out; have h2 : go' ≠ gx + 1 := (by omega); exact st11_far (PL.mk k n y xs ag B m cap' kid) h2 (BP.out.grow hw1), by have h1 := LR.out; have h2 : go' ≠ gx + 1 + 1 := (by omega); exact st11_far (PL.mk k n y xs ag B m cap' kid) h2 (BR.out.grow hw1), ST.out.1, ST.out.2, st11_grow hw1 GZ.out (PL.mk k n y xs ag B m cap' kid)⟩ ?_
    have GOX := Lib.hid (show gx + 1 + 1 < go' from LR.out)
    clear ST bz fz lz BX BP BR hw1
    rintro Z ⟨BX0, BP0, BR0, BO0, rq, GXZ⟩
    have BX := Lib.hid BX0
    have BP := Lib.hid BP0
    have BR := Lib.hid BR0
    have BO := Lib.hid BO0
    have RQ := Lib.hid rq
    obtain ⟨bx, fx⟩ := BX0.rules
    obtain ⟨bp, fp⟩ := BP0.rules
    have lx := BX0.lt
    have lp := BP0.lt
    have gw := G.trans GXZ
    have GW := Lib.hid gw
    have p1 : PXs (fun q => S q ∧ q < w.heap.size) Z (.mk k n y xs ag A m cap kid) := (HP.out.mono (T := fun q => S q ∧ q < w.heap.size) (fun q hq hs => ⟨hs, hq⟩)).grow gw
    have x1 : EXs (fun q => S q ∧ q < w.heap.size) Z x := (HX.out.mono (T := fun q => S q ∧ q < w.heap.size) (fun q hq hs => ⟨hs, hq⟩)).grow gw
    have P1 := Lib.hid p1
    have X1 := Lib.hid x1
    have tz : ∀ (W : World), Grow Z W → ∀ q, Snew (fun q => S q ∧ q < w.heap.size) W.heap.size q → Snew (fun q => S q ∧ q < w.heap.size) Z.heap.size q := fun W h q hq => hq.imp id (fun h2 => Nat.le_trans h.size h2)
    have TZ := Lib.hid tz
    have tf : ∀ q, Snew (fun q => S q ∧ q < w.heap.size) Z.heap.size q → Sown S w.heap.size gx q := fun q hq => by
      have h1 := HGX.out
      have h2 := BR0.lt
      rcases hq with h | h
      · exact .inl h
      · exact .inr ⟨by omega, by omega, by omega, by omega⟩
    have TF := Lib.hid tf
    have HGE := Lib.hid (show w.heap.size ≤ gx by have := HGX.out; omega)
    clear BX0 BP0 BR0 BO0 rq gw p1 x1 tz tf
    have cf := fun W (h : Grow Z W) => (ratS_any (fun q => S q ∧ q < w.heap.size) x (.mk k n y xs ag A m cap kid) W (X1.out.grow h) (P1.out.grow h)).mono (fun en w' ⟨r, h1, h2, h3, h4⟩ => (⟨r, h1, (h2.mono (fun q _ hq => TZ.out W h q hq)), h3, h4⟩ : ∃ r : PL, en = Ending.returned (pV r) ∧ PXs (Snew (fun q => S q ∧ q < w.heap.size) Z.heap.size) w' r ∧ nP r = fltP (nE x) (nP (.mk k n y xs ag A m cap kid)) ∧ Grow W w'))
    unfold E.val at cf
    unfold PL.val at cf
    simp only [PL.k, PL.n, PL.x, PL.xs, PL.ag, PL.A, PL.m, PL.cap] at cf
    have CF := Lib.hid cf
    clear cf
    have hk := HK.out
    subst hk
    have HM1 := Lib.hid (show m = 1 by have := HM.out; unfold kidsP at this; simp at this; omega)
    clear HM
    have h0m : 0 < m := by have := HM1.out; omega
    have h0i : (0 : Int) < (m : Int) := by omega
    obtain ⟨ga, oa, hA, K0⟩ := Hkc.out 0 (by have := HM1.out; omega)
    subst hA
    simp only [Nat.zero_mul, Nat.add_zero] at K0
    have K0 := Lib.hid K0
    obtain ⟨CE, hCE⟩ : ∃ CE, colsE (tabs ts) (kid 0) = CE := ⟨_, rfl⟩
    have lCE : CE.1.length ≤ 8 := by rw [← hCE]; exact colsE_len _ _
    have cc := fun W (h : Grow Z W) => rcols_any ts At nt (kid 0) W (HW.out.grow (GW.out.trans h)) ((P1.out.kid h0m).grow h).px
    rw [hCE] at cc
    have cb := fun (B : Option Addr) (c9 : Nat) W (h : Grow Z W) (hi : ISl W B CE.1) => rand_anyE CE.1 B c9 y x W (by omega) hi ((P1.out.nx.x).grow h).ex (X1.out.grow h).ex
    obtain ⟨bb, hbb⟩ : ∃ bb, decide ((typeE CE.1 (andE (nE y) (nE x))).2 = 0) = bb := ⟨_, rfl⟩
    rw [hbb] at cb
    unfold E.val at cb
    unfold PL.val at cc
    simp only [PL.k, PL.n, PL.x, PL.xs, PL.ag, PL.A, PL.m, PL.cap] at cc
    have CC := Lib.hid cc
    have CB := Lib.hid cb
    have HBB := Lib.hid (And.intro hCE hbb)
    clear cc cb hCE hbb lCE
    go_wp2
    go_cut [8, 9] (fun a b wx => ∃ (gz : Nat) (z : E), a = .pointer (some ⟨gz, 0, none⟩) ∧ b = .bool bb ∧ Blk wx gz 27 (eC z) ∧ EXs (Snew (fun q => S q ∧ q < w.heap.size) Z.heap.size) wx z ∧ nE z = andE (nE y) (nE x) ∧ Grow Z wx)
    case first =>
      apply wp_hang 14 12 (by kernel_rfl) (by kernel_rfl) (still_extract rfl rfl rfl)
      case h' =>
        intro Q0 hQ0
        simp only [List.take_succ_cons, List.take_zero]
        repeat (
          first
            | (apply calm_p rfl; case h1 => (intro w1 hw1 hF K hK; obtain ⟨bx, fx⟩ := (BX.out.grow hw1).rules; obtain ⟨bp, fp⟩ := (BP.out.grow hw1).rules; obtain ⟨k0, k1, k2, k3, k4, k5, k6, k7, k8, k9, k10⟩ := K0.out.grow (GW.out.trans hw1); go_simp; first | exact hK _ (Grow.refl _) | fail))
            | (apply calm_y rfl rfl rfl; case h1 => (intro w1 hw1 hF K hK; obtain ⟨bx, fx⟩ := (BX.out.grow hw1).rules; obtain ⟨bp, fp⟩ := (BP.out.grow hw1).rules; obtain ⟨k0, k1, k2, k3, k4, k5, k6, k7, k8, k9, k10⟩ := K0.out.grow (GW.out.trans hw1); go_simp; first | exact hK _ (Grow.refl _) | fail))
            | apply calm_n rfl rfl rfl rfl
          intro K hK
          go_simp
          apply hK
          clear hK K)
        apply calm_fp (PSI CE.1) rfl
        case h1 =>
          intro w1 hw1 hF K hK
          obtain ⟨bx, fx⟩ := (BX.out.grow hw1).rules 
          obtain ⟨bp, fp⟩ := (BP.out.grow hw1).rules 
          obtain ⟨k0, k1, k2, k3, k4, k5, k6, k7, k8, k9, k10⟩ := K0.out.grow (GW.out.trans hw1)
          go_simp
          go_at_call 101
          refine (CC.out w1 hw1).mono ?_
          rintro en w' ⟨B7, c7, rfl, hi7, hg'⟩
          exact ⟨_, rfl, hK _ _ hg' ⟨B7, c7, rfl, hi7⟩⟩
        intro v35 K hK
        go_simp
        apply hK
        clear hK K
        repeat (
          first
            | (apply calm_p rfl; case h1 => (intro w1 hw1 hF K hK; obtain ⟨bx, fx⟩ := (BX.out.grow hw1).rules; obtain ⟨bp, fp⟩ := (BP.out.grow hw1).rules; obtain ⟨k0, k1, k2, k3, k4, k5, k6, k7, k8, k9, k10⟩ := K0.out.grow (GW.out.trans hw1); go_simp; first | exact hK _ (Grow.refl _) | fail))
            | (apply calm_y rfl rfl rfl; case h1 => (intro w1 hw1 hF K hK; obtain ⟨bx, fx⟩ := (BX.out.grow hw1).rules; obtain ⟨bp, fp⟩ := (BP.out.grow hw1).rules; obtain ⟨k0, k1, k2, k3, k4, k5, k6, k7, k8, k9, k10⟩ := K0.out.grow (GW.out.trans hw1); go_simp; first | exact hK _ (Grow.refl _) | fail))
            | apply calm_n rfl rfl rfl rfl
          intro K hK
          go_simp
          apply hK
          clear hK K)
        apply calm_fp (VA y x bb Z.heap.size) rfl
        case h1 =>
          intro w1 hw1 hF K hK
          obtain ⟨B7, c7, hv, hi7⟩ := hF _ (List.mem_cons_self ..) ⟨_, rfl, by decide⟩
          subst hv
          go_simp
          go_at_call 100
          refine (CB.out B7 c7 w1 hw1 hi7).mono ?_
          rintro en w' ⟨g, rfl, hge9, hb9, hg'⟩
          exact ⟨_, rfl, hK _ _ hg' ⟨g, rfl, Nat.le_trans hw1.size hge9, hb9⟩⟩
        intro v39 K hK
        go_simp
        apply hK
        clear hK K
        apply calm_fp (VA y x bb Z.heap.size) rfl
        case h1 =>
          intro w1 hw1 hF K hK
          have D9 := hF _ (List.mem_cons_self ..) ⟨_, rfl, by decide⟩
          go_simp
          exact hK _ _ (Grow.refl _) D9
        intro v29 K hK
        go_simp
        apply hK
        clear hK K
        apply calm_fp (VA1 y x Z.heap.size) rfl
        case h1 =>
          intro w1 hw1 hF K hK
          obtain ⟨g, hv, hg1, hb1⟩ := hF _ (List.mem_cons_self ..) ⟨_, rfl, by decide⟩
          subst hv
          go_simp
          exact hK _ _ (Grow.refl _) ⟨g, rfl, hg1, hb1⟩
        intro v40 K hK
        go_simp
        apply hK
        clear hK K
        apply calm_fp (VBo bb) rfl
        case h1 =>
          intro w1 hw1 hF K hK
          obtain ⟨g, hv, hg1, hb1⟩ := hF _ (List.mem_cons_of_mem _ (List.mem_cons_self ..)) ⟨_, rfl, by decide⟩
          subst hv
          go_simp
          exact hK _ _ (Grow.refl _) rfl
        intro v41 K hK
        go_simp
        apply hK
        clear hK K
        apply calm_fp (VZ Z.heap.size) rfl
        case h1 =>
          intro w1 hw1 hF K hK
          go_simp
          exact hK _ _ ((Grow.refl _).al _) ⟨w1.heap.size, rfl, hw1.size, Blk.new _ _ _⟩
        intro v7 K hK
        go_simp
        apply hK
        clear hK K
        refine calm_nil ?_
        intro w1 hw1 hF
        apply hQ0
        clear hQ0
        simp only [List.drop_succ_cons, List.drop_zero]
        obtain ⟨gz, hv, hgz, BZ⟩ := hF _ (List.mem_cons_self ..)
        subst hv
        have hv := hF _ (List.mem_cons_of_mem _ (List.mem_cons_self ..))
        unfold VBo at hv
        subst hv
        obtain ⟨g, hv, hg1, hb1⟩ := hF _ (List.mem_cons_of_mem _ (List.mem_cons_of_mem _ (List.mem_cons_self ..)))
        subst hv
        clear hF
        have hne : g ≠ gz := fun h => by
          subst h
          have e := (hb1.cell 11).symm.trans (BZ.cell 11)
          simp at e
        have hz1 : EXs (fun q => ((S q ∧ q < w.heap.size) ∧ q < Z.heap.size) ∨ q = g) w1 (twoK 4 y x (some ⟨g, 0, none⟩)) := fun W a => ex_two y x (blk_agr hb1 a (.inr rfl)) ((((P1.out.nx.x).mono (T := fun q => (S q ∧ q < w.heap.size) ∧ q < Z.heap.size) (fun q a b => ⟨b, a⟩)).grow hw1) W (a.mono (fun q _ h => .inl h))) (((X1.out.mono (T := fun q => (S q ∧ q < w.heap.size) ∧ q < Z.heap.size) (fun q a b => ⟨b, a⟩)).grow hw1) W (a.mono (fun q _ h => .inl h))) ⟨by decide, by decide⟩
        have ZZ := Lib.hid (zput (T := Snew (fun q => S q ∧ q < w.heap.size) Z.heap.size) hz1 (Grow.refl w1) BZ (fun q _ hq => by
          rcases hq with ⟨h1, h2⟩ | h
          · exact ⟨.inl h1, by omega⟩
          · subst h; exact ⟨.inr hg1, hne⟩) hw1 hgz)
        have lgz := BZ.lt
        obtain ⟨bz, fz⟩ := BZ.rules
        clear hz1 hb1 hne hg1 hgz BZ
        go_wp2_with fail
        go_meet
        exact ⟨gz, _, rfl, rfl, ZZ.out.1, ZZ.out.2.1, by rw [nE_twoK]; rfl, ZZ.out.2.2⟩
      case hp' => exact ⟨PSI.pers _, VA.pers _ _ _ _, VA.pers _ _ _ _, VA1.pers _ _ _, VBo.pers _, VZ.pers _, trivial⟩
    case rest =>
      obtain ⟨gz, z, rfl, rfl, BZ, hzY, hnz, GY⟩ := hcut
      rename World => Y
      have BZ' := Lib.hid BZ
      have HZ := Lib.hid (And.intro hzY hnz)
      clear BZ hzY hnz
      cases bb
      · obtain ⟨bx, fx⟩ := (BX.out.grow GY).rules
        obtain ⟨bp, fp⟩ := (BP.out.grow GY).rules
        go_wp2_with (go_at_call 102; ((with_reducible refine (CF.out _ GY).mono ?_); rintro en w5 ⟨r, rfl, hr, hn, hg5⟩; obtain ⟨br, fr⟩ := ((BR.out.grow GY).grow hg5).rules; have lr := ((BR.out.grow GY).grow hg5).lt))
        have B3 := st11_blk r (BR.out.grow (GY.trans hg5))
        simp only [st11, PL.k, PL.n, PL.x, PL.xs, PL.ag, PL.A, PL.m, PL.cap] at B3
        obtain ⟨b3, f3⟩ := B3.rules
        refine bodyPost_ret (v := (r).val) (by simp [results, Try.results57, go_sem, b3, PL.val, PL.k, PL.n, PL.x, PL.xs, PL.ag, PL.A, PL.m, PL.cap]) rfl ?_
        exact RP.put (r := r) (hr.mono (fun q _ hq => TF.out q hq)) (hn.trans (by rw [push_2 HL.out HM1.out, HBB.out.1, if_neg (of_decide_eq_false HBB.out.2)])) (GW.out.trans (GY.trans hg5)) HGE.out
      · have cz := fun W (h : Grow Y W) => (ratS_any (Snew (fun q => S q ∧ q < w.heap.size) Z.heap.size) z (kid 0) W (HZ.out.1.grow h) (((P1.out.kid h0m).mono (T := Snew (fun q => S q ∧ q < w.heap.size) Z.heap.size) (fun q _ h => .inl h)).grow (GY.trans h))).mono (fun en w' ⟨r, h1, h2, h3, h4⟩ => (⟨r, h1, h2.mono (fun q _ hq => hq.elim id (fun h9 => .inr (Nat.le_trans (GY.trans h).size h9))), h3, h4⟩ : ∃ r : PL, en = Ending.returned (pV r) ∧ PXs (Snew (fun q => S q ∧ q < w.heap.size) Z.heap.size) w' r ∧ nP r = fltP (nE z) (nP (kid 0)) ∧ Grow W w'))
        unfold E.val at cz
        unfold PL.val at cz
        have CZ := Lib.hid cz
        clear cz
        go_wp2
        apply wp_region_calm 6 (by kernel_rfl) (by kernel_rfl)
        case h' =>
          intro Q0 hQ0
          simp only [List.take_succ_cons, List.take_zero]
          repeat (
            first
              | (apply calm_p rfl; case h1 => (intro w1 hw1 hF K hK; obtain ⟨bz, fz⟩ := (BZ'.out.grow hw1).rules; obtain ⟨bp, fp⟩ := ((BP.out.grow GY).grow hw1).rules; obtain ⟨k0, k1, k2, k3, k4, k5, k6, k7, k8, k9, k10⟩ := K0.out.grow ((GW.out.trans GY).trans hw1); go_simp; first | exact hK _ (Grow.refl _) | fail))
              | (apply calm_y rfl rfl rfl; case h1 => (intro w1 hw1 hF K hK; obtain ⟨bz, fz⟩ := (BZ'.out.grow hw1).rules; obtain ⟨bp, fp⟩ := ((BP.out.grow GY).grow hw1).rules; obtain ⟨k0, k1, k2, k3, k4, k5, k6, k7, k8, k9, k10⟩ := K0.out.grow ((GW.out.trans GY).trans hw1); go_simp; first | exact hK _ (Grow.refl _) | fail))
              | apply calm_n rfl rfl rfl rfl
            intro K hK
            go_simp
            apply hK
            clear hK K)
          apply calm_fp (VP (Snew (fun q => S q ∧ q < w.heap.size) Z.heap.size) (fltP (nE z) (nP (kid 0)))) rfl
          case h1 =>
            intro w1 hw1 hF K hK
            go_simp
            go_at_call 102
            refine (CZ.out w1 hw1).mono ?_
            rintro en w' ⟨r, rfl, hr, hn, hg'⟩
            exact ⟨_, rfl, hK _ _ hg' ⟨r, rfl, hr, hn⟩⟩
          intro v48 K hK
          go_simp
          apply hK
          clear hK K
          refine calm_nil ?_
          intro w1 hw1 hF
          apply hQ0
          clear hQ0
          simp only [List.drop_succ_cons, List.drop_zero]
          obtain ⟨r, hv, hr, hn⟩ := hF _ (List.mem_cons_self ..)
          subst hv
          clear hF
          have GY2 := GY.trans hw1
          obtain ⟨br, fr⟩ := (BR.out.grow GY2).rules
          have lr := (BR.out.grow GY2).lt
          go_wp2
          have B3 := st11_blk r (BR.out.grow GY2)
          simp only [st11, PL.k, PL.n, PL.x, PL.xs, PL.ag, PL.A, PL.m, PL.cap] at B3
          obtain ⟨b3, f3⟩ := B3.rules
          refine bodyPost_ret (v := (r).val) (by simp [results, Try.results57, go_sem, b3, PL.val, PL.k, PL.n, PL.x, PL.xs, PL.ag, PL.A, PL.m, PL.cap]) rfl ?_
          exact RP.put (r := r) (hr.mono (fun q _ hq => TF.out q hq)) (hn.trans (by rw [HZ.out.2, push_2 HL.out HM1.out, HBB.out.1, if_pos (of_decide_eq_true HBB.out.2)])) (GW.out.trans GY2) HGE.out
        case hp' => exact ⟨VP.pers _ _, trivial⟩
  case hp' => exact ⟨DE0.pers _, DRow.pers _ _ _, DOut.pers _ _ _ _ _ _ _ _, DZ.pers _, trivial⟩
end Go.Proofs.Ytpgpecdiajmgmaa

namespace Go.Proofs.Ytpgpecdiajmgmaa
open Go.RowKit Go.Calm
set_option linter.unusedSimpArgs false
set_option linter.unusedVariables false

set_option maxRecDepth 100000 in
set_option maxHeartbeats 16000000 in
theorem sink_5 (ts : List (L2 Int)) (At : Option Addr) (nt : Nat) (k n : Int) (y : E) (xs : XsS) (ag : AgS) (A : Option Addr) (m cap : Nat) (kid : Nat → PL) (hk : k = 5) (ih : ∀ i, i < m → SinkC ts At nt (kid i)) : SinkN ts At nt (.mk k n y xs ag A m cap kid) := by
  intro S x w hW hp hx hP hX hlit
  have IH := Lib.hid ih
  clear ih
  have HK := Lib.hid hk
  clear hk
  have HW := Lib.hid hW
  have HP := Lib.hid hP
  have HX := Lib.hid hX
  have HWp := Lib.hid hp
  have HWx := Lib.hid hx
  have HL := Lib.hid hlit
  have hkc : ∀ i, i < m → ∃ g o, A = some ⟨g, o, none⟩ ∧ PCells w g (o + i * 11) (kid i) := by
    cases hP.px with
    | mk hm hc => exact hc
  have HM := Lib.hid (show (m : Int) = kidsP k from hp.1)
  have HM2 := Lib.hid (show m ≤ 2 by have h1 : (m : Int) = kidsP k := hp.1; have := kidsP_le k; omega)
  have Hwk := Lib.hid hp.2.2.2
  have Hkc := Lib.hid hkc
  unfold E.val PL.val
  simp only [PL.k, PL.n, PL.x, PL.xs, PL.ag, PL.A, PL.m, PL.cap]
  clear hW hx hP hX hp hkc hlit
  go_enter Try.func57, Try.ntmps57
  go_upto_region 1 with fail
  refine wp_forget (fun X => Blk X w.heap.size 27 #[.int .i64 x.kind, .int .i64 x.v.k, .int .i64 x.v.n, .string x.v.s, .int .i64 x.col, .slice x.A x.n x.cap] ∧ Blk X (w.heap.size + 1) 31 #[.int .i64 k, .int .i64 n, .int .i64 y.kind, .int .i64 y.v.k, .int .i64 y.v.n, .string y.v.s, .int .i64 y.col, .slice y.A y.n y.cap, .slice xs.A xs.l.length xs.c, .slice ag.A ag.l.length ag.c, .slice A m cap] ∧ Blk X (w.heap.size + 1 + 1) 31 #[.int .i64 0, .int .i64 0, .int .i64 0, .int .i64 0, .int .i64 0, .string ⟨#[]⟩, .int .i64 0, .slice none 0 0, .slice none 0 0, .slice none 0 0, .slice none 0 0] ∧ Grow w X) ⟨((Blk.new _ _ _).al _).al _, (Blk.new' _ _ _ (by simp)).al _, Blk.new' _ _ _ (by simp), (by repeat (first | (with_reducible exact Grow.refl _) | (with_reducible assumption) | (with_reducible refine Grow.set ?_ (by first | (simp; done) | (simp; omega)) _) | (with_reducible refine Grow.al ?_ _) | (with_reducible refine Grow.drew ?_) | (with_reducible refine Grow.drewN ?_ _) | (with_reducible refine Grow.trans ?_ (by assumption))))⟩ ?_
  rintro X ⟨BX0, BP0, BR0, G⟩
  obtain ⟨gx, hgx⟩ : ∃ gx, w.heap.size = gx := ⟨_, rfl⟩
  have HGX := Lib.hid hgx
  rw [hgx] at BX0 BP0 BR0 ⊢
  clear hgx
  have BX := Lib.hid BX0
  have BP := Lib.hid BP0
  have BR := Lib.hid BR0
  have lx := BX0.lt
  have lp := BP0.lt
  obtain ⟨bx, fx⟩ := BX0.rules
  obtain ⟨bp, fp⟩ := BP0.rules
  clear BX0 BP0 BR0
  go_cut [29] (fun s wx => s = .bool (litT x) ∧ wx = X)
  case first =>
    by_cases a1 : x.kind = 1
    · have d1 : (x.kind == 1) = true := by simpa using a1
      by_cases a2 : x.v.k = 2
      · have d2 : (x.v.k == 2) = true := by simpa using a2
        by_cases a3 : x.v.n = 1
        · have d3 : (x.v.n == 1) = true := by simpa using a3
          go_wp2
          go_meet
          exact ⟨by simp [litT, a1, a2, a3], rfl⟩
        · have d3 : (x.v.n == 1) = false := by simpa using a3
          go_wp2
          go_meet
          exact ⟨by simp [litT, a1, a2, a3], rfl⟩
      · have d2 : (x.v.k == 2) = false := by simpa using a2
        go_wp2
        go_meet
        exact ⟨by simp [litT, a1, a2], rfl⟩
    · have d1 : (x.kind == 1) = false := by simpa using a1
      go_wp2
      go_meet
      exact ⟨by simp [litT, a1], rfl⟩
  obtain ⟨rfl, rfl⟩ := hcut
  rename World => X
  rw [HL.out]
  clear bx fx lx
  go_upto_region 3 with fail
  clear bp fp lp
  apply wp_region_calm 16 (by kernel_rfl) (by kernel_rfl)
  case h' =>
    intro Q0 hQ0
    simp only [List.take_succ_cons, List.take_zero]
    repeat (
      first
        | (apply calm_p rfl; case h1 => (intro w1 hw1 hF K hK; obtain ⟨bp, fp⟩ := (BP.out.grow hw1).rules; go_simp; first | exact hK _ (Grow.refl _) | fail))
        | (apply calm_y rfl rfl rfl; case h1 => (intro w1 hw1 hF K hK; obtain ⟨bp, fp⟩ := (BP.out.grow hw1).rules; go_simp; first | exact hK _ (Grow.refl _) | fail))
        | apply calm_n rfl rfl rfl rfl
      intro K hK
      go_simp
      apply hK
      clear hK K)
    apply calm_fp (DE0 X.heap.size) rfl
    case h1 =>
      intro w1 hw1 hF K hK
      go_simp
      exact hK _ _ ((Grow.refl _).al _) ⟨w1.heap.size, rfl, hw1.size, Blk.new _ _ _⟩
    intro v41 K hK
    go_simp
    apply hK
    clear hK K
    repeat (
      first
        | (apply calm_p rfl; case h1 => (intro w1 hw1 hF K hK; obtain ⟨bp, fp⟩ := (BP.out.grow hw1).rules; go_simp; first | exact hK _ (Grow.refl _) | fail))
        | (apply calm_y rfl rfl rfl; case h1 => (intro w1 hw1 hF K hK; obtain ⟨bp, fp⟩ := (BP.out.grow hw1).rules; go_simp; first | exact hK _ (Grow.refl _) | fail))
        | apply calm_n rfl rfl rfl rfl
      intro K hK
      go_simp
      apply hK
      clear hK K)
    apply calm_fp (DRow X.heap.size m kid) rfl
    case h1 =>
      intro w1 hw1 hF K hK
      obtain ⟨g, hv, hg, hB⟩ := hF _ (List.mem_cons_self ..) ⟨_, rfl, by decide⟩
      subst hv
      obtain ⟨B, cap', w', hr, hrow, hg'⟩ := run_fresh 29 (lo := X.heap.size) (m := m) (kid := kid) (A := A) (cap := cap) (by have := HM2.out; omega) (fun i hi => by obtain ⟨g, o, a, b⟩ := Hkc.out i hi; exact ⟨g, o, a, b.grow (G.trans hw1)⟩) hB hg
      exact calm_append (.tmp 41) (.tmp 43) 29 rfl 29 rfl (.slice (some ⟨g, 0, none⟩) 0 0) (.slice A m cap) rfl rfl (.slice B m cap') w' hr (hK _ _ hg' ⟨B, cap', rfl, hrow⟩)
    intro v44 K hK
    go_simp
    apply hK
    clear hK K
    apply calm_fp (DOut k n y xs ag X.heap.size m kid) rfl
    case h1 =>
      intro w1 hw1 hF K hK
      obtain ⟨B, cap', hv, hrow⟩ := hF _ (List.mem_cons_self ..) ⟨_, rfl, by decide⟩
      subst hv
      go_simp
      exact hK _ _ (Grow.refl _) ⟨B, cap', rfl, hrow⟩
    intro v45 K hK
    go_simp
    apply hK
    clear hK K
    apply calm_fp (DZ X.heap.size) rfl
    case h1 =>
      intro w1 hw1 hF K hK
      go_simp
      exact hK _ _ ((Grow.refl _).al _) ⟨w1.heap.size, rfl, hw1.size, Blk.new _ _ _⟩
    intro v7 K hK
    go_simp
    apply hK
    clear hK K
    refine calm_nil ?_
    intro w1 hw1 hF
    apply hQ0
    clear hQ0
    simp only [List.drop_succ_cons, List.drop_zero]
    obtain ⟨go', hv, hgo, BZ⟩ := hF _ (List.mem_cons_self ..)
    subst hv
    obtain ⟨B, cap', hv, hrow⟩ := hF _ (List.mem_cons_of_mem _ (List.mem_cons_self ..))
    subst hv
    clear hF
    obtain ⟨bz, fz⟩ := BZ.rules
    have lz := BZ.lt
    have HNE := Lib.hid (hrow.ne Hwk.out BZ)
    have LRX := Lib.hid (show gx + 1 + 1 < X.heap.size from BR.out.lt)
    have ST := Lib.hid (And.intro (st11_blk (PL.mk k n y xs ag B m cap' kid) BZ) (hrow.st Hwk.out BZ (PL.mk k n y xs ag B m cap' kid)))
    have LR := Lib.hid (show gx + 1 + 1 < go' by have := BR.out.lt; omega)
    have GZ := Lib.hid (show X.heap.size ≤ go' from hgo)
    clear hrow BZ hgo
    go_upto_region 4 with fail
    refine wp_forget (fun Z => Blk Z gx 27 #[.int .i64 x.kind, .int .i64 x.v.k, .int .i64 x.v.n, .string x.v.s, .int .i64 x.col, .slice x.A x.n x.cap] ∧ Blk Z (gx + 1) 31 #[.int .i64 k, .int .i64 n, .int .i64 y.kind, .int .i64 y.v.k, .int .i64 y.v.n, .string y.v.s, .int .i64 y.col, .slice y.A y.n y.cap, .slice xs.A xs.l.length xs.c, .slice ag.A ag.l.length ag.c, .slice A m cap] ∧ Blk Z (gx + 1 + 1) 31 #[.int .i64 0, .int .i64 0, .int .i64 0, .int .i64 0, .int .i64 0, .string ⟨#[]⟩, .int .i64 0, .slice none 0 0, .slice none 0 0, .slice none 0 0, .slice none 0 0] ∧ Blk Z go' 31 #[.int .i64 k, .int .i64 n, .int .i64 y.kind, .int .i64 y.v.k, .int .i64 y.v.n, .string y.v.s, .int .i64 y.col, .slice y.A y.n y.cap, .slice xs.A xs.l.length xs.c, .slice ag.A ag.l.length ag.c, .slice B m cap'] ∧ RowQ Z X.heap.size B m kid ∧ Grow X Z) ⟨by have h1 := LR.out; have h2 : go' ≠ gx := (by omega); exact st11_far (PL.mk k n y xs ag B m cap' kid) h2 (BX.out.grow hw1), by have h1 := LR.out; have h2 : go' ≠ gx + 1 := (by omega); exact st11_far (PL.mk k n y xs ag B m cap' kid) h2 (BP.out.grow hw1), by have h1 := LR.out; have h2 : go' ≠ gx + 1 + 1 := (by omega); exact st11_far (PL.mk k n y xs ag B m cap' kid) h2 (BR.out.grow hw1), ST.out.1, ST.out.2, st11_grow hw1 GZ.out (PL.mk k n y xs ag B m cap' kid)⟩ ?_
    have GOX := Lib.hid (show gx + 1 + 1 < go' from LR.out)
    clear ST bz fz lz BX BP BR hw1
    rintro Z ⟨BX0, BP0, BR0, BO0, rq, GXZ⟩
    have BX := Lib.hid BX0
    have BP := Lib.hid BP0
    have BR := Lib.hid BR0
    have BO := Lib.hid BO0
    have RQ := Lib.hid rq
    obtain ⟨bx, fx⟩ := BX0.rules
    obtain ⟨bp, fp⟩ := BP0.rules
    have lx := BX0.lt
    have lp := BP0.lt
    have gw := G.trans GXZ
    have GW := Lib.hid gw
    have p1 : PXs (fun q => S q ∧ q < w.heap.size) Z (.mk k n y xs ag A m cap kid) := (HP.out.mono (T := fun q => S q ∧ q < w.heap.size) (fun q hq hs => ⟨hs, hq⟩)).grow gw
    have x1 : EXs (fun q => S q ∧ q < w.heap.size) Z x := (HX.out.mono (T := fun q => S q ∧ q < w.heap.size) (fun q hq hs => ⟨hs, hq⟩)).grow gw
    have P1 := Lib.hid p1
    have X1 := Lib.hid x1
    have tz : ∀ (W : World), Grow Z W → ∀ q, Snew (fun q => S q ∧ q < w.heap.size) W.heap.size q → Snew (fun q => S q ∧ q < w.heap.size) Z.heap.size q := fun W h q hq => hq.imp id (fun h2 => Nat.le_trans h.size h2)
    have TZ := Lib.hid tz
    have tf : ∀ q, Snew (fun q => S q ∧ q < w.heap.size) Z.heap.size q → Sown S w.heap.size gx q := fun q hq => by
      have h1 := HGX.out
      have h2 := BR0.lt
      rcases hq with h | h
      · exact .inl h
      · exact .inr ⟨by omega, by omega, by omega, by omega⟩
    have TF := Lib.hid tf
    have HGE := Lib.hid (show w.heap.size ≤ gx by have := HGX.out; omega)
    clear BX0 BP0 BR0 BO0 rq gw p1 x1 tz tf
    have cs := fun i (hi : i < m) W (h : Grow Z W) => (IH.out i hi (fun q => S q ∧ q < w.heap.size) x W (HW.out.grow (GW.out.trans h)) (Hwk.out i hi) HWx.out ((P1.out.kid hi).grow h) (X1.out.grow h)).mono (fun en w' ⟨r, h1, h2, h3, h4⟩ => (⟨r, h1, h2.mono (fun q _ hq => TZ.out W h q hq), h3, h4⟩ : ∃ r : PL, en = Ending.returned (pV r) ∧ PXs (Snew (fun q => S q ∧ q < w.heap.size) Z.heap.size) w' r ∧ nP r = pushP (tabs ts) (nP (kid i)) (nE x) ∧ Grow W w'))
    unfold E.val PL.val at cs
    have CS := Lib.hid cs
    clear cs
    have hk := HK.out
    subst hk
    have HM1 := Lib.hid (show m = 2 by have := HM.out; unfold kidsP at this; simp at this; omega)
    clear HM
    have h0m : 0 < m := by have := HM1.out; omega
    have h0i : (0 : Int) < (m : Int) := by omega
    obtain ⟨ga, oa, hA, K0⟩ := Hkc.out 0 (by have := HM1.out; omega)
    subst hA
    simp only [Nat.zero_mul, Nat.add_zero] at K0
    have K0 := Lib.hid K0
    have h1m : 1 < m := by have := HM1.out; omega
    have h1i : (1 : Int) < (m : Int) := by omega
    obtain ⟨ga', oa', hA, K1⟩ := Hkc.out 1 (by have := HM1.out; omega)
    cases hA
    simp only [Nat.one_mul] at K1
    have K1 := Lib.hid K1
    obtain ⟨gB, cur, hBe, hlo, hBB, hsz, hcs⟩ := RQ.out h0m
    subst hBe
    have GB := Lib.hid (And.intro hlo (And.intro hBB (And.intro hsz hcs)))
    have hne := HNE.out gB rfl h0m
    have HNB := Lib.hid hne
    clear hlo hBB hsz hcs hne
    go_wp2
    apply wp_region_calm 10 (by kernel_rfl) (by kernel_rfl)
    case h' =>
      intro Q0 hQ0
      simp only [List.take_succ_cons, List.take_zero]
      repeat (
        first
          | (apply calm_p rfl; case h1 => (intro w1 hw1 hF K hK; obtain ⟨bo, fo⟩ := (BO.out.grow hw1).rules; obtain ⟨bx, fx⟩ := (BX.out.grow hw1).rules; obtain ⟨bp, fp⟩ := (BP.out.grow hw1).rules; obtain ⟨k0, k1, k2, k3, k4, k5, k6, k7, k8, k9, k10⟩ := K0.out.grow (GW.out.trans hw1); go_simp; first | exact hK _ (Grow.refl _) | fail))
          | (apply calm_y rfl rfl rfl; case h1 => (intro w1 hw1 hF K hK; obtain ⟨bo, fo⟩ := (BO.out.grow hw1).rules; obtain ⟨bx, fx⟩ := (BX.out.grow hw1).rules; obtain ⟨bp, fp⟩ := (BP.out.grow hw1).rules; obtain ⟨k0, k1, k2, k3, k4, k5, k6, k7, k8, k9, k10⟩ := K0.out.grow (GW.out.trans hw1); go_simp; first | exact hK _ (Grow.refl _) | fail))
          | apply calm_n rfl rfl rfl rfl
        intro K hK
        go_simp
        apply hK
        clear hK K)
      apply calm_fp (VP (Snew (fun q => S q ∧ q < w.heap.size) Z.heap.size) (pushP (tabs ts) (nP (kid 0)) (nE x))) rfl
      case h1 =>
        intro w1 hw1 hF K hK
        obtain ⟨bo, fo⟩ := (BO.out.grow hw1).rules 
        obtain ⟨bx, fx⟩ := (BX.out.grow hw1).rules 
        obtain ⟨bp, fp⟩ := (BP.out.grow hw1).rules 
        obtain ⟨k0, k1, k2, k3, k4, k5, k6, k7, k8, k9, k10⟩ := K0.out.grow (GW.out.trans hw1)
        go_simp
        go_at_call 57
        refine (CS.out 0 (by have := HM1.out; omega) w1 hw1).mono ?_
        rintro en w' ⟨r, rfl, hr, hn, hg'⟩
        exact ⟨_, rfl, hK _ _ hg' ⟨r, rfl, hr, hn⟩⟩
      intro v120 K hK
      go_simp
      apply hK
      clear hK K
      repeat (
        first
          | (apply calm_p rfl; case h1 => (intro w1 hw1 hF K hK; skip; go_simp; first | exact hK _ (Grow.refl _) | fail))
          | (apply calm_y rfl rfl rfl; case h1 => (intro w1 hw1 hF K hK; skip; go_simp; first | exact hK _ (Grow.refl _) | fail))
          | apply calm_n rfl rfl rfl rfl
        intro K hK
        go_simp
        apply hK
        clear hK K)
      refine calm_nil ?_
      intro w1 hw1 hF
      apply hQ0
      clear hQ0
      simp only [List.drop_succ_cons, List.drop_zero]
      obtain ⟨r, hv, hr, hn⟩ := hF _ (List.mem_cons_self ..)
      subst hv
      clear hF bx fx bp fp lx lp
      have hb1 := GB.out.2.1.grow hw1
      obtain ⟨bg, fg⟩ := hb1.rules
      have gl := hb1.lt
      obtain ⟨u0, u1, u2, u3, u4, u5, u6, u7, u8, u9, u10, k0, k1, k2, k3, k4, k5, k6, k7, k8, k9, k10⟩ := cur11 hb1 (show 0 * 11 + 11 ≤ cur.size by have := GB.out.2.2.1; have := HM1.out; omega)
      clear bg hb1
      go_upto_region 19 with fail
      have h1 := HGX.out
      have h2 := GB.out.1
      have h3 := BR.out.lt
      have h4 := GB.out.2.1.lt
      have h5 := GXZ.size
      have h6 := LRX.out
      have RR := Lib.hid (And.intro hr hn)
      refine wp_forget (fun V => Blk V (gx + 1 + 1) 31 #[.int .i64 0, .int .i64 0, .int .i64 0, .int .i64 0, .int .i64 0, .string ⟨#[]⟩, .int .i64 0, .slice none 0 0, .slice none 0 0, .slice none 0 0, .slice none 0 0] ∧ Blk V go' 31 #[.int .i64 5, .int .i64 n, .int .i64 y.kind, .int .i64 y.v.k, .int .i64 y.v.n, .string y.v.s, .int .i64 y.col, .slice y.A y.n y.cap, .slice xs.A xs.l.length xs.c, .slice ag.A ag.l.length ag.c, .slice (some ⟨gB, 0, none⟩) m cap'] ∧ RowQ V X.heap.size (some ⟨gB, 0, none⟩) m (fun i => if i = 0 then r else kid i) ∧ PXs (Snew (fun q => S q ∧ q < w.heap.size) Z.heap.size) V r ∧ Agr (Snew (fun q => S q ∧ q < w.heap.size) Z.heap.size) w1 V ∧ w1.heap.size ≤ V.heap.size ∧ Grow w V) ⟨Blk.farP (BR.out.grow hw1) (show gB ≠ gx + 1 + 1 by omega) (0 * 11) r, Blk.farP (BO.out.grow hw1) HNB.out (0 * 11) r, (RQ.out.grow hw1).put (j := 0) (by have := HM1.out; omega) r, RR.out.1.move (fun q hq _ => st11o_heap w1 gB (0 * 11) r (by rcases hq with h | h <;> omega)) (by rw [st11o_size]; exact Nat.le_refl _), fun q hq _ => st11o_heap w1 gB (0 * 11) r (by rcases hq with h | h <;> omega), (by rw [st11o_size]; exact Nat.le_refl _), st11o_grow (GW.out.trans hw1) (by omega) (0 * 11) r⟩ ?_
      clear h1 h2 h3 h4 h5 h6 hr hn k0 k1 k2 k3 k4 k5 k6 k7 k8 k9 k10 fg gl
      rintro V ⟨BRV, BOV, rqV, hrV, agV, szV, GV⟩
      have hrr : PXs (Sown S w.heap.size gx) V (PL.mk 5 n y xs ag (some ⟨gB, 0, none⟩) m cap' (fun i => if i = 0 then r else kid i)) := pxs_row (T := Sown S w.heap.size gx) rqV (fun g hg => .inr ⟨by have := HGX.out; have := LRX.out; omega, by have := LRX.out; omega, by have := LRX.out; omega, by have := LRX.out; omega⟩) ((((P1.out.nx.mono (T := Snew (fun q => S q ∧ q < w.heap.size) Z.heap.size) (fun q _ h => .inl h)).grow hw1).move agV szV).mono (fun q _ hq => TF.out q hq)) (fun i hi => by
        by_cases hij : i = 0
        · simp only [if_pos hij]; exact hrV.mono (fun q _ hq => TF.out q hq)
        · simp only [if_neg hij]; exact ((((P1.out.kid hi).mono (T := Snew (fun q => S q ∧ q < w.heap.size) Z.heap.size) (fun q _ h => .inl h)).grow hw1).move agV szV).mono (fun q _ hq => TF.out q hq)) (by have := HM1.out; omega)
      have nrr : nP (PL.mk 5 n y xs ag (some ⟨gB, 0, none⟩) m cap' (fun i => if i = 0 then r else kid i)) = pushP (tabs ts) (nP (.mk 5 n y xs ag (some ⟨ga, oa, none⟩) m cap kid)) (nE x) := by
        have e : nP (PL.mk 5 n y xs ag (some ⟨gB, 0, none⟩) m cap' (fun i => if i = 0 then r else kid i)) = mkP 5 n (nE y) (xs.l.map nE) (ag.l.map nA) m (fun i => nP (if i = 0 then r else kid i)) := rfl
        rw [e, push_5 HL.out HM1.out (by decide), HM1.out]
        refine mkP_congr (fun i hi => ?_)
        rcases (show i = 0 ∨ i = 1 by omega) with rfl | rfl
        · first | exact RR.out.2 | rfl
        · first | rfl | exact RR.out.2
      have HH := Lib.hid (And.intro hrr (And.intro nrr GV))
      have B3 := Lib.hid (st11_blk (PL.mk 5 n y xs ag (some ⟨gB, 0, none⟩) m cap' (fun i => if i = 0 then r else kid i)) BRV)
      obtain ⟨bo, fo⟩ := BOV.rules
      have lo := BOV.lt
      obtain ⟨br, fr⟩ := BRV.rules
      have lr := BRV.lt
      clear hrr nrr GV BRV BOV rqV hrV agV szV
      go_wp2
      have B3 := B3.out
      simp only [st11, PL.k, PL.n, PL.x, PL.xs, PL.ag, PL.A, PL.m, PL.cap] at B3
      obtain ⟨b3, f3⟩ := B3.rules
      refine bodyPost_ret (v := (PL.mk 5 n y xs ag (some ⟨gB, 0, none⟩) m cap' (fun i => if i = 0 then r else kid i)).val) (by simp [results, Try.results57, go_sem, b3, PL.val, PL.k, PL.n, PL.x, PL.xs, PL.ag, PL.A, PL.m, PL.cap]) rfl ?_
      exact RP.put (r := (PL.mk 5 n y xs ag (some ⟨gB, 0, none⟩) m cap' (fun i => if i = 0 then r else kid i))) HH.out.1 HH.out.2.1 HH.out.2.2 HGE.out
    case hp' => exact ⟨VP.pers _ _, trivial⟩
  case hp' => exact ⟨DE0.pers _, DRow.pers _ _ _, DOut.pers _ _ _ _ _ _ _ _, DZ.pers _, trivial⟩
end Go.Proofs.Ytpgpecdiajmgmaa
