/-
 Joined texts of this claim: RwB, RwC0, RwC, LawRw0. What each proves its own head says; no condition beside those that each theorem names.
-/
import Derived.Test.YtcaedcpjdmlilaaGreatGWd
import Derived.Test.YtcaedcpjdmlilaaGreatGWd0
set_option maxRecDepth 100000
set_option maxHeartbeats 16000000
namespace Go.Proofs.YtcaedcpjdmlilaaGreat
open Go.RowKit Go.Calm
set_option linter.unusedSimpArgs false
set_option linter.unusedVariables false
theorem Dl (ts : List (L2 Int)) (At : Option Addr) (nt : Nat) (p : PL) : S5 ts At nt p := by
 induction p with
 | leaf => intro S gw x w _ h; exact absurd h id
 | mk k n y xs ag A m cap kid ih => exact F1 ts At nt k n y xs ag A m cap kid (fun i _ => ih i) (Fh ts At nt k n y xs ag A m cap kid (fun i _ => ih i))
def VO (ts : List (L2 Int)) (At : Option Addr) (nt : Nat) (p : PL) : Prop := ∀ (S : Nat -> Prop) (gw : Nat) (w : World), WrS w gw ts At nt -> Jo p -> qI S w p ->
 Calls Tryz.prog 47 #[.pointer (some ⟨gw, 0, none⟩), p.val] w fun en w' => RP S (zx (zh ts) (nP p)) w w' en
theorem FT (ts : List (L2 Int)) (At : Option Addr) (nt : Nat) (k n : Int) (y : E) (xs : jj) (ag : jh) (A : Option Addr) (m cap : Nat) (kid : Nat -> PL) (ih : ∀ i, VO ts At nt (kid i)) : VO ts At nt (.mk k n y xs ag A m cap kid) := by
 intro S gw w hW hp hP; have HW := Lib.hid hW; have HP := Lib.hid hP; have HWp := Lib.hid hp; have IH := Lib.hid ih; have c0 := hW.c; have hm2 : m <= 2 := by have h1 : (m : Int) = zo k := hp.1; have := Px k; omega
 have hkc : ∀ i, i < m -> ∃ g o, A = some ⟨g, o, none⟩ /\ zX w g (o + i * 11) (kid i) := by
  cases hP.px with
  | mk hm hc => exact hc
 have cl := fun W (h : za w W) => RJ m kid A cap W (by omega) (fun i hi => by obtain ⟨g, o, a, b⟩ := hkc i hi; exact ⟨g, o, a, b.grow h⟩)
 unfold PL.val; simp only [PL.k, PL.n, PL.x, PL.xs, PL.ag, PL.A, PL.m, PL.cap]; have HM2 := Lib.hid hm2; clear hW hP hp hkc ih hm2; go_enter Tryz.func47, Tryz.ntmps47; go_upto_region 1 with fail
 refine zc (fun X => zb X w.heap.size 31 #[.int .i64 k, .int .i64 n, .int .i64 y.kind, .int .i64 y.v.k, .int .i64 y.v.n, .string y.v.s, .int .i64 y.col, .slice y.A y.n y.cap, .slice xs.A xs.l.length xs.c, .slice ag.A ag.l.length ag.c, .slice A m cap] /\ zb X (w.heap.size + 1) 31 #[.int .i64 0, .int .i64 0, .int .i64 0, .int .i64 0, .int .i64 0, .string ⟨#[]⟩, .int .i64 0, .slice none 0 0, .slice none 0 0, .slice none 0 0, .slice none 0 0] /\ za w X) ⟨(zb.new _ _ _).al _, zb.new' _ _ _ (by simp), (by with_reducible repeat (first | exact za.refl _ | assumption | refine za.set ?_ (by simp <;> omega) _ | refine za.al ?_ _ | refine za.drew ?_ | refine za.drewN ?_ _ | refine za.trans ?_ (by assumption)))⟩ ?_; rintro X ⟨Bx, Br, G⟩; obtain ⟨gx, hgx⟩ : ∃ gx, w.heap.size = gx := ⟨_, rfl⟩
 have hge : w.heap.size <= gx := by omega
 rw [hgx] at Bx Br ⊢; have n1 : gx ≠ gx + 1 := by omega
 have n1' : gx + 1 ≠ gx := by omega
 have lx := Bx.lt; have lr := Br.lt; obtain ⟨bx, fx⟩ := Bx.rules; go_upto_region 2 with (go_at_call 89; ((with_reducible refine (cl _ G).mono ?_); rintro en w3 ⟨B, cap3, rfl, hrow, hg3⟩; have Bx3 := Bx.grow hg3; have Br3 := Br.grow hg3; clear bx fx; obtain ⟨bx, fx⟩ := Bx3.rules; have lx3 := Bx3.lt)); have Bx4 := Bx3.set 10 (.slice B m cap3); simp only [List.setIfInBounds_toArray, List.set_cons_zero, List.set_cons_succ] at Bx4
 have mv0 : VN S w (w3.setCell ⟨gx, 10, none⟩ (.slice B m cap3)) gx B m 0 (zx (zh ts)) kid kid := by
  refine ⟨?_, fun i hi => absurd hi (Nat.not_lt_zero _), fun i _ => rfl⟩; rcases hrow with h | ⟨g, cur, e, b, hb, f, hc⟩
  ·exact .inl h
  ·have lg := G.size; refine .inr ⟨g, cur, e, by omega, by omega, by omega, zb.other hb (by omega) 10 _, f, fun i hi => ?_, fun i hi => absurd hi (Nat.not_lt_zero _)⟩; have hh : ∀ q, q ≠ gx -> (w3.setCell ⟨gx, 10, none⟩ (.slice B m cap3)).heap[q]? = w3.heap[q]? := fun q hq => Below.heap_setCell w3 ⟨gx, 10, none⟩ _ q hq
   exact (hc i hi).agr (S := fun q => q ≠ gx) (fun q hq _ => hh q hq) (by omega)
 refine zc (fun Y => zb Y gx 31 #[.int .i64 k, .int .i64 n, .int .i64 y.kind, .int .i64 y.v.k, .int .i64 y.v.n, .string y.v.s, .int .i64 y.col, .slice y.A y.n y.cap, .slice xs.A xs.l.length xs.c, .slice ag.A ag.l.length ag.c, .slice B m cap3] /\ zb Y (gx + 1) 31 #[.int .i64 0, .int .i64 0, .int .i64 0, .int .i64 0, .int .i64 0, .string ⟨#[]⟩, .int .i64 0, .slice none 0 0, .slice none 0 0, .slice none 0 0, .slice none 0 0] /\ VN S w Y gx B m 0 (zx (zh ts)) kid kid /\ za w Y) ⟨Bx4, zb.other Br3 n1 10 _, mv0, za.set (G.trans hg3) hge _⟩ ?_; clear mv0 hrow hg3 Bx3 Br3 Bx4 lx lr bx fx lx3 Bx Br cl; rintro Y ⟨Bx, Br, mv, GY⟩; have BX := Lib.hid Bx; have MV := Lib.hid mv; obtain ⟨bx, fx⟩ := Bx.rules; have lx := Bx.lt; clear mv; go_wp2; clear bx fx lx Bx; have GE := Lib.hid hge
 go_loopw [15] (fun i wr => ∃ (j : Nat) (F : Nat -> PL), j <= m /\ i = .int .i64 j /\ zb wr gx 31 #[.int .i64 k, .int .i64 n, .int .i64 y.kind, .int .i64 y.v.k, .int .i64 y.v.n, .string y.v.s, .int .i64 y.col, .slice y.A y.n y.cap, .slice xs.A xs.l.length xs.c, .slice ag.A ag.l.length ag.c, .slice B m cap3] /\ zb wr (gx + 1) 31 #[.int .i64 0, .int .i64 0, .int .i64 0, .int .i64 0, .int .i64 0, .string ⟨#[]⟩, .int .i64 0, .slice none 0 0, .slice none 0 0, .slice none 0 0, .slice none 0 0] /\ VN S w wr gx B m j (zx (zh ts)) kid F /\ za w wr) (fun i _ => m - (intOf i).toNat)
 case atStart => exact ⟨0, kid, Nat.zero_le _, rfl, BX.out, Br, MV.out, GY⟩
 case round =>
  clear MV BX Br; obtain ⟨j, F, hj, rfl, Bx, Br, mv, Gr⟩ := hrel; have BX := Lib.hid Bx; have BR := Lib.hid Br; have MV := Lib.hid mv; obtain ⟨bx, fx⟩ := Bx.rules; have lx := Bx.lt; have lr := Br.lt
  by_cases hlt : j < m
  ·rcases mv.row with ⟨h0, _⟩ | ⟨g, cur, rfl, b1, b2, b3, hb, hsz, hcs, hks⟩
   ·omega
   ·have hcj := hcs j hlt; rw [mv.todo j (Nat.le_refl _)] at hcj; obtain ⟨c0', c1, c2, c3, c4, c5, c6, c7, c8, c9, c10⟩ := hcj; have HB := Lib.hid hb; have HSZ := Lib.hid hsz; have BB := Lib.hid (And.intro b1 (And.intro b2 b3)); clear hcs hks hb hsz mv Bx Br b1 b2 b3; go_upto_region 5 with fail
    refine zc (fun Z => zb Z wr.heap.size 31 #[.int .i64 (kid j).k, .int .i64 (kid j).n, .int .i64 (kid j).x.kind, .int .i64 (kid j).x.v.k, .int .i64 (kid j).x.v.n, .string (kid j).x.v.s, .int .i64 (kid j).x.col, .slice (kid j).x.A (kid j).x.n (kid j).x.cap, .slice (kid j).xs.A (kid j).xs.l.length (kid j).xs.c, .slice (kid j).ag.A (kid j).ag.l.length (kid j).ag.c, .slice (kid j).A (kid j).m (kid j).cap] /\ za wr Z) ⟨zb.new _ _ _, (za.refl wr).al _⟩ ?_; rintro Z ⟨BZ, gZ⟩; have BZ' := Lib.hid BZ; have cj := fun W (h : za Z W) => IH.out j (fun q => S q /\ q < w.heap.size) gw W (HW.out.grow (Gr.trans (gZ.trans h))) (HWp.out.2.2.2 j hlt) (((HP.out.kid hlt).mono (T := fun q => S q /\ q < w.heap.size) (fun q hq hs => ⟨hs, hq⟩)).grow (Gr.trans (gZ.trans h)))
    unfold PL.val RP at cj; clear c0' c1 c2 c3 c4 c5 c6 c7 c8 c9 c10 bx fx BZ; generalize wr.heap.size = gz at *; apply wp_region_calm 7 (by kernel_rfl) (by kernel_rfl)
    case h' =>
     intro Q0 hQ0; simp only [List.take_succ_cons, List.take_zero]
     repeat ((first | ((first | apply calm_p rfl | apply zg rfl rfl rfl); case h1 => (intro w1 hw1 hF K hK; obtain ⟨bx, fx⟩ := ((BX.out.grow gZ).grow hw1).rules; obtain ⟨bz, fz⟩ := (BZ'.out.grow hw1).rules; go_simp; first | exact hK _ (za.refl _))) | apply ze rfl rfl rfl rfl); intro K hK; go_simp; apply hK; clear hK K)
     apply calm_fp (VP (Rt (fun q => S q /\ q < w.heap.size) Z.heap.size) (zx (zh ts) (nP (kid j)))) rfl
     case h1 =>
      intro w1 hw1 hF K hK; go_simp
      go_at_call 47
      refine (cj w1 hw1).mono ?_; rintro en w' ⟨r, rfl, hr, hn, hg'⟩; exact ⟨_, rfl, hK _ _ hg' ⟨r, rfl, hr.mono (fun q _ hq => hq.imp id (fun h => Nat.le_trans hw1.size h)), hn⟩⟩
     intro v25 K hK; go_simp; apply hK; clear hK K
     repeat ((first | ((first | apply calm_p rfl | apply zg rfl rfl rfl); case h1 => (intro w1 hw1 hF K hK; skip; go_simp; first | exact hK _ (za.refl _))) | apply ze rfl rfl rfl rfl); intro K hK; go_simp; apply hK; clear hK K)
     refine calm_nil ?_; intro w1 hw1 hF; apply hQ0; clear hQ0; simp only [List.drop_succ_cons, List.drop_zero]; obtain ⟨r, hv, hr, hnr⟩ := hF _ (List.mem_cons_self ..); subst hv; clear hF cj; obtain ⟨b1, b2, b3⟩ := BB.out; have mv1 := (MV.out.grow gZ).grow hw1; have zs := gZ.size; have hge := GE.out
     have hput := mv1.put hlt (hr.mono (T := Ru S w.heap.size gx g) (fun q _ hq => by
      rcases hq with h | h
      ·exact .inl h
      ·have l1 := (HB.out.grow gZ).lt; have l2 := (BX.out.grow gZ).lt; have l3 := (BR.out.grow gZ).lt
       exact .inr ⟨by omega, by omega, by omega, by omega⟩)) hnr
     have HPt := Lib.hid hput; have GP := Lib.hid (SK (Gr.trans (gZ.trans hw1)) b1 (j * 11) r); have BXP := Lib.hid (zb.farP ((BX.out.grow gZ).grow hw1) b2 (j * 11) r); have BRP := Lib.hid (zb.farP ((BR.out.grow gZ).grow hw1) b3 (j * 11) r); have hb1 := (HB.out.grow gZ).grow hw1; obtain ⟨bg, fg⟩ := hb1.rules; have szj : j * 11 + 11 <= cur.size := by have := HSZ.out; omega
     have gl := hb1.lt; have cc := zbG hb1 szj; obtain ⟨u0, u1, u2, u3, u4, u5, u6, u7, u8, u9, u10, k0, k1, k2, k3, k4, k5, k6, k7, k8, k9, k10⟩ := cc; clear mv1 hput bg hb1 hr hnr hge zs szj b1 b2 b3 n1 n1'; have hm2 := HM2.out; go_wp2; go_roundw
     case rel => exact ⟨j + 1, _, by omega, (by have := HM2.out; go_num), BXP.out, BRP.out, HPt.out, GP.out⟩
     case measure =>
      have := HM2.out; simp [intOf]; omega
    case hp' => exact ⟨VP.pers _ _, trivial⟩
  ·obtain rfl : j = m := by omega
   clear hlt; rename Nat -> PL => F
   have HF := mv.row; have finp := fun k' n' (y' : E) (xs' : jj) (ag' : jh) (c' : Nat) (h : Mo S w k' n' y' xs' ag') => mv.fin (cap' := c') h (by have := HM2.out; omega) Gr
   have FINP := Lib.hid finp; have MD := Lib.hid mv.done; have HF' := Lib.hid HF; clear finp mv HF n1 n1' hge MV Bx Br
   have kx : k = 1 \/ k = 2 \/ k = 3 \/ k = 4 \/ k = 5 \/ k = 6 \/ k = 7 \/ k = 8 \/ k = 9 \/ k = 10 \/ k = 11 \/ k = 12 \/ k = 13 := by
    have hk0 := HWp.out.2.1; unfold zo at hk0
    repeat' split at hk0
    all_goals omega
   rcases kx with rfl | rfl | rfl | rfl | rfl | rfl | rfl | rfl | rfl | rfl | rfl | rfl | rfl
   ·obtain ⟨br, fr⟩ := BR.out.rules; have H := Lib.hid (FINP.out 1 n y xs ag cap3 (HP.out.nx)); go_wp2; have B3 := zq (PL.mk 1 n y xs ag B j cap3 F) (BR.out); simp only [st11, PL.k, PL.n, PL.x, PL.xs, PL.ag, PL.A, PL.m, PL.cap] at B3; obtain ⟨b3, f3⟩ := B3.rules; refine bodyPost_ret (v := ((PL.mk 1 n y xs ag B j cap3 F)).val) (by simp [results, Tryz.results47, go_sem, b3, PL.val, PL.k, PL.n, PL.x, PL.xs, PL.ag, PL.A, PL.m, PL.cap]) rfl ?_; exact RP.put2 (r := (PL.mk 1 n y xs ag B j cap3 F)) H.out.1 (H.out.2.trans (jg (by decide)).symm) Gr GE.out
   ·obtain rfl : j = 1 := (by have h1 : (j : Int) = zo 2 := HWp.out.1; have h2 : zo 2 = 1 := (by decide); omega)
    obtain ⟨g, cur, rfl, b1, b2, b3, hb, hsz, hcs, hks⟩ : ∃ g cur, B = some ⟨g, 0, none⟩ /\ w.heap.size <= g /\ g ≠ gx /\ g ≠ gx + 1 /\ zb wr g 31 cur /\ 1 * 11 <= cur.size /\ (∀ i, i < 1 -> zX wr g (i * 11) (F i)) /\ ∀ i, i < 1 -> qI (Ru S w.heap.size gx g) wr (F i) := by
     rcases HF'.out with h | h
     ·omega
     ·exact h
    have C0 := hcs 0 (by omega)
    have P0 := Lib.hid ((hks 0 (by omega)).mono (T := Zm S w.heap.size gx) (fun q _ hq => by
     rcases hq with h | h
     ·exact .inl h
     ·exact .inr ⟨h.1, h.2.2.1, h.2.2.2⟩))
    have N0 := Lib.hid (MD.out 0 (by omega)); have WF0 := Lib.hid ((Wo (F 0)).1 (by rw [MD.out 0 (by omega)]; exact Kw _ ((Wo _).2 (HWp.out.2.2.2 0 (by omega))))); simp only [Nat.zero_mul] at C0; have KC0 := Lib.hid C0; have BB := Lib.hid (And.intro b1 (And.intro b2 (And.intro b3 hb))); clear hcs hks hsz b1 b2 b3 hb C0
    have hTs : ∀ (W : World), wr.heap.size <= W.heap.size -> ∀ q, Rt (Zm S w.heap.size gx) W.heap.size q -> Zm S w.heap.size gx q := fun W hW q hq => by
     have l1 := BX.out.lt; have l2 := BR.out.lt; rcases hq with h | h
     ·exact h
     ·exact .inr ⟨by have := Gr.size; omega, by omega, by omega⟩
    have cp := fun W (h : za wr W) => (Dl ts At nt (F 0) (Zm S w.heap.size gx) gw y W (HW.out.grow (Gr.trans h)) WF0.out (HWp.out.2.2.1 (.inl rfl)) (P0.out.grow h) ((((HP.out.nx).x.mono (T := Zm S w.heap.size gx) (fun q hq hs => .inl ⟨hs, hq⟩)).grow Gr).grow h)).mono (fun en w' ⟨r, h1, h2, h3, h4⟩ => (⟨r, h1, h2.mono (fun q _ hq => hTs W h.size q hq), h3, h4⟩ : ∃ r : PL, en = Ending.returned (pV r) /\ qI (Zm S w.heap.size gx) w' r /\ nP r = zn (zh ts) (nP (F 0)) (nE y) /\ za W w'))
    unfold E.val PL.val at cp; have CP := Lib.hid cp; clear cp hTs; go_wp2; apply wp_region_calm 8 (by kernel_rfl) (by kernel_rfl)
    case h' =>
     intro Q0 hQ0; simp only [List.take_succ_cons, List.take_zero]
     repeat ((first | ((first | apply calm_p rfl | apply zg rfl rfl rfl); case h1 => (intro w1 hw1 hF K hK; obtain ⟨bx, fx⟩ := (BX.out.grow hw1).rules; obtain ⟨q0, q1, q2, q3, q4, q5, q6, q7, q8, q9, q10⟩ := KC0.out.grow hw1; go_simp; first | exact hK _ (za.refl _))) | apply ze rfl rfl rfl rfl); intro K hK; go_simp; apply hK; clear hK K)
     apply calm_fp (VP (Zm S w.heap.size gx) (zn (zh ts) (nP (F 0)) (nE y))) rfl
     case h1 =>
      intro w1 hw1 hF K hK; go_simp
      go_at_call 90
      refine (CP.out w1 hw1).mono ?_; rintro en w' ⟨r, rfl, hr, hn, hg'⟩; exact ⟨_, rfl, hK _ _ hg' ⟨r, rfl, hr, hn⟩⟩
     intro v39 K hK; go_simp; apply hK; clear hK K; refine calm_nil ?_; intro w1 hw1 hF; apply hQ0; clear hQ0; simp only [List.drop_succ_cons, List.drop_zero]; obtain ⟨r, hv, hr, hn⟩ := hF _ (List.mem_cons_self ..); subst hv; clear hF bx fx lx lr; obtain ⟨br, fr⟩ := (BR.out.grow hw1).rules; have lr := (BR.out.grow hw1).lt; go_wp2; have B3 := zq r (BR.out.grow hw1); simp only [st11, PL.k, PL.n, PL.x, PL.xs, PL.ag, PL.A, PL.m, PL.cap] at B3; obtain ⟨b3, f3⟩ := B3.rules; refine bodyPost_ret (v := (r).val) (by simp [results, Tryz.results47, go_sem, b3, PL.val, PL.k, PL.n, PL.x, PL.xs, PL.ag, PL.A, PL.m, PL.cap]) rfl ?_; exact RP.put2 (r := r) hr (hn.trans (by rw [N0.out]; exact FS.symm)) (Gr.trans hw1) GE.out
    case hp' => exact ⟨VP.pers _ _, trivial⟩
   ·obtain ⟨br, fr⟩ := BR.out.rules; have H := Lib.hid (FINP.out 3 n y xs ag cap3 (HP.out.nx)); go_wp2; have B3 := zq (PL.mk 3 n y xs ag B j cap3 F) (BR.out); simp only [st11, PL.k, PL.n, PL.x, PL.xs, PL.ag, PL.A, PL.m, PL.cap] at B3; obtain ⟨b3, f3⟩ := B3.rules; refine bodyPost_ret (v := ((PL.mk 3 n y xs ag B j cap3 F)).val) (by simp [results, Tryz.results47, go_sem, b3, PL.val, PL.k, PL.n, PL.x, PL.xs, PL.ag, PL.A, PL.m, PL.cap]) rfl ?_; exact RP.put2 (r := (PL.mk 3 n y xs ag B j cap3 F)) H.out.1 (H.out.2.trans (jg (by decide)).symm) Gr GE.out
   ·obtain ⟨br, fr⟩ := BR.out.rules; have H := Lib.hid (FINP.out 4 n y xs ag cap3 (HP.out.nx)); go_wp2; have B3 := zq (PL.mk 4 n y xs ag B j cap3 F) (BR.out); simp only [st11, PL.k, PL.n, PL.x, PL.xs, PL.ag, PL.A, PL.m, PL.cap] at B3; obtain ⟨b3, f3⟩ := B3.rules; refine bodyPost_ret (v := ((PL.mk 4 n y xs ag B j cap3 F)).val) (by simp [results, Tryz.results47, go_sem, b3, PL.val, PL.k, PL.n, PL.x, PL.xs, PL.ag, PL.A, PL.m, PL.cap]) rfl ?_; exact RP.put2 (r := (PL.mk 4 n y xs ag B j cap3 F)) H.out.1 (H.out.2.trans (jg (by decide)).symm) Gr GE.out
   ·obtain ⟨br, fr⟩ := BR.out.rules; have H := Lib.hid (FINP.out 5 n y xs ag cap3 (HP.out.nx)); go_wp2; have B3 := zq (PL.mk 5 n y xs ag B j cap3 F) (BR.out); simp only [st11, PL.k, PL.n, PL.x, PL.xs, PL.ag, PL.A, PL.m, PL.cap] at B3; obtain ⟨b3, f3⟩ := B3.rules; refine bodyPost_ret (v := ((PL.mk 5 n y xs ag B j cap3 F)).val) (by simp [results, Tryz.results47, go_sem, b3, PL.val, PL.k, PL.n, PL.x, PL.xs, PL.ag, PL.A, PL.m, PL.cap]) rfl ?_; exact RP.put2 (r := (PL.mk 5 n y xs ag B j cap3 F)) H.out.1 (H.out.2.trans (jg (by decide)).symm) Gr GE.out
   ·obtain ⟨br, fr⟩ := BR.out.rules; have H := Lib.hid (FINP.out 6 n y xs ag cap3 (HP.out.nx)); go_wp2; have B3 := zq (PL.mk 6 n y xs ag B j cap3 F) (BR.out); simp only [st11, PL.k, PL.n, PL.x, PL.xs, PL.ag, PL.A, PL.m, PL.cap] at B3; obtain ⟨b3, f3⟩ := B3.rules; refine bodyPost_ret (v := ((PL.mk 6 n y xs ag B j cap3 F)).val) (by simp [results, Tryz.results47, go_sem, b3, PL.val, PL.k, PL.n, PL.x, PL.xs, PL.ag, PL.A, PL.m, PL.cap]) rfl ?_; exact RP.put2 (r := (PL.mk 6 n y xs ag B j cap3 F)) H.out.1 (H.out.2.trans (jg (by decide)).symm) Gr GE.out
   ·obtain ⟨br, fr⟩ := BR.out.rules; have H := Lib.hid (FINP.out 7 n y xs ag cap3 (HP.out.nx)); go_wp2; have B3 := zq (PL.mk 7 n y xs ag B j cap3 F) (BR.out); simp only [st11, PL.k, PL.n, PL.x, PL.xs, PL.ag, PL.A, PL.m, PL.cap] at B3; obtain ⟨b3, f3⟩ := B3.rules; refine bodyPost_ret (v := ((PL.mk 7 n y xs ag B j cap3 F)).val) (by simp [results, Tryz.results47, go_sem, b3, PL.val, PL.k, PL.n, PL.x, PL.xs, PL.ag, PL.A, PL.m, PL.cap]) rfl ?_; exact RP.put2 (r := (PL.mk 7 n y xs ag B j cap3 F)) H.out.1 (H.out.2.trans (jg (by decide)).symm) Gr GE.out
   ·obtain ⟨br, fr⟩ := BR.out.rules; have H := Lib.hid (FINP.out 8 n y xs ag cap3 (HP.out.nx)); go_wp2; have B3 := zq (PL.mk 8 n y xs ag B j cap3 F) (BR.out); simp only [st11, PL.k, PL.n, PL.x, PL.xs, PL.ag, PL.A, PL.m, PL.cap] at B3; obtain ⟨b3, f3⟩ := B3.rules; refine bodyPost_ret (v := ((PL.mk 8 n y xs ag B j cap3 F)).val) (by simp [results, Tryz.results47, go_sem, b3, PL.val, PL.k, PL.n, PL.x, PL.xs, PL.ag, PL.A, PL.m, PL.cap]) rfl ?_; exact RP.put2 (r := (PL.mk 8 n y xs ag B j cap3 F)) H.out.1 (H.out.2.trans (jg (by decide)).symm) Gr GE.out
   ·obtain ⟨br, fr⟩ := BR.out.rules; have H := Lib.hid (FINP.out 9 n y xs ag cap3 (HP.out.nx)); go_wp2; have B3 := zq (PL.mk 9 n y xs ag B j cap3 F) (BR.out); simp only [st11, PL.k, PL.n, PL.x, PL.xs, PL.ag, PL.A, PL.m, PL.cap] at B3; obtain ⟨b3, f3⟩ := B3.rules; refine bodyPost_ret (v := ((PL.mk 9 n y xs ag B j cap3 F)).val) (by simp [results, Tryz.results47, go_sem, b3, PL.val, PL.k, PL.n, PL.x, PL.xs, PL.ag, PL.A, PL.m, PL.cap]) rfl ?_; exact RP.put2 (r := (PL.mk 9 n y xs ag B j cap3 F)) H.out.1 (H.out.2.trans (jg (by decide)).symm) Gr GE.out
   ·obtain rfl : j = 1 := (by have h1 : (j : Int) = zo 10 := HWp.out.1; have h2 : zo 10 = 1 := (by decide); omega)
    obtain ⟨g, cur, rfl, b1, b2, b3, hb, hsz, hcs, hks⟩ : ∃ g cur, B = some ⟨g, 0, none⟩ /\ w.heap.size <= g /\ g ≠ gx /\ g ≠ gx + 1 /\ zb wr g 31 cur /\ 1 * 11 <= cur.size /\ (∀ i, i < 1 -> zX wr g (i * 11) (F i)) /\ ∀ i, i < 1 -> qI (Ru S w.heap.size gx g) wr (F i) := by
     rcases HF'.out with h | h
     ·omega
     ·exact h
    have C0 := hcs 0 (by omega)
    have P0 := Lib.hid ((hks 0 (by omega)).mono (T := Zm S w.heap.size gx) (fun q _ hq => by
     rcases hq with h | h
     ·exact .inl h
     ·exact .inr ⟨h.1, h.2.2.1, h.2.2.2⟩))
    have N0 := Lib.hid (MD.out 0 (by omega)); have WF0 := Lib.hid ((Wo (F 0)).1 (by rw [MD.out 0 (by omega)]; exact Kw _ ((Wo _).2 (HWp.out.2.2.2 0 (by omega))))); simp only [Nat.zero_mul] at C0; have KC0 := Lib.hid C0; have BB := Lib.hid (And.intro b1 (And.intro b2 (And.intro b3 hb))); clear hcs hks hsz b1 b2 b3 hb C0; have C0 := KC0.out; clear KC0; generalize F 0 = f at C0 P0 N0 WF0; cases f with
    | leaf => exact absurd WF0.out id
    | mk fk fn fy fxs fag fA fm fcap fkid =>
     obtain ⟨q0, q1, q2, q3, q4, q5, q6, q7, q8, q9, q10⟩ := C0; simp only [PL.k, PL.n, PL.x, PL.xs, PL.ag, PL.A, PL.m, PL.cap] at q0 q1 q2 q3 q4 q5 q6 q7 q8 q9 q10; go_upto_region 13 with fail
     refine zc (fun Z => zb Z wr.heap.size 31 #[.int .i64 fk, .int .i64 fn, .int .i64 fy.kind, .int .i64 fy.v.k, .int .i64 fy.v.n, .string fy.v.s, .int .i64 fy.col, .slice fy.A fy.n fy.cap, .slice fxs.A fxs.l.length fxs.c, .slice fag.A fag.l.length fag.c, .slice fA fm fcap] /\ za wr Z) ⟨zb.new _ _ _, (za.refl wr).al _⟩ ?_; rintro Z ⟨BZ, gZ⟩; obtain ⟨gz, hgz⟩ : ∃ gz, wr.heap.size = gz := ⟨_, rfl⟩
     rw [hgz] at BZ ⊢; have BZ' := Lib.hid BZ; have HGZ := Lib.hid hgz; clear q0 q1 q2 q3 q4 q5 q6 q7 q8 q9 q10 bx fx lx lr hgz; obtain ⟨bz, fz⟩ := BZ.rules; have lz := BZ.lt; obtain ⟨bx, fx⟩ := (BX.out.grow gZ).rules; have lx := (BX.out.grow gZ).lt; obtain ⟨br, fr⟩ := (BR.out.grow gZ).rules; have lr := (BR.out.grow gZ).lt; clear BZ
     by_cases e11 : fk = 11
     ·have d11 : (fk == 11) = true := by simpa using e11
      have E := Lib.hid e11; clear e11; go_wp2; have B3 := zq (PL.mk fk fn fy fxs fag fA fm fcap fkid) (BR.out.grow gZ); simp only [st11, PL.k, PL.n, PL.x, PL.xs, PL.ag, PL.A, PL.m, PL.cap] at B3; obtain ⟨b3, f3⟩ := B3.rules; refine bodyPost_ret (v := ((PL.mk fk fn fy fxs fag fA fm fcap fkid)).val) (by simp [results, Tryz.results47, go_sem, b3, PL.val, PL.k, PL.n, PL.x, PL.xs, PL.ag, PL.A, PL.m, PL.cap]) rfl ?_; exact RP.put2 (r := (PL.mk fk fn fy fxs fag fA fm fcap fkid)) (P0.out.grow gZ) (N0.out.trans (Q8 (by decide) N0.out (.inl E.out)).symm) (Gr.trans gZ) GE.out
     ·have d11 : (fk == 11) = false := by simpa using e11
      by_cases e10 : fk = 10
      ·have d10 : (fk == 10) = true := by simpa using e10
       have E := Lib.hid e10; clear e10 e11; go_wp2; have B3 := zq (PL.mk fk fn fy fxs fag fA fm fcap fkid) (BR.out.grow gZ); simp only [st11, PL.k, PL.n, PL.x, PL.xs, PL.ag, PL.A, PL.m, PL.cap] at B3; obtain ⟨b3, f3⟩ := B3.rules; refine bodyPost_ret (v := ((PL.mk fk fn fy fxs fag fA fm fcap fkid)).val) (by simp [results, Tryz.results47, go_sem, b3, PL.val, PL.k, PL.n, PL.x, PL.xs, PL.ag, PL.A, PL.m, PL.cap]) rfl ?_; exact RP.put2 (r := (PL.mk fk fn fy fxs fag fA fm fcap fkid)) (P0.out.grow gZ) (N0.out.trans (Q8 (by decide) N0.out (.inr E.out)).symm) (Gr.trans gZ) GE.out
      ·have d10 : (fk == 10) = false := by simpa using e10
       have E := Lib.hid (And.intro e11 e10); clear e10 e11; have H := Lib.hid (FINP.out 10 n y xs ag cap3 (HP.out.nx)); go_wp2; have B3 := zq (PL.mk 10 n y xs ag (some ⟨g, 0, none⟩) 1 cap3 F) (BR.out.grow gZ); simp only [st11, PL.k, PL.n, PL.x, PL.xs, PL.ag, PL.A, PL.m, PL.cap] at B3; obtain ⟨b3, f3⟩ := B3.rules; refine bodyPost_ret (v := ((PL.mk 10 n y xs ag (some ⟨g, 0, none⟩) 1 cap3 F)).val) (by simp [results, Tryz.results47, go_sem, b3, PL.val, PL.k, PL.n, PL.x, PL.xs, PL.ag, PL.A, PL.m, PL.cap]) rfl ?_; exact RP.put2 (r := (PL.mk 10 n y xs ag (some ⟨g, 0, none⟩) 1 cap3 F)) (H.out.1.grow gZ) (H.out.2.trans (LV (by decide) N0.out E.out.1 E.out.2).symm) (Gr.trans gZ) GE.out
   ·obtain rfl : j = 1 := (by have h1 : (j : Int) = zo 11 := HWp.out.1; have h2 : zo 11 = 1 := (by decide); omega)
    obtain ⟨g, cur, rfl, b1, b2, b3, hb, hsz, hcs, hks⟩ : ∃ g cur, B = some ⟨g, 0, none⟩ /\ w.heap.size <= g /\ g ≠ gx /\ g ≠ gx + 1 /\ zb wr g 31 cur /\ 1 * 11 <= cur.size /\ (∀ i, i < 1 -> zX wr g (i * 11) (F i)) /\ ∀ i, i < 1 -> qI (Ru S w.heap.size gx g) wr (F i) := by
     rcases HF'.out with h | h
     ·omega
     ·exact h
    have C0 := hcs 0 (by omega)
    have P0 := Lib.hid ((hks 0 (by omega)).mono (T := Zm S w.heap.size gx) (fun q _ hq => by
     rcases hq with h | h
     ·exact .inl h
     ·exact .inr ⟨h.1, h.2.2.1, h.2.2.2⟩))
    have N0 := Lib.hid (MD.out 0 (by omega)); have WF0 := Lib.hid ((Wo (F 0)).1 (by rw [MD.out 0 (by omega)]; exact Kw _ ((Wo _).2 (HWp.out.2.2.2 0 (by omega))))); simp only [Nat.zero_mul] at C0; have KC0 := Lib.hid C0; have BB := Lib.hid (And.intro b1 (And.intro b2 (And.intro b3 hb))); clear hcs hks hsz b1 b2 b3 hb C0; have C0 := KC0.out; clear KC0; generalize F 0 = f at C0 P0 N0 WF0; cases f with
    | leaf => exact absurd WF0.out id
    | mk fk fn fy fxs fag fA fm fcap fkid =>
     obtain ⟨q0, q1, q2, q3, q4, q5, q6, q7, q8, q9, q10⟩ := C0; simp only [PL.k, PL.n, PL.x, PL.xs, PL.ag, PL.A, PL.m, PL.cap] at q0 q1 q2 q3 q4 q5 q6 q7 q8 q9 q10; go_upto_region 13 with fail
     refine zc (fun Z => zb Z wr.heap.size 31 #[.int .i64 fk, .int .i64 fn, .int .i64 fy.kind, .int .i64 fy.v.k, .int .i64 fy.v.n, .string fy.v.s, .int .i64 fy.col, .slice fy.A fy.n fy.cap, .slice fxs.A fxs.l.length fxs.c, .slice fag.A fag.l.length fag.c, .slice fA fm fcap] /\ za wr Z) ⟨zb.new _ _ _, (za.refl wr).al _⟩ ?_; rintro Z ⟨BZ, gZ⟩; obtain ⟨gz, hgz⟩ : ∃ gz, wr.heap.size = gz := ⟨_, rfl⟩
     rw [hgz] at BZ ⊢; have BZ' := Lib.hid BZ; have HGZ := Lib.hid hgz; clear q0 q1 q2 q3 q4 q5 q6 q7 q8 q9 q10 bx fx lx lr hgz; obtain ⟨bz, fz⟩ := BZ.rules; have lz := BZ.lt; obtain ⟨bx, fx⟩ := (BX.out.grow gZ).rules; have lx := (BX.out.grow gZ).lt; obtain ⟨br, fr⟩ := (BR.out.grow gZ).rules; have lr := (BR.out.grow gZ).lt; clear BZ
     by_cases e11 : fk = 11
     ·have d11 : (fk == 11) = true := by simpa using e11
      have E := Lib.hid e11; clear e11; go_wp2; have B3 := zq (PL.mk fk fn fy fxs fag fA fm fcap fkid) (BR.out.grow gZ); simp only [st11, PL.k, PL.n, PL.x, PL.xs, PL.ag, PL.A, PL.m, PL.cap] at B3; obtain ⟨b3, f3⟩ := B3.rules; refine bodyPost_ret (v := ((PL.mk fk fn fy fxs fag fA fm fcap fkid)).val) (by simp [results, Tryz.results47, go_sem, b3, PL.val, PL.k, PL.n, PL.x, PL.xs, PL.ag, PL.A, PL.m, PL.cap]) rfl ?_; exact RP.put2 (r := (PL.mk fk fn fy fxs fag fA fm fcap fkid)) (P0.out.grow gZ) (N0.out.trans (Q8 (by decide) N0.out (.inl E.out)).symm) (Gr.trans gZ) GE.out
     ·have d11 : (fk == 11) = false := by simpa using e11
      by_cases e10 : fk = 10
      ·have d10 : (fk == 10) = true := by simpa using e10
       subst e10; clear e11; obtain rfl : fm = 1 := (by have h1 : (fm : Int) = zo 10 := WF0.out.1; have h2 : zo 10 = 1 := (by decide); omega)
       obtain ⟨gf, of', hA, hcf⟩ : ∃ g o, fA = some ⟨g, o, none⟩ /\ zX wr g (o + 0 * 11) (fkid 0) := by
        cases P0.out.px with
        | mk hm hc => exact hc 0 (by omega)
       subst hA; simp only [Nat.zero_mul, Nat.add_zero] at hcf; have KF := Lib.hid hcf; clear hcf; go_wp2; apply wp_region_calm 8 (by kernel_rfl) (by kernel_rfl)
       case h' =>
        intro Q0 hQ0; simp only [List.take_succ_cons, List.take_zero]
        repeat ((first | ((first | apply calm_p rfl | apply zg rfl rfl rfl); case h1 => (intro w1 hw1 hF K hK; obtain ⟨bx, fx⟩ := ((BX.out.grow gZ).grow hw1).rules; obtain ⟨bz, fz⟩ := (BZ'.out.grow hw1).rules; obtain ⟨q0, q1, q2, q3, q4, q5, q6, q7, q8, q9, q10⟩ := (KF.out.grow gZ).grow hw1; go_simp; first | exact hK _ (za.refl _))) | apply ze rfl rfl rfl rfl); intro K hK; go_simp; apply hK; clear hK K)
        apply calm_fp (Hj (Zm S w.heap.size gx) (nP (fkid 0))) rfl
        case h1 =>
         intro w1 hw1 hF K hK; obtain ⟨q0, q1, q2, q3, q4, q5, q6, q7, q8, q9, q10⟩ := (KF.out.grow gZ).grow hw1; go_simp; have lB := ((BR.out.grow gZ).grow hw1).lt; exact hK _ _ ((za.refl _).al _) ⟨w1.heap.size, fkid 0, rfl, .inr ⟨by have := GE.out; omega, by omega, by omega⟩, zb.new _ _ _, (((P0.out.kid (by omega)).grow gZ).grow hw1).al9 _, rfl⟩
        intro v67 K hK; go_simp; apply hK; clear hK K; apply calm_fp (VP (Zm S w.heap.size gx) (yY 11 0 .leaf [] [] 1 (fun _ => nP (fkid 0)))) rfl
        case h1 =>
         intro w1 hw1 hF K hK; obtain ⟨g2, r, hv, hT, hB, hr, hn⟩ := hF _ (List.mem_cons_self ..) ⟨_, rfl, by decide⟩; subst hv; go_simp
         go_at_call 91
         refine (Yd 11 (some ⟨g2, 0, none⟩) 1 1 (fun _ => r) w1).mono ?_; rintro en w' ⟨rfl, hg'⟩; refine ⟨_, rfl, hK _ _ hg' ⟨KW 11 0 .leaf ZG Y8 g2 1 r, rfl, Je 1 (hB.grow hg') hT (Yf ⟨by decide, by decide⟩) (hr.grow hg'), ?_⟩⟩; rw [Su, hn]; rfl
        intro v68 K hK; go_simp; apply hK; clear hK K; refine calm_nil ?_; intro w1 hw1 hF; apply hQ0; clear hQ0; simp only [List.drop_succ_cons, List.drop_zero]; obtain ⟨r, hv, hr, hn⟩ := hF _ (List.mem_cons_self ..); subst hv; clear hF bx fx lx lr br fr bz fz lz; obtain ⟨br, fr⟩ := ((BR.out.grow gZ).grow hw1).rules; have lr := ((BR.out.grow gZ).grow hw1).lt; go_wp2; have B3 := zq r (BR.out.grow (gZ.trans hw1)); simp only [st11, PL.k, PL.n, PL.x, PL.xs, PL.ag, PL.A, PL.m, PL.cap] at B3; obtain ⟨b3, f3⟩ := B3.rules; refine bodyPost_ret (v := (r).val) (by simp [results, Tryz.results47, go_sem, b3, PL.val, PL.k, PL.n, PL.x, PL.xs, PL.ag, PL.A, PL.m, PL.cap]) rfl ?_; exact RP.put2 (r := r) hr (hn.trans (Vg N0.out).symm) ((Gr.trans gZ).trans hw1) GE.out
       case hp' => exact ⟨Hj.pers _ _, VP.pers _ _, trivial⟩
      ·have d10 : (fk == 10) = false := by simpa using e10
       have E := Lib.hid (And.intro e11 e10); clear e10 e11; have H := Lib.hid (FINP.out 11 n y xs ag cap3 (HP.out.nx)); go_wp2; have B3 := zq (PL.mk 11 n y xs ag (some ⟨g, 0, none⟩) 1 cap3 F) (BR.out.grow gZ); simp only [st11, PL.k, PL.n, PL.x, PL.xs, PL.ag, PL.A, PL.m, PL.cap] at B3; obtain ⟨b3, f3⟩ := B3.rules; refine bodyPost_ret (v := ((PL.mk 11 n y xs ag (some ⟨g, 0, none⟩) 1 cap3 F)).val) (by simp [results, Tryz.results47, go_sem, b3, PL.val, PL.k, PL.n, PL.x, PL.xs, PL.ag, PL.A, PL.m, PL.cap]) rfl ?_; exact RP.put2 (r := (PL.mk 11 n y xs ag (some ⟨g, 0, none⟩) 1 cap3 F)) (H.out.1.grow gZ) (H.out.2.trans (LV (by decide) N0.out E.out.1 E.out.2).symm) (Gr.trans gZ) GE.out
   ·obtain ⟨br, fr⟩ := BR.out.rules; have H := Lib.hid (FINP.out 12 n y xs ag cap3 (HP.out.nx)); go_wp2; have B3 := zq (PL.mk 12 n y xs ag B j cap3 F) (BR.out); simp only [st11, PL.k, PL.n, PL.x, PL.xs, PL.ag, PL.A, PL.m, PL.cap] at B3; obtain ⟨b3, f3⟩ := B3.rules; refine bodyPost_ret (v := ((PL.mk 12 n y xs ag B j cap3 F)).val) (by simp [results, Tryz.results47, go_sem, b3, PL.val, PL.k, PL.n, PL.x, PL.xs, PL.ag, PL.A, PL.m, PL.cap]) rfl ?_; exact RP.put2 (r := (PL.mk 12 n y xs ag B j cap3 F)) H.out.1 (H.out.2.trans (jg (by decide)).symm) Gr GE.out
   ·obtain ⟨br, fr⟩ := BR.out.rules; have H := Lib.hid (FINP.out 13 n y xs ag cap3 (HP.out.nx)); go_wp2; have B3 := zq (PL.mk 13 n y xs ag B j cap3 F) (BR.out); simp only [st11, PL.k, PL.n, PL.x, PL.xs, PL.ag, PL.A, PL.m, PL.cap] at B3; obtain ⟨b3, f3⟩ := B3.rules; refine bodyPost_ret (v := ((PL.mk 13 n y xs ag B j cap3 F)).val) (by simp [results, Tryz.results47, go_sem, b3, PL.val, PL.k, PL.n, PL.x, PL.xs, PL.ag, PL.A, PL.m, PL.cap]) rfl ?_; exact RP.put2 (r := (PL.mk 13 n y xs ag B j cap3 F)) H.out.1 (H.out.2.trans (jg (by decide)).symm) Gr GE.out
def FQ (ts : List (List Int)) (q : PL) : PL := if (zi ts (zx ts q)).2 = 0 then zx ts q else q
def PlR (ts : List (List Int)) (p : PL) (w w' : World) (en : Ending) : Prop := ∃ r : PL, en = .returned (.tuple #[r.val, .int .i64 (zi ts p).2]) /\ za w w' /\ PX w' r /\ ((zi ts p).2 = 0 -> nP r = FQ ts (nP p))
theorem Df (ts : List (L2 Int)) (At : Option Addr) (nt : Nat) (p : PL) : VO ts At nt p := by
 induction p with
 | leaf => intro S gw w _ h; exact absurd h id
 | mk k n y xs ag A m cap kid ih => exact FT ts At nt k n y xs ag A m cap kid ih
theorem Kb (ts : List (L2 Int)) (At : Option Addr) (nt : Nat) (p : PL) (w : World) (hlt : ts.length <= zz) (hl : ∀ t ∈ ts, t.xs.length <= zz) (hts : Nr w At ts) (hp : PX w p) :
  Calls Tryz.prog 20 #[.slice At ts.length nt, p.val] w fun en w' => PlR (zh ts) p w w' en := by
 have cc := fun (q : PL) W (h : za w W) (hq : PX W q) => jR ts At nt q W hlt hl (hts.grow h) hq
 have p0 : qI (fun q => q < w.heap.size) w p := hp.all.mono (fun q hq _ => hq); have P0 := Lib.hid p0; have HP := Lib.hid hp; obtain ⟨CE, hCE⟩ : ∃ CE, zi (zh ts) p = CE := ⟨_, rfl⟩
 unfold PlR; have HCE := Lib.hid hCE; have WF : CE.2 = 0 -> Jo p := fun h => Bi (by rw [hCE]; exact h)
 have HWF := Lib.hid WF; have HTS := Lib.hid hts; have cc1 := fun W (h : za w W) => cc p W h (HP.out.grow h)
 rw [hCE] at cc1 ⊢; have CC := Lib.hid cc; unfold PL.val at cc1; have CC1 := Lib.hid cc1; clear hts hp cc cc1 p0 hCE WF; have vl : PL.leaf.val = .agg #[.int .i64 0, .int .i64 0, .int .i64 0, .int .i64 0, .int .i64 0, .string ⟨#[]⟩, .int .i64 0, .slice none 0 0, .slice none 0 0, .slice none 0 0, .slice none 0 0] := rfl; have VL := Lib.hid vl; clear vl; obtain ⟨v, hv⟩ : ∃ v, v = p.val := ⟨_, rfl⟩
 unfold PL.val; clear hv v; go_enter Tryz.func20, Tryz.ntmps20; go_upto_region 1 with fail
 refine zc (fun X => zb X w.heap.size 31 #[.int .i64 p.k, .int .i64 p.n, .int .i64 p.x.kind, .int .i64 p.x.v.k, .int .i64 p.x.v.n, .string p.x.v.s, .int .i64 p.x.col, .slice p.x.A p.x.n p.x.cap, .slice p.xs.A p.xs.l.length p.xs.c, .slice p.ag.A p.ag.l.length p.ag.c, .slice p.A p.m p.cap] /\ zb X (w.heap.size + 1) 31 #[.int .i64 0, .int .i64 0, .int .i64 0, .int .i64 0, .int .i64 0, .string ⟨#[]⟩, .int .i64 0, .slice none 0 0, .slice none 0 0, .slice none 0 0, .slice none 0 0] /\ za w X) ⟨(zb.new _ _ _).al _, zb.new' _ _ _ (by simp), (by with_reducible repeat (first | exact za.refl _ | assumption | refine za.set ?_ (by simp <;> omega) _ | refine za.al ?_ _ | refine za.drew ?_ | refine za.drewN ?_ _ | refine za.trans ?_ (by assumption)))⟩ ?_; rintro X ⟨Bx, Br, G⟩; obtain ⟨gx, hgx⟩ : ∃ gx, w.heap.size = gx := ⟨_, rfl⟩
 have HGX := Lib.hid hgx; rw [hgx] at Bx Br ⊢; clear hgx; have BX := Lib.hid Bx; have BR := Lib.hid Br; have lx := Bx.lt; have lr := Br.lt; obtain ⟨bx, fx⟩ := Bx.rules; clear Bx Br
 by_cases h0 : CE.2 = 0
 ·have d0 : (CE.2 != 0) = false := by simp [h0]
  have cp := fun (gw : Nat) W (h : za X W) (hc : W.cell? ⟨gw, 0, none⟩ = some (.slice At ts.length nt)) => (Df ts At nt p (fun q => q < w.heap.size) gw W ⟨hc, HTS.out.grow (G.trans h), hlt, hl⟩ (HWF.out h0) (P0.out.grow (G.trans h)))
  unfold PL.val RP at cp; have CP := Lib.hid cp; clear cp; have E0 := Lib.hid h0; clear h0; go_upto_region 5 with (go_at_call 11; ((with_reducible refine (CC1.out _ (by with_reducible repeat (first | exact za.refl _ | assumption | refine za.set ?_ (by simp <;> omega) _ | refine za.al ?_ _ | refine za.drew ?_ | refine za.drewN ?_ _ | refine za.trans ?_ (by assumption)))).mono ?_); rintro en w7 ⟨B7, c7, rfl, hi7, hn7, hg7⟩; clear hi7 hn7; have G7 : za X w7 := za.trans (by with_reducible repeat (first | exact za.refl _ | assumption | refine za.set ?_ (by simp <;> omega) _ | refine za.al ?_ _ | refine za.drew ?_ | refine za.drewN ?_ _ | refine za.trans ?_ (by assumption))) hg7; obtain ⟨bx7, fx7⟩ := (BX.out.grow G7).rules; have lx7 := (BX.out.grow G7).lt)); refine zc (fun Y => Y.cell? ⟨w7.heap.size, 0, none⟩ = some (.slice At ts.length nt) /\ za X Y /\ w7.heap.size < Y.heap.size) ⟨(zb.new w7 _ _).cells (i := 0) rfl, (by with_reducible repeat (first | exact za.refl _ | assumption | refine za.set ?_ (by simp <;> omega) _ | refine za.al ?_ _ | refine za.drew ?_ | refine za.drewN ?_ _ | refine za.trans ?_ (by assumption))), by simp⟩ ?_; rintro Y ⟨cw, GY, szY⟩; generalize w7.heap.size = gw at *; clear bx fx bx7 fx7 lx7 lx; obtain ⟨bx, fx⟩ := (BX.out.grow GY).rules; have lx := (BX.out.grow GY).lt; go_upto_region 6 with (go_at_call 47; ((with_reducible refine (CP.out gw _ GY cw).mono ?_); rintro en w8 ⟨r, rfl, hr, hn, hg8⟩))
  refine zc (fun Y2 => ∃ gq, gq = w8.heap.size /\ zb Y2 gq 31 (pC r) /\ qI (Zm (fun q => q < w.heap.size) w.heap.size gx) Y2 r /\ za X Y2) ⟨_, rfl, zb.new _ _ _, ((hr.mono (fun q _ hq => by
   have h1 := HGX.out; have h2 := (BR.out.grow GY).lt; rcases hq with h | h
   ·exact .inl ⟨h, h⟩
   ·exact .inr ⟨by omega, by omega, by omega⟩)).grow ((za.refl w8).al _)), (by with_reducible repeat (first | exact za.refl _ | assumption | refine za.set ?_ (by simp <;> omega) _ | refine za.al ?_ _ | refine za.drew ?_ | refine za.drewN ?_ _ | refine za.trans ?_ (by assumption)))⟩ ?_
  rintro Y2 ⟨gq, hgq, BQ, hrY, GY2⟩; have lq : gx + 1 < gq := by have := (BR.out.grow (GY.trans hg8)).lt; omega
  rw [<- hgq]; have HN := Lib.hid hn; clear hr hn hg8 bx fx lx cw szY hgq; have HR := Lib.hid hrY; obtain ⟨bq, fq⟩ := BQ.rules; have lq2 := BQ.lt; have BQ' := Lib.hid BQ; obtain ⟨bx2, fx2⟩ := (BX.out.grow GY2).rules; have lx2 := (BX.out.grow GY2).lt; obtain ⟨D, hD⟩ : ∃ D, zi (zh ts) r = D := ⟨_, rfl⟩
  have c2 := fun W (h : za Y2 W) => CC.out r W (G.trans (GY2.trans h)) ((hrY.grow h).px)
  rw [hD] at c2; unfold PL.val at c2; have C2 := Lib.hid c2; have HD := Lib.hid hD; clear c2 hD hrY BQ
  by_cases h2 : D.2 = 0
  ·have d2 : (D.2 != 0) = false := by simp [h2]
   have E2 := Lib.hid h2; clear h2
   go_wp2_with (go_at_call 11; ((with_reducible refine (C2.out _ (by with_reducible repeat (first | exact za.refl _ | assumption | refine za.set ?_ (by simp <;> omega) _ | refine za.al ?_ _ | refine za.drew ?_ | refine za.drewN ?_ _ | refine za.trans ?_ (by assumption)))).mono ?_); rintro en w9 ⟨B9, c9, rfl, hi9, hn9, hg9⟩; clear hi9 hn9; have G9 : za Y2 w9 := za.trans (by with_reducible repeat (first | exact za.refl _ | assumption | refine za.set ?_ (by simp <;> omega) _ | refine za.al ?_ _ | refine za.drew ?_ | refine za.drewN ?_ _ | refine za.trans ?_ (by assumption))) hg9; obtain ⟨bq9, fq9⟩ := (BQ'.out.grow G9).rules; have lq9 := (BQ'.out.grow G9).lt; obtain ⟨br9, fr9⟩ := (BR.out.grow (GY2.trans G9)).rules; have lr9 := (BR.out.grow (GY2.trans G9)).lt))
   have B3 := zq r (BR.out.grow (GY2.trans G9)); simp only [st11] at B3; obtain ⟨b3, f3⟩ := B3.rules; refine bodyPost_ret (v := .tuple #[r.val, .int .i64 0]) (by simp [results, Tryz.results20, go_sem, b3, PL.val]) rfl ?_; have hr9 := ((HR.out.grow G9).move (w' := st11 w9 (gx + 1) r) (fun q hq _ => yF w9 (gx + 1) r (by have := HGX.out; rcases hq with h | h; omega; exact h.2.2)) (by rw [YW]; exact Nat.le_refl _)).px; exact ⟨r, by rw [E0.out], ja (G.trans (GY2.trans G9)) (by have := HGX.out; omega) r, hr9, fun _ => by unfold FQ; rw [HN.out, if_pos (by rw [<- HN.out, jX, HD.out]; exact E2.out)]⟩
  ·have d2 : (D.2 != 0) = true := by simpa using h2
   have E2 := Lib.hid h2; clear h2
   go_wp2_with (go_at_call 11; ((with_reducible refine (C2.out _ (by with_reducible repeat (first | exact za.refl _ | assumption | refine za.set ?_ (by simp <;> omega) _ | refine za.al ?_ _ | refine za.drew ?_ | refine za.drewN ?_ _ | refine za.trans ?_ (by assumption)))).mono ?_); rintro en w9 ⟨B9, c9, rfl, hi9, hn9, hg9⟩; clear hi9 hn9; have G9 : za Y2 w9 := za.trans (by with_reducible repeat (first | exact za.refl _ | assumption | refine za.set ?_ (by simp <;> omega) _ | refine za.al ?_ _ | refine za.drew ?_ | refine za.drewN ?_ _ | refine za.trans ?_ (by assumption))) hg9; obtain ⟨bx9, fx9⟩ := (BX.out.grow (GY2.trans G9)).rules; have lx9 := (BX.out.grow (GY2.trans G9)).lt; obtain ⟨br9, fr9⟩ := (BR.out.grow (GY2.trans G9)).rules; have lr9 := (BR.out.grow (GY2.trans G9)).lt))
   have B3 := zq p (BR.out.grow (GY2.trans G9)); simp only [st11] at B3; obtain ⟨b3, f3⟩ := B3.rules; refine bodyPost_ret (v := .tuple #[p.val, .int .i64 0]) (by simp [results, Tryz.results20, go_sem, b3, PL.val]) rfl ?_; have hp9 := ((P0.out.grow (G.trans (GY2.trans G9))).move (w' := st11 w9 (gx + 1) p) (fun q hq _ => yF w9 (gx + 1) p (by have := HGX.out; omega)) (by rw [YW]; exact Nat.le_refl _)).px; exact ⟨p, by rw [E0.out], ja (G.trans (GY2.trans G9)) (by have := HGX.out; omega) p, hp9, fun _ => by unfold FQ; rw [if_neg (by rw [<- HN.out, jX, HD.out]; exact E2.out)]⟩
 ·have d0 : (CE.2 != 0) = true := by simpa using h0
  have H0 := Lib.hid h0; clear h0
  go_wp2_with (go_at_call 11; ((with_reducible refine (CC1.out _ (by with_reducible repeat (first | exact za.refl _ | assumption | refine za.set ?_ (by simp <;> omega) _ | refine za.al ?_ _ | refine za.drew ?_ | refine za.drewN ?_ _ | refine za.trans ?_ (by assumption)))).mono ?_); rintro en w7 ⟨B7, c7, rfl, hi7, hn7, hg7⟩; clear hi7 hn7; have G7 : za X w7 := za.trans (by with_reducible repeat (first | exact za.refl _ | assumption | refine za.set ?_ (by simp <;> omega) _ | refine za.al ?_ _ | refine za.drew ?_ | refine za.drewN ?_ _ | refine za.trans ?_ (by assumption))) hg7; obtain ⟨br, fr⟩ := (BR.out.grow G7).rules; have lr7 := (BR.out.grow G7).lt))
  have B3 : zb (((((((((((w7.setCell ⟨gx + 1, 0, none⟩ (.int .i64 0)).setCell ⟨gx + 1, 1, none⟩ (.int .i64 0)).setCell ⟨gx + 1, 2, none⟩ (.int .i64 0)).setCell ⟨gx + 1, 3, none⟩ (.int .i64 0)).setCell ⟨gx + 1, 4, none⟩ (.int .i64 0)).setCell ⟨gx + 1, 5, none⟩ (.string ⟨#[]⟩)).setCell ⟨gx + 1, 6, none⟩ (.int .i64 0)).setCell ⟨gx + 1, 7, none⟩ (.slice none 0 0)).setCell ⟨gx + 1, 8, none⟩ (.slice none 0 0)).setCell ⟨gx + 1, 9, none⟩ (.slice none 0 0)).setCell ⟨gx + 1, 10, none⟩ (.slice none 0 0)) (gx + 1) 31 #[.int .i64 0, .int .i64 0, .int .i64 0, .int .i64 0, .int .i64 0, .string ⟨#[]⟩, .int .i64 0, .slice none 0 0, .slice none 0 0, .slice none 0 0, .slice none 0 0] := zq .leaf (BR.out.grow G7); obtain ⟨b3, f3⟩ := B3.rules; refine bodyPost_ret (by simp [results, Tryz.results20, go_sem, b3] <;> rfl) rfl ?_; exact ⟨.leaf, rfl, ja (G.trans G7) (by have := HGX.out; omega) .leaf, .leaf, fun h => absurd h H0.out⟩
abbrev zbY : PL := .mk 1 0 .leaf ZG Y8 none 0 0 (fun _ => .leaf)
abbrev c0E : E := .mk 2 zV 0 none 0 0 (fun _ => .leaf)
abbrev zbR (g : Nat) : E := .mk 16 zV 0 (some ⟨g, 0, none⟩) 1 1 (fun _ => c0E)
abbrev Ry (gx gk gd : Nat) : PL := KW 2 0 (zbR gx) ZG Y8 gd 1 (KW 11 0 .leaf ZG Y8 gk 1 zbY)
theorem VT (gx gk gd : Nat) : (zi [[3]] (Ry gx gk gd)).2 = 0 := rfl
theorem VU (gx gk gd : Nat) : (FQ [[3]] (nP (Ry gx gk gd))).k = 11 /\ (FQ [[3]] (nP (Ry gx gk gd))).m = 1 /\ ((FQ [[3]] (nP (Ry gx gk gd))).kid 0).k = 2 := ⟨rfl, rfl, rfl⟩
theorem zbb (w : World) : PX w zbY := .mk (Nat.zero_le _) (fun i hi => absurd hi (Nat.not_lt_zero _)) (fun i hi => absurd hi (Nat.not_lt_zero _)) .leaf (fun i x h => by simp at h) (fun i x h => by simp at h) ⟨by decide, by decide⟩ ⟨⟨by decide, by decide⟩, ⟨by decide, by decide⟩⟩
theorem zat {w : World} {g : Nat} (h : zb w g 27 #[.int .i64 2, .int .i64 0, .int .i64 0, .string ⟨#[]⟩, .int .i64 0, .slice none 0 0]) : EX w (zbR g) :=
 .mk (by decide) (fun i hi => ⟨g, 0, rfl, by (obtain rfl : i = 0 := by omega); exact ⟨h.cells rfl, h.cells rfl, h.cells rfl, h.cells rfl, h.cells rfl, h.cells rfl⟩⟩) (fun i hi => .mk (Nat.zero_le _) (fun i hi => absurd hi (Nat.not_lt_zero _)) (fun i hi => absurd hi (Nat.not_lt_zero _)) D0 ⟨⟨by decide, by decide⟩, ⟨by decide, by decide⟩⟩) D0 ⟨⟨by decide, by decide⟩, ⟨by decide, by decide⟩⟩
theorem zba {w : World} {gx gk gd : Nat} (h1 : zb w gx 27 #[.int .i64 2, .int .i64 0, .int .i64 0, .string ⟨#[]⟩, .int .i64 0, .slice none 0 0]) (h2 : zb w gk 31 #[.int .i64 1, .int .i64 0, .int .i64 0, .int .i64 0, .int .i64 0, .string ⟨#[]⟩, .int .i64 0, .slice none 0 0, .slice none 0 0, .slice none 0 0, .slice none 0 0])
  (h3 : zb w gd 31 #[.int .i64 11, .int .i64 0, .int .i64 0, .int .i64 0, .int .i64 0, .string ⟨#[]⟩, .int .i64 0, .slice none 0 0, .slice none 0 0, .slice none 0 0, .slice (some ⟨gk, 0, none⟩) 1 1]) : PX w (Ry gx gk gd) :=
 Nb 1 h3 ⟨zat h1, fun i x h => by simp at h, fun i x h => by simp at h, by decide, ⟨by decide, by decide⟩, ⟨by decide, by decide⟩⟩ (Nb 1 h2 (Tz ⟨by decide, by decide⟩) (zbb w))
theorem zak (w : World) : Calls Tryz.prog 19 #[] w fun en w' => en = .returned (.bool true) /\ za w w' := by
 have ct : ∀ (gi gt gx gk gd : Nat) (W : World), (zb W gi 3 #[.int .i64 3]) -> (zb W gt 33 #[.slice (some ⟨gi, 0, none⟩) 1 1]) -> (zb W gx 27 #[.int .i64 2, .int .i64 0, .int .i64 0, .string ⟨#[]⟩, .int .i64 0, .slice none 0 0]) -> (zb W gk 31 #[.int .i64 1, .int .i64 0, .int .i64 0, .int .i64 0, .int .i64 0, .string ⟨#[]⟩, .int .i64 0, .slice none 0 0, .slice none 0 0, .slice none 0 0, .slice none 0 0]) ->
  (zb W gd 31 #[.int .i64 11, .int .i64 0, .int .i64 0, .int .i64 0, .int .i64 0, .string ⟨#[]⟩, .int .i64 0, .slice none 0 0, .slice none 0 0, .slice none 0 0, .slice (some ⟨gk, 0, none⟩) 1 1]) ->
  Calls Tryz.prog 20 #[.slice (some ⟨gt, 0, none⟩) 1 1, .agg #[.int .i64 2, .int .i64 0, .int .i64 16, .int .i64 0, .int .i64 0, .string ⟨#[]⟩, .int .i64 0, .slice (some ⟨gx, 0, none⟩) 1 1, .slice none 0 0, .slice none 0 0, .slice (some ⟨gd, 0, none⟩) 1 1]] W fun en w' => ∃ r : PL, en = Ending.returned (.tuple #[r.val, .int .i64 0]) /\ PX w' r /\ ((nP r).k = 11 /\ (nP r).m = 1 /\ ((nP r).kid 0).k = 2) /\ za W w' := fun gi gt gx gk gd W h0 h9 h1 h2 h3 =>
  (Kb [⟨some ⟨gi, 0, none⟩, [3], 1⟩] (some ⟨gt, 0, none⟩) 1 (Ry gx gk gd) W (show 1 <= zz by decide) (fun t ht => by simp at ht; subst ht; show 1 <= zz; decide) (fun i s hs => by
   match i, hs with
   | 0, hs =>
    simp at hs; subst hs
    exact ⟨gt, 0, rfl, h9.cells rfl, fun i x hx => by
     match i, hx with
     | 0, hx => simp at hx; subst hx; exact ⟨gi, 0, rfl, h0.cells rfl⟩⟩) (zba h1 h2 h3)).mono (fun en w' ⟨r, h1, h2, h3, h4⟩ => ⟨r, h1, h3, by
    have e := h4 (VT gx gk gd); have q := VU gx gk gd; have e2 : nP r = FQ [[3]] (nP (Ry gx gk gd)) := e; rw [<- e2] at q
    exact q, h2⟩)
 have CT := Lib.hid ct; clear ct; go_enter Tryz.func19, Tryz.ntmps19; go_upto_region 4 with (go_at_call 20; ((refine (CT.out (w.heap.size + 1 + 1 + 1) (w.heap.size + 1 + 1 + 1 + 1) (w.heap.size + 1) (w.heap.size + 1 + 1 + 1 + 1 + 1) (w.heap.size + 1 + 1 + 1 + 1 + 1 + 1) _ ((((zb.new' _ _ _ (by simp)).al _).al _).al _) (((zb.new' _ _ _ (by simp)).al _).al _) ((((((zb.new' _ _ _ (by simp)).al _).al _).al _).al _).al _) ((zb.new' _ _ _ (by simp)).al _) (zb.new' _ _ _ (by simp))).mono ?_); rintro en w2 ⟨r, rfl, hpx, hq, hg2⟩)); have G2 : za w w2 := za.trans (by with_reducible repeat (first | exact za.refl _ | assumption | refine za.set ?_ (by simp <;> omega) _ | refine za.al ?_ _ | refine za.drew ?_ | refine za.drewN ?_ _ | refine za.trans ?_ (by assumption))) hg2; refine zc (fun Y => zb Y w2.heap.size 31 (pC r) /\ za w2 Y) ⟨zb.new _ _ _, (by with_reducible repeat (first | exact za.refl _ | assumption | refine za.set ?_ (by simp <;> omega) _ | refine za.al ?_ _ | refine za.drew ?_ | refine za.drewN ?_ _ | refine za.trans ?_ (by assumption)))⟩ ?_; rintro Y ⟨BY, GY⟩; generalize w2.heap.size = gy at *; have hpy := hpx.grow GY; clear hpx hg2; cases r with
 | leaf => exact absurd hq.1 (by decide)
 | mk rk rn rx rxs rag rA rm rcap rkid =>
  obtain ⟨q1, q2, q3⟩ := hq; have q1 : rk = 11 := q1; have q2 : rm = 1 := q2; subst q1 q2; have q4 : (rkid 0).k = 2 := (zcj (rkid 0)).symm.trans q3; clear q3
  obtain ⟨gk, ok, hA, hc⟩ : ∃ g o, rA = some ⟨g, o, none⟩ /\ zX Y g (o + 0 * 11) (rkid 0) := by
   cases hpy with
   | mk hm hc => exact hc 0 (by omega)
  subst hA; have c0 := hc.c0; rw [q4] at c0
  try simp only [Nat.zero_mul, Nat.add_zero] at c0
  have BY : zb Y gy 31 #[.int .i64 11, .int .i64 rn, .int .i64 rx.kind, .int .i64 rx.v.k, .int .i64 rx.v.n, .string rx.v.s, .int .i64 rx.col, .slice rx.A rx.n rx.cap, .slice rxs.A rxs.l.length rxs.c, .slice rag.A rag.l.length rag.c, .slice (some ⟨gk, ok, none⟩) 1 rcap] := BY; obtain ⟨by', fy⟩ := BY.rules; have ly := BY.lt; clear hc BY hpy q4; go_wp2; exact bodyPost_ret (by simp [results, Tryz.results19, go_sem]) rfl ⟨rfl, G2.trans GY⟩
end Go.Proofs.YtcaedcpjdmlilaaGreat

