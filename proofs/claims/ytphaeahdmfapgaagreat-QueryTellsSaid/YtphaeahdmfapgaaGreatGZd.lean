/- Parts of a proof. No condition. -/
import Derived.Test.YtphaeahdmfapgaaGreatGZ
set_option maxRecDepth 100000
set_option maxHeartbeats 8000000
set_option maxRecDepth 100000
set_option linter.unusedSimpArgs false
set_option linter.unusedVariables false
namespace Go
variable {p : Prop}
theorem oX_ (h : p := by simp [results, Tryz.results60, go_sem] <;> rfl) : p := h
theorem vm_ (h : p := by rw [<- HA.out]; exact qZ9 hy) : p := h
theorem vn_ (h : p := by rw [<- HB.out]; exact qZ9 hy) : p := h
theorem v2_ (h : p := by have := rz.2.2; simp at this; omega) : p := h
theorem v8_ (h : p := by rw [HA.out, HB.out]; exact H2.out) : p := h
theorem ue_ (h : p := by rw [List.length_append]; omega) : p := h
theorem u7_ (h : p := by
 obtain ⟨z, hzk⟩ : ∃ z, bs1[k2]? = some z := ⟨_, qQ_ hlt2⟩
 obtain ⟨gx3, ox3, rfl, c3, c4, hzv⟩ := (Hb.out.z.grow (GZ.trans gW)) k2 z hzk; have hm := qZ_ hzk; have rz := re.out z hm; have wz := Ok.out.wb z hm; have fz := kF fy.out (fb.out z hm); have sn := hh_ (WL (x := x) (y := zg y) hzk)
 have hmul : -1000000000000 <= y.w * z.w /\ y.w * z.w <= 1000000000000 := by
  obtain ⟨h1, h2⟩ := wy; obtain ⟨h3, h4⟩ := wz; have ha : (y.w).natAbs <= 1000000 := by omega
  have hb : (z.w).natAbs <= 1000000 := by omega
  have : (y.w * z.w).natAbs <= 1000000 * 1000000 := by rw [Int.natAbs_mul]; exact Nat.mul_le_mul ha hb
  omega
 have hwp : IntKind.i64.wrap (y.w * z.w) = y.w * z.w := by rw [IntKind.wrap_i64]; omega
 have cb4 := fun W (h : za W1 W) => kB y.row z.row y.A z.A y.cap z.cap W v2_ (VZ.out.grow (gW.trans h)) (hzv.grow h)
 obtain ⟨R, hR⟩ : ∃ R, y.row ++ z.row = R := ⟨_, rfl⟩
 rw [hR] at cb4 fz rz; obtain ⟨rz1, rz2, rz3⟩ := rz; have ch := fun B cap W (h : za W1 W) (hv : yS W B R) => Xm (l.xs ++ r.xs) R B cap x T W u4_ fz ft.out (HX.out.grow (GZ.trans (gW.trans h))) hv
 obtain ⟨hit, hh⟩ : ∃ t, yi x R = t := ⟨_, rfl⟩
 rw [hh] at ch; have HH := hh_ (And.intro hR hh); have RV2 := hh_ rz2; obtain ⟨m, hm2⟩ : ∃ m, y.w * z.w = m := ⟨_, rfl⟩
 have HM := hh_ hm2; have mul : IntKind.i64.wrap (y.w * z.w) = m := by rw [hwp, hm2]
 have hmb : -1000000000000 <= m /\ m <= 1000000000000 := by rw [<- hm2]; exact hmul
 unfold E.val at ch; clear hR hh hzk hm hm2 hwp hmul rz1 rz2 fz; have HZv := hh_ hzv; clear hzv; go_upto_region 12 with fail
 refine zb (fun Z2 => zc Z2 W1.heap.size 59 #[.slice z.A z.row.length z.cap, .int .i64 z.w] /\ za W1 Z2) ⟨zc.new _ _ _, (za.refl W1).al _⟩ ?_; rintro Z2 ⟨Bz2, Gz2⟩; have BQ := hh_ Bz2; obtain ⟨b4, f4⟩ := Bz2.rules; obtain ⟨b3, f3⟩ := (BY.out.grow (gW.trans Gz2)).rules; clear c3 c4; generalize W1.heap.size = gq at *; go_upto_region 13 with (go_at_call 104; (with_reducible refine (cb4 _ Gz2).mono ?_); rintro e w3 ⟨B, cap, rfl, own3, hg3⟩); have hv3 := WJ own3; have HV3 := hh_ hv3; clear own3 cb4 b4 f4 b3 f3 hv3; obtain ⟨bx, fx⟩ := (BX.out.grow (gW.trans (Gz2.trans hg3))).rules; cases hit with
 | false =>
  go_wp2_with (go_at_call 101; ((with_reducible refine (ch _ _ _ (Gz2.trans hg3) HV3.out).mono ?_); rintro e w4 ⟨rfl, hg4⟩))
  have GG := Gz2.trans (hg3.trans hg4); have PW4 := hh_ (PW.out.more GG); go_roundw
  case rel => exact ⟨k2 + 1, by omega, by go_num, by rw [sn.out, show (zg y).1 ++ z.row = R from HH.out.1, HH.out.2]; simpa using PW4.out, gW.trans GG⟩
  case measure => simp [intOf]; omega
 | true =>
  go_upto_region 14 with (go_at_call 101; ((with_reducible refine (ch _ _ _ (Gz2.trans hg3) HV3.out).mono ?_); rintro e w4 ⟨rfl, hg4⟩)); have GG := Gz2.trans (hg3.trans hg4); have PW4 := hh_ (PW.out.more GG); have HV4 := hh_ (HV3.out.grow hg4); clear bx fx ch; have cpt := qW PW4.out R B cap m HV4.out u4_ RV2.out hmb ue_; obtain ⟨b4, f4⟩ := (BQ.out.grow (hg3.trans hg4)).rules; obtain ⟨b3, f3⟩ := (BY.out.grow (gW.trans GG)).rules
  go_wp2_with (go_at_call 56; ((with_reducible refine cpt.mono ?_); rintro e w5 ⟨v5, rfl, hp5, hg5⟩; have P5 := hh_ hp5; clear hp5))
  go_roundw
  case rel => exact ⟨k2 + 1, by omega, by go_num, by rw [sn.out, show (zg y).1 ++ z.row = R from HH.out.1, HH.out.2, if_pos rfl, show (zg y).2 * z.w = m from HM.out, <- List.append_assoc]; exact P5.out, gW.trans (GG.trans hg5)⟩
  case measure => simp [intOf]; omega) : p := h
theorem wd_ (h : p := by
 have d0 : (E2 != 0) = true := by simpa using h0
 have eQ : Q = ([], E2) := by rw [Fin.out, if_pos h0]
 go_wp2_with (go_at_call 103; ((with_reducible refine (ct _ G).mono ?_); rintro e w2 ⟨rfl, hg2⟩))
 refine qX_ oX_ rfl ?_; exact ⟨none, [], 0, by rw [eQ]; rfl, zy _ _, by rw [eQ]; rfl, zX.nil, G.trans hg2⟩) : p := h
theorem xs_ (h : p := by
 exact ⟨0, Nat.zero_le _, rfl, xB.nil _ _ (za.refl _)⟩) : p := h
theorem xN_ (h : p := by
 exact ⟨k + 1, by omega, by go_num, by rw [Fl2.out]; unfold xl; rw [HAS.out]; have h := P7.out; simpa [zg] using h⟩) : p := h
theorem x3_ (h : p := by
 exact ⟨k + 1, by omega, by go_num, by rw [Fl2.out]; unfold xl; rw [HAS.out]; simpa using P6.out⟩) : p := h
theorem yh_ (h : p := by
 exact ⟨k + 1, by omega, by go_num, by rw [Fl2.out]; unfold xl; simpa using P6.out⟩) : p := h
theorem yz_ (h : p := by
 exact ⟨0, Nat.zero_le _, rfl, by simpa [yF] using PZ.out, za.refl _⟩) : p := h
theorem yP_ (h : p := by
 rw [if_pos h0, if_pos h0]) : p := h
end Go
namespace Go.Proofs.YtphaeahdmfapgaaGreat
open Go.RowKit Go.Calm
def xl (what : Nat) (x : E) (n : Nat) (b : List Z) (p : Z) : List Z := match what with
 | 0 => yF x p b
 | 1 => if qL x b p.1 then [p] else []
 | 2 => if qL x b p.1 then [] else [p]
 | _ => yF x p b ++ if qL x b p.1 then [] else [SL n p]
theorem Xg {f : Z -> List Z} {xs : List I} {k : Nat} {y : I} (h : xs[k]? = some y) : ((xs.take (k + 1)).map zg).flatMap f = ((xs.take k).map zg).flatMap f ++ f (zg y) := by
 rw [zT zg h, List.flatMap_append]; simp
theorem Vw (what : Nat) (x : E) (n : Nat) (b : List Z) (p : Z) : (xl what x n b p).length <= b.length + 1 := by
 have h : (yF x p b).length <= b.length := by unfold yF; rw [List.length_map]; exact List.length_filter_le _ _
 unfold xl; split
 ·omega
 ·split <;> simp
 ·split <;> simp
 ·rw [List.length_append]; split <;> simp <;> omega
theorem qd (what : Nat) (x : E) (n : Nat) (b : List Z) : ∀ a : List Z, (a.flatMap (xl what x n b)).length <= a.length * (b.length + 1)
 | [] => by simp
 | p :: a => by
  have := qd what x n b a; have := Vw what x n b p; rw [List.flatMap_cons, List.length_append, List.length_cons, Nat.succ_mul]; omega
theorem WL {x : E} {y : Z} {bs : List I} {k : Nat} {z : I} (h : bs[k]? = some z) : yF x y ((bs.take (k + 1)).map zg) = yF x y ((bs.take k).map zg) ++ if yi x (y.1 ++ z.row) then [(y.1 ++ z.row, y.2 * z.w)] else [] := by
 rw [zT zg h]; unfold yF; rw [List.filter_append, List.map_append]; cases hh : yi x (y.1 ++ z.row) <;> simp [zg, hh]
def FK : Value -> Nat
 | .slice _ n _ => n
 | _ => 0
theorem XL (p : Z -> Bool) : ∀ l : List Z, l.flatMap (fun z => if p z then [z] else []) = l.filter p
 | [] => rfl
 | z :: l => by
  rw [List.flatMap_cons, XL p l, List.filter_cons]; cases p z <;> simp
theorem FT (x : E) (n : Nat) (a b : List Z) : a.flatMap (xl 1 x n b) = a.filter (fun p => qB x b p == true) := by
 have := XL (fun p => qB x b p == true) a; rw [<- this]; congr 1; funext p; have e : qB x b p = qL x b p.1 := rfl; unfold xl; simp only [e]; cases qL x b p.1 <;> simp
theorem FU (x : E) (n : Nat) (a b : List Z) : a.flatMap (xl 2 x n b) = a.filter (fun p => qB x b p == false) := by
 have := XL (fun p => qB x b p == false) a; rw [<- this]; congr 1; funext p; have e : qB x b p = qL x b p.1 := rfl; unfold xl; simp only [e]; cases qL x b p.1 <;> simp
theorem NB (x : E) (n : Nat) (b : List Z) (u : List V) : ∀ a : List Z, xe (a.flatMap (xl 3 x n b)) u = xe (ql n x a b) u
 | [] => rfl
 | p :: a => by
  have ih := NB x n b u a; have e : qB x b p = qL x b p.1 := rfl; unfold ql qI at ih ⊢; rw [List.flatMap_cons, xz, ih, List.flatMap_cons, List.filter_cons, xz, xz, xz]; have er : xl 3 x n b p = yF x p b ++ if qL x b p.1 then [] else [SL n p] := rfl
  rw [er, xz, e]; cases qL x b p.1
  ·simp only [beq_self_eq_true, if_true, List.map_cons, Bool.false_eq_true, if_false]; rw [zv, zv, qx]; omega
  ·simp [qx]; omega
theorem Ta {x : E} {n : Nat} {a b : List Z} {y : Z} (h : y ∈ a.flatMap (xl 3 x n b)) : y ∈ ql n x a b := by
 obtain ⟨p, hp, h⟩ := List.mem_flatMap.1 h; have e : qB x b p = qL x b p.1 := rfl; unfold xl at h; unfold ql; rcases List.mem_append.1 h with h | h
 ·exact List.mem_append_left _ (List.mem_flatMap.2 ⟨p, hp, h⟩)
 ·split at h
  ·simp at h
  ·rename_i hn; simp at h; subst h; exact List.mem_append_right _ (qZ9 (List.mem_filter.2 ⟨hp, by rw [e]; simpa using hn⟩))
theorem FV {l r : List Int} {x : E} {a b : List Z} (h : x5 l r x a b = 0) : yC (a.flatMap (xl 3 x r.length b)) = yC (ql r.length x a b) := by
 have ok := Kk h; have s1 := qe (ql r.length x a b) (fun y hy => (ok y hy).2); refine (Zs (fun y hy => (ok y (Ta hy)).2) s1.1 (fun q => ?_)).symm; rw [s1.2, NB]
theorem Dj (l r : L2 Int) (x : E) (a b : S) (w : World) (hll : l.xs.length <= 140737488355328) (hlr : r.xs.length <= 140737488355328) (hl : yD w l.A l.xs) (hr : yD w r.A r.xs) (hE : EX w x) (ha : In w a) (hb : In w b) :
  Calls Tryz.prog 60 #[.int .i64 0, .slice l.A l.xs.length l.cap, .slice r.A r.xs.length r.cap, x.val, .slice a.A a.xs.length a.cap, .slice b.A b.xs.length b.cap] w fun en w' => z0 w w' en (XO l.xs r.xs x a.z b.z) := by
 obtain ⟨Aa, as1, ca⟩ := a; obtain ⟨Ab, bs1, cb⟩ := b; have HX := hh_ hE; have Ha := hh_ ha; have Hb := hh_ hb; have ct := fun W (hg : za w W) => Zq l r x ⟨Aa, as1, ca⟩ ⟨Ab, bs1, cb⟩ W hll hlr (hl.grow hg) (hr.grow hg) (hE.grow hg) (ha.grow hg) (hb.grow hg)
 obtain ⟨bz, hbz⟩ : ∃ z, S.z ⟨Ab, bs1, cb⟩ = z := ⟨_, rfl⟩
 obtain ⟨az, haz⟩ : ∃ z, S.z ⟨Aa, as1, ca⟩ = z := ⟨_, rfl⟩
 obtain ⟨E2, hE2⟩ : ∃ e, x5 l.xs r.xs x az bz = e := ⟨_, rfl⟩
 rw [haz, hbz, hE2] at ct; obtain ⟨Q, hQ⟩ : ∃ Q, XO l.xs r.xs x az bz = Q := ⟨_, rfl⟩
 rw [haz, hbz, hQ]
 have fin : Q = if E2 ≠ 0 then ([], E2) else qj (yC (az.flatMap (xl 0 x r.xs.length bz))) := by
  rw [<- hQ]; unfold XO; rw [hE2]
  by_cases h0 : E2 = 0
  ·rw [if_neg uI_, if_neg uI_]; rfl
  ·exact yP_
 have Fin := hh_ fin; have H2 := hh_ hE2; have HA := hh_ haz; have HB := hh_ hbz; clear hl hr hE ha hb hE2 hQ fin haz hbz; unfold E.val at *; go_enter Tryz.func60, Tryz.ntmps60; go_upto_region 1 with fail
 refine zb (fun X => zc X w.heap.size 27 (Ed x) /\ za w X) ⟨zc.new _ _ _, (za.refl _).al _⟩ ?_; generalize w.heap.size = g1; rintro X ⟨Bx, G⟩; obtain ⟨bx, fx⟩ := Bx.rules
 by_cases h0 : E2 = 0
 ·subst h0; have eQ : Q = qj (yC (az.flatMap (xl 0 x r.xs.length bz))) := by rw [Fin.out]; simp
  have EQ := hh_ eQ; clear eQ; go_upto_region 4 with (go_at_call 103; ((with_reducible refine (ct _ G).mono ?_); rintro e w2 ⟨rfl, hg2⟩)); have G2 := G.trans hg2; have ok := Xp (l := l.xs) (r := r.xs) (x := x) (a := ⟨Aa, as1, ca⟩) (b := ⟨Ab, bs1, cb⟩) v8_; obtain ⟨h8, hcond, hia, hib⟩ := xL H2.out; obtain ⟨T, hok⟩ := xk (qA hcond).1; have ft := hh_ hok.ty; have fa := hh_ (show ∀ y ∈ as1, ja l.xs y.row from fun y hy => (yo _ _).1 ((zt hia).2.2 (zg y) vm_)); have fb := hh_ (show ∀ y ∈ bs1, ja r.xs y.row from fun y hy => (yo _ _).1 ((zt hib).2.2 (zg y) vn_)); have la : as1.length <= 400 := ok.la; have lb : bs1.length <= 400 := ok.lb; have Ok := hh_ ok; have B2 := hh_ (Bx.grow hg2); have lbz : bz.length = bs1.length := by rw [<- HB.out]; simp [S.z]
  clear ct bx fx ok hcond hia hib hok Bx; go_wp2
  go_loopw [15, 34] (fun t i wr => ∃ k : Nat, k <= as1.length /\ i = .int .i64 k /\ xB w2 wr t (((as1.take k).map zg).flatMap (xl 0 x r.xs.length bz))) (fun _ i _ => as1.length - (intOf i).toNat)
  case atStart => exact xs_
  case round =>
   rename World => wr
   obtain ⟨k, hk, rfl, hp⟩ := hrel; obtain ⟨Bt, nt, ct, rfl⟩ := hp.slice; have P := hh_ hp; have hg := hp.grow; clear hp
   by_cases hlt : k < as1.length
   ·obtain ⟨y, hyk⟩ : ∃ y, as1[k]? = some y := ⟨_, qQ_ hlt⟩
    obtain ⟨gx2, ox2, rfl, c1, c2, hyv⟩ := (Ha.out.z.grow (G2.trans hg)) k y hyk; have hm := qZ_ hyk; have ly := Ok.out.ra y hm; have fy := hh_ (fa.out y hm); have wy := Ok.out.wa y hm; have vy := hh_ (Ok.out.va y hm); have Fl := hh_ (Xg (f := xl 0 x r.xs.length bz) hyk); have HV := hh_ hyv; have re := hh_ (Ok.out.re y hm); have lpz : (yF x (zg y) bz).length <= 400 := by unfold yF; rw [List.length_map]; have := List.length_filter_le (fun r => yi x ((zg y).1 ++ r.1)) bz; omega
    obtain ⟨LK, hLK⟩ : ∃ L, ((as1.take k).map zg).flatMap (xl 0 x r.xs.length bz) = L := ⟨_, rfl⟩
    have lk : LK.length <= 160400 := by
     rw [<- hLK]; have h1 := qd 0 x r.xs.length bz ((as1.take k).map zg); have h2 : ((as1.take k).map zg).length <= 400 := by simp; omega
     have h3 := Nat.mul_le_mul h2 (show bz.length + 1 <= 401 by omega); omega
    have P1 := P.out; have Fl1 := Fl.out; rw [hLK] at P1 Fl1; have P2 := hh_ P1; have Fl2 := hh_ Fl1; clear P Fl P1 Fl1 hLK hyk hm hyv; go_upto_region 8 with fail
    refine zb (fun Z => zc Z wr.heap.size 59 #[.slice y.A y.row.length y.cap, .int .i64 y.w] /\ za wr Z) ⟨zc.new _ _ _, (za.refl wr).al _⟩ ?_; rintro Z ⟨Bz, Gz⟩; have BY := hh_ Bz; have BX := hh_ (B2.out.grow (hg.trans Gz)); have PZ := hh_ (P2.out.more Gz); have VZ := hh_ (HV.out.grow Gz); have GZ := G2.trans (hg.trans Gz); clear Bz c1 c2 P2 HV; generalize wr.heap.size = gp at *; go_wp2
    go_loopw [15, 46] (fun t i W => ∃ k2 : Nat, k2 <= bs1.length /\ i = .int .i64 k2 /\ xB w2 W t (LK ++ yF x (zg y) ((bs1.take k2).map zg)) /\ za Z W) (fun _ i _ => bs1.length - (intOf i).toNat)
    case atStart => exact yz_
    case round =>
     rename World => W1
     obtain ⟨k2, hk2, rfl, hp2, gW⟩ := hrel; obtain ⟨Bs, ns, cs, rfl⟩ := hp2.slice; have PW := hh_ hp2; have lp : (yF x (zg y) ((bs1.take k2).map zg)).length <= 400 := by unfold yF; rw [List.length_map]; have := List.length_filter_le (fun r => yi x ((zg y).1 ++ r.1)) ((bs1.take k2).map zg); rw [List.length_map, List.length_take] at this; omega
     clear hp2
     by_cases hlt2 : k2 < bs1.length
     ·exact u7_
     ·obtain rfl : k2 = bs1.length := by omega
      have PW2 := PW.out; rw [List.take_length, show bs1.map zg = bz from HB.out] at PW2; have PE := hh_ PW2; clear PW2 PW lp; have cpn := j7 (l.xs ++ r.xs) x T y.row y.A y.cap ⟨Ab, bs1, cb⟩ W1 lb (fun z hz => kF fy.out (fb.out z hz)) ft.out (fun z hz => (re.out z hz).2.2) (HX.out.grow (GZ.trans gW)) (VZ.out.grow gW) (Hb.out.z.grow (GZ.trans gW)); rw [show S.z ⟨Ab, bs1, cb⟩ = bz from HB.out] at cpn; obtain ⟨has, hhas⟩ : ∃ t, qL x bz y.row = t := ⟨_, rfl⟩
      rw [hhas] at cpn; have HAS := hh_ (show qL x bz (zg y).1 = has from hhas); unfold E.val at cpn; clear hhas; obtain ⟨b3, f3⟩ := (BY.out.grow gW).rules; obtain ⟨bx, fx⟩ := (BX.out.grow gW).rules; go_upto_region 17 with (go_at_call 105; ((with_reducible refine cpn.mono ?_); rintro e w6 ⟨rfl, hg6⟩)); have P6 := hh_ (PE.out.more hg6); have G6 := gW.trans hg6; clear b3 f3 bx fx cpn PE; cases has with
      | false =>
       go_wp2; go_roundw
       case rel => exact yh_
       case measure => exact wa_
      | true =>
       go_wp2; go_roundw
       case rel => exact yh_
       case measure => exact wa_
   ·obtain rfl : k = as1.length := by omega
    have P1 := P.out; rw [List.take_length, show as1.map zg = az from HA.out] at P1; obtain ⟨⟨B, ys, cap, e9, hz, hm, hk2⟩, hg', _⟩ := P1
    have ly9 : ys.length <= 9223372036854775807 := by
     have h1 := congrArg List.length hm; have h2 := xv (az.flatMap (xl 0 x r.xs.length bz)); have h3 := qd 0 x r.xs.length bz az; have h4 : az.length = as1.length := by rw [<- HA.out]; simp [S.z]
     have h5 := Nat.mul_le_mul (show az.length <= 400 by omega) (show bz.length + 1 <= 401 by omega); simp at h1; omega
    have cf := jV ys B cap wr ly9 hz hk2; rw [hm, <- EQ.out] at cf; simp only [Value.slice.injEq] at e9; obtain ⟨rfl, rfl, rfl⟩ := e9; clear hz hm hk2
    go_wp2_with (go_at_call 57; ((with_reducible refine cf.mono ?_); rintro en w5 ⟨C, zs, cap2, rfl, hz3, hm3, hk3, hg5⟩; have Out := hh_ (And.intro hz3 (And.intro hm3 hk3)); clear hz3 hm3 hk3))
    refine qX_ oX_ rfl ?_; exact ⟨C, zs, cap2, rfl, Out.out.1, Out.out.2.1, Out.out.2.2, G2.trans (hg.trans hg5)⟩
 ·exact wd_
theorem Dk (l r : L2 Int) (x : E) (a b : S) (w : World) (hll : l.xs.length <= 140737488355328) (hlr : r.xs.length <= 140737488355328) (hl : yD w l.A l.xs) (hr : yD w r.A r.xs) (hE : EX w x) (ha : In w a) (hb : In w b) :
  Calls Tryz.prog 60 #[.int .i64 1, .slice l.A l.xs.length l.cap, .slice r.A r.xs.length r.cap, x.val, .slice a.A a.xs.length a.cap, .slice b.A b.xs.length b.cap] w fun en w' => z0 w w' en (xY true l.xs r.xs x a.z b.z) := by
 obtain ⟨Aa, as1, ca⟩ := a; obtain ⟨Ab, bs1, cb⟩ := b; have HX := hh_ hE; have Ha := hh_ ha; have Hb := hh_ hb; have ct := fun W (hg : za w W) => Zq l r x ⟨Aa, as1, ca⟩ ⟨Ab, bs1, cb⟩ W hll hlr (hl.grow hg) (hr.grow hg) (hE.grow hg) (ha.grow hg) (hb.grow hg)
 obtain ⟨bz, hbz⟩ : ∃ z, S.z ⟨Ab, bs1, cb⟩ = z := ⟨_, rfl⟩
 obtain ⟨az, haz⟩ : ∃ z, S.z ⟨Aa, as1, ca⟩ = z := ⟨_, rfl⟩
 obtain ⟨E2, hE2⟩ : ∃ e, x5 l.xs r.xs x az bz = e := ⟨_, rfl⟩
 rw [haz, hbz, hE2] at ct; obtain ⟨Q, hQ⟩ : ∃ Q, xY true l.xs r.xs x az bz = Q := ⟨_, rfl⟩
 rw [haz, hbz, hQ]
 have fin : Q = if E2 ≠ 0 then ([], E2) else qj (yC (az.flatMap (xl 1 x r.xs.length bz))) := by
  rw [<- hQ]; unfold xY; rw [hE2]
  by_cases h0 : E2 = 0
  ·rw [if_neg uI_, if_neg uI_]; rw [FT]; rfl
  ·exact yP_
 have Fin := hh_ fin; have H2 := hh_ hE2; have HA := hh_ haz; have HB := hh_ hbz; clear hl hr hE ha hb hE2 hQ fin haz hbz; unfold E.val at *; go_enter Tryz.func60, Tryz.ntmps60; go_upto_region 1 with fail
 refine zb (fun X => zc X w.heap.size 27 (Ed x) /\ za w X) ⟨zc.new _ _ _, (za.refl _).al _⟩ ?_; generalize w.heap.size = g1; rintro X ⟨Bx, G⟩; obtain ⟨bx, fx⟩ := Bx.rules
 by_cases h0 : E2 = 0
 ·subst h0; have eQ : Q = qj (yC (az.flatMap (xl 1 x r.xs.length bz))) := by rw [Fin.out]; simp
  have EQ := hh_ eQ; clear eQ; go_upto_region 4 with (go_at_call 103; ((with_reducible refine (ct _ G).mono ?_); rintro e w2 ⟨rfl, hg2⟩)); have G2 := G.trans hg2; have ok := Xp (l := l.xs) (r := r.xs) (x := x) (a := ⟨Aa, as1, ca⟩) (b := ⟨Ab, bs1, cb⟩) v8_; obtain ⟨h8, hcond, hia, hib⟩ := xL H2.out; obtain ⟨T, hok⟩ := xk (qA hcond).1; have ft := hh_ hok.ty; have fa := hh_ (show ∀ y ∈ as1, ja l.xs y.row from fun y hy => (yo _ _).1 ((zt hia).2.2 (zg y) vm_)); have fb := hh_ (show ∀ y ∈ bs1, ja r.xs y.row from fun y hy => (yo _ _).1 ((zt hib).2.2 (zg y) vn_)); have la : as1.length <= 400 := ok.la; have lb : bs1.length <= 400 := ok.lb; have Ok := hh_ ok; have B2 := hh_ (Bx.grow hg2); have lbz : bz.length = bs1.length := by rw [<- HB.out]; simp [S.z]
  clear ct bx fx ok hcond hia hib hok Bx; go_wp2
  go_loopw [15, 34] (fun t i wr => ∃ k : Nat, k <= as1.length /\ i = .int .i64 k /\ xB w2 wr t (((as1.take k).map zg).flatMap (xl 1 x r.xs.length bz))) (fun _ i _ => as1.length - (intOf i).toNat)
  case atStart => exact xs_
  case round =>
   rename World => wr
   obtain ⟨k, hk, rfl, hp⟩ := hrel; obtain ⟨Bt, nt, ct, rfl⟩ := hp.slice; have P := hh_ hp; have hg := hp.grow; clear hp
   by_cases hlt : k < as1.length
   ·obtain ⟨y, hyk⟩ : ∃ y, as1[k]? = some y := ⟨_, qQ_ hlt⟩
    obtain ⟨gx2, ox2, rfl, c1, c2, hyv⟩ := (Ha.out.z.grow (G2.trans hg)) k y hyk; have hm := qZ_ hyk; have ly := Ok.out.ra y hm; have fy := hh_ (fa.out y hm); have wy := Ok.out.wa y hm; have vy := hh_ (Ok.out.va y hm); have Fl := hh_ (Xg (f := xl 1 x r.xs.length bz) hyk); have HV := hh_ hyv; have re := hh_ (Ok.out.re y hm); have lpz : (yF x (zg y) bz).length <= 400 := by unfold yF; rw [List.length_map]; have := List.length_filter_le (fun r => yi x ((zg y).1 ++ r.1)) bz; omega
    obtain ⟨LK, hLK⟩ : ∃ L, ((as1.take k).map zg).flatMap (xl 1 x r.xs.length bz) = L := ⟨_, rfl⟩
    have lk : LK.length <= 160400 := by
     rw [<- hLK]; have h1 := qd 1 x r.xs.length bz ((as1.take k).map zg); have h2 : ((as1.take k).map zg).length <= 400 := by simp; omega
     have h3 := Nat.mul_le_mul h2 (show bz.length + 1 <= 401 by omega); omega
    have P1 := P.out; have Fl1 := Fl.out; rw [hLK] at P1 Fl1; have P2 := hh_ P1; have Fl2 := hh_ Fl1; clear P Fl P1 Fl1 hLK hyk hm hyv; go_upto_region 8 with fail
    refine zb (fun Z => zc Z wr.heap.size 59 #[.slice y.A y.row.length y.cap, .int .i64 y.w] /\ za wr Z) ⟨zc.new _ _ _, (za.refl wr).al _⟩ ?_; rintro Z ⟨Bz, Gz⟩; have BY := hh_ Bz; have BX := hh_ (B2.out.grow (hg.trans Gz)); have PZ := hh_ (P2.out.more Gz); have VZ := hh_ (HV.out.grow Gz); have GZ := G2.trans (hg.trans Gz); clear Bz c1 c2 P2 HV; generalize wr.heap.size = gp at *; have gW := za.refl Z; have PE := hh_ PZ.out; have lp : (0 : Nat) <= 400 := by omega
    have cpn := j7 (l.xs ++ r.xs) x T y.row y.A y.cap ⟨Ab, bs1, cb⟩ Z lb (fun z hz => kF fy.out (fb.out z hz)) ft.out (fun z hz => (re.out z hz).2.2) (HX.out.grow (GZ.trans gW)) (VZ.out.grow gW) (Hb.out.z.grow (GZ.trans gW)); rw [show S.z ⟨Ab, bs1, cb⟩ = bz from HB.out] at cpn; obtain ⟨has, hhas⟩ : ∃ t, qL x bz y.row = t := ⟨_, rfl⟩
    rw [hhas] at cpn; have HAS := hh_ (show qL x bz (zg y).1 = has from hhas); unfold E.val at cpn; clear hhas; obtain ⟨b3, f3⟩ := (BY.out.grow gW).rules; obtain ⟨bx, fx⟩ := (BX.out.grow gW).rules; go_upto_region 17 with (go_at_call 105; ((with_reducible refine cpn.mono ?_); rintro e w6 ⟨rfl, hg6⟩)); have P6 := hh_ (PE.out.more hg6); have G6 := gW.trans hg6; clear b3 f3 bx fx cpn PE; cases has with
    | false =>
     go_wp2; go_roundw
     case rel => exact x3_
     case measure => exact wa_
    | true =>
     have cpt := qW P6.out y.row y.A y.cap y.w (VZ.out.grow G6) u4_ vy.out u4_ u4_; obtain ⟨b3, f3⟩ := (BY.out.grow G6).rules
     go_wp2_with (go_at_call 56; ((with_reducible refine cpt.mono ?_); rintro e w7 ⟨v7, rfl, hp7, hg7⟩; have P7 := hh_ hp7; obtain ⟨Bv, nv, cv, rfl⟩ := hp7.slice; clear hp7))
     go_roundw
     case rel => exact xN_
     case measure => exact wa_
   ·obtain rfl : k = as1.length := by omega
    have P1 := P.out; rw [List.take_length, show as1.map zg = az from HA.out] at P1; obtain ⟨⟨B, ys, cap, e9, hz, hm, hk2⟩, hg', _⟩ := P1
    have ly9 : ys.length <= 9223372036854775807 := by
     have h1 := congrArg List.length hm; have h2 := xv (az.flatMap (xl 1 x r.xs.length bz)); have h3 := qd 1 x r.xs.length bz az; have h4 : az.length = as1.length := by rw [<- HA.out]; simp [S.z]
     have h5 := Nat.mul_le_mul (show az.length <= 400 by omega) (show bz.length + 1 <= 401 by omega); simp at h1; omega
    have cf := jV ys B cap wr ly9 hz hk2; rw [hm, <- EQ.out] at cf; simp only [Value.slice.injEq] at e9; obtain ⟨rfl, rfl, rfl⟩ := e9; clear hz hm hk2
    go_wp2_with (go_at_call 57; ((with_reducible refine cf.mono ?_); rintro en w5 ⟨C, zs, cap2, rfl, hz3, hm3, hk3, hg5⟩; have Out := hh_ (And.intro hz3 (And.intro hm3 hk3)); clear hz3 hm3 hk3))
    refine qX_ oX_ rfl ?_; exact ⟨C, zs, cap2, rfl, Out.out.1, Out.out.2.1, Out.out.2.2, G2.trans (hg.trans hg5)⟩
 ·exact wd_
theorem Dl (l r : L2 Int) (x : E) (a b : S) (w : World) (hll : l.xs.length <= 140737488355328) (hlr : r.xs.length <= 140737488355328) (hl : yD w l.A l.xs) (hr : yD w r.A r.xs) (hE : EX w x) (ha : In w a) (hb : In w b) :
  Calls Tryz.prog 60 #[.int .i64 2, .slice l.A l.xs.length l.cap, .slice r.A r.xs.length r.cap, x.val, .slice a.A a.xs.length a.cap, .slice b.A b.xs.length b.cap] w fun en w' => z0 w w' en (xY false l.xs r.xs x a.z b.z) := by
 obtain ⟨Aa, as1, ca⟩ := a; obtain ⟨Ab, bs1, cb⟩ := b; have HX := hh_ hE; have Ha := hh_ ha; have Hb := hh_ hb; have ct := fun W (hg : za w W) => Zq l r x ⟨Aa, as1, ca⟩ ⟨Ab, bs1, cb⟩ W hll hlr (hl.grow hg) (hr.grow hg) (hE.grow hg) (ha.grow hg) (hb.grow hg)
 obtain ⟨bz, hbz⟩ : ∃ z, S.z ⟨Ab, bs1, cb⟩ = z := ⟨_, rfl⟩
 obtain ⟨az, haz⟩ : ∃ z, S.z ⟨Aa, as1, ca⟩ = z := ⟨_, rfl⟩
 obtain ⟨E2, hE2⟩ : ∃ e, x5 l.xs r.xs x az bz = e := ⟨_, rfl⟩
 rw [haz, hbz, hE2] at ct; obtain ⟨Q, hQ⟩ : ∃ Q, xY false l.xs r.xs x az bz = Q := ⟨_, rfl⟩
 rw [haz, hbz, hQ]
 have fin : Q = if E2 ≠ 0 then ([], E2) else qj (yC (az.flatMap (xl 2 x r.xs.length bz))) := by
  rw [<- hQ]; unfold xY; rw [hE2]
  by_cases h0 : E2 = 0
  ·rw [if_neg uI_, if_neg uI_]; rw [FU]; rfl
  ·exact yP_
 have Fin := hh_ fin; have H2 := hh_ hE2; have HA := hh_ haz; have HB := hh_ hbz; clear hl hr hE ha hb hE2 hQ fin haz hbz; unfold E.val at *; go_enter Tryz.func60, Tryz.ntmps60; go_upto_region 1 with fail
 refine zb (fun X => zc X w.heap.size 27 (Ed x) /\ za w X) ⟨zc.new _ _ _, (za.refl _).al _⟩ ?_; generalize w.heap.size = g1; rintro X ⟨Bx, G⟩; obtain ⟨bx, fx⟩ := Bx.rules
 by_cases h0 : E2 = 0
 ·subst h0; have eQ : Q = qj (yC (az.flatMap (xl 2 x r.xs.length bz))) := by rw [Fin.out]; simp
  have EQ := hh_ eQ; clear eQ; go_upto_region 4 with (go_at_call 103; ((with_reducible refine (ct _ G).mono ?_); rintro e w2 ⟨rfl, hg2⟩)); have G2 := G.trans hg2; have ok := Xp (l := l.xs) (r := r.xs) (x := x) (a := ⟨Aa, as1, ca⟩) (b := ⟨Ab, bs1, cb⟩) v8_; obtain ⟨h8, hcond, hia, hib⟩ := xL H2.out; obtain ⟨T, hok⟩ := xk (qA hcond).1; have ft := hh_ hok.ty; have fa := hh_ (show ∀ y ∈ as1, ja l.xs y.row from fun y hy => (yo _ _).1 ((zt hia).2.2 (zg y) vm_)); have fb := hh_ (show ∀ y ∈ bs1, ja r.xs y.row from fun y hy => (yo _ _).1 ((zt hib).2.2 (zg y) vn_)); have la : as1.length <= 400 := ok.la; have lb : bs1.length <= 400 := ok.lb; have Ok := hh_ ok; have B2 := hh_ (Bx.grow hg2); have lbz : bz.length = bs1.length := by rw [<- HB.out]; simp [S.z]
  clear ct bx fx ok hcond hia hib hok Bx; go_wp2
  go_loopw [15, 34] (fun t i wr => ∃ k : Nat, k <= as1.length /\ i = .int .i64 k /\ xB w2 wr t (((as1.take k).map zg).flatMap (xl 2 x r.xs.length bz))) (fun _ i _ => as1.length - (intOf i).toNat)
  case atStart => exact xs_
  case round =>
   rename World => wr
   obtain ⟨k, hk, rfl, hp⟩ := hrel; obtain ⟨Bt, nt, ct, rfl⟩ := hp.slice; have P := hh_ hp; have hg := hp.grow; clear hp
   by_cases hlt : k < as1.length
   ·obtain ⟨y, hyk⟩ : ∃ y, as1[k]? = some y := ⟨_, qQ_ hlt⟩
    obtain ⟨gx2, ox2, rfl, c1, c2, hyv⟩ := (Ha.out.z.grow (G2.trans hg)) k y hyk; have hm := qZ_ hyk; have ly := Ok.out.ra y hm; have fy := hh_ (fa.out y hm); have wy := Ok.out.wa y hm; have vy := hh_ (Ok.out.va y hm); have Fl := hh_ (Xg (f := xl 2 x r.xs.length bz) hyk); have HV := hh_ hyv; have re := hh_ (Ok.out.re y hm); have lpz : (yF x (zg y) bz).length <= 400 := by unfold yF; rw [List.length_map]; have := List.length_filter_le (fun r => yi x ((zg y).1 ++ r.1)) bz; omega
    obtain ⟨LK, hLK⟩ : ∃ L, ((as1.take k).map zg).flatMap (xl 2 x r.xs.length bz) = L := ⟨_, rfl⟩
    have lk : LK.length <= 160400 := by
     rw [<- hLK]; have h1 := qd 2 x r.xs.length bz ((as1.take k).map zg); have h2 : ((as1.take k).map zg).length <= 400 := by simp; omega
     have h3 := Nat.mul_le_mul h2 (show bz.length + 1 <= 401 by omega); omega
    have P1 := P.out; have Fl1 := Fl.out; rw [hLK] at P1 Fl1; have P2 := hh_ P1; have Fl2 := hh_ Fl1; clear P Fl P1 Fl1 hLK hyk hm hyv; go_upto_region 8 with fail
    refine zb (fun Z => zc Z wr.heap.size 59 #[.slice y.A y.row.length y.cap, .int .i64 y.w] /\ za wr Z) ⟨zc.new _ _ _, (za.refl wr).al _⟩ ?_; rintro Z ⟨Bz, Gz⟩; have BY := hh_ Bz; have BX := hh_ (B2.out.grow (hg.trans Gz)); have PZ := hh_ (P2.out.more Gz); have VZ := hh_ (HV.out.grow Gz); have GZ := G2.trans (hg.trans Gz); clear Bz c1 c2 P2 HV; generalize wr.heap.size = gp at *; have gW := za.refl Z; have PE := hh_ PZ.out; have lp : (0 : Nat) <= 400 := by omega
    have cpn := j7 (l.xs ++ r.xs) x T y.row y.A y.cap ⟨Ab, bs1, cb⟩ Z lb (fun z hz => kF fy.out (fb.out z hz)) ft.out (fun z hz => (re.out z hz).2.2) (HX.out.grow (GZ.trans gW)) (VZ.out.grow gW) (Hb.out.z.grow (GZ.trans gW)); rw [show S.z ⟨Ab, bs1, cb⟩ = bz from HB.out] at cpn; obtain ⟨has, hhas⟩ : ∃ t, qL x bz y.row = t := ⟨_, rfl⟩
    rw [hhas] at cpn; have HAS := hh_ (show qL x bz (zg y).1 = has from hhas); unfold E.val at cpn; clear hhas; obtain ⟨b3, f3⟩ := (BY.out.grow gW).rules; obtain ⟨bx, fx⟩ := (BX.out.grow gW).rules; go_upto_region 17 with (go_at_call 105; ((with_reducible refine cpn.mono ?_); rintro e w6 ⟨rfl, hg6⟩)); have P6 := hh_ (PE.out.more hg6); have G6 := gW.trans hg6; clear b3 f3 bx fx cpn PE; cases has with
    | false =>
     have cpt := qW P6.out y.row y.A y.cap y.w (VZ.out.grow G6) u4_ vy.out u4_ u4_; obtain ⟨b3, f3⟩ := (BY.out.grow G6).rules
     go_wp2_with (go_at_call 56; ((with_reducible refine cpt.mono ?_); rintro e w7 ⟨v7, rfl, hp7, hg7⟩; have P7 := hh_ hp7; obtain ⟨Bv, nv, cv, rfl⟩ := hp7.slice; clear hp7))
     go_roundw
     case rel => exact xN_
     case measure => exact wa_
    | true =>
     go_wp2; go_roundw
     case rel => exact x3_
     case measure => exact wa_
   ·obtain rfl : k = as1.length := by omega
    have P1 := P.out; rw [List.take_length, show as1.map zg = az from HA.out] at P1; obtain ⟨⟨B, ys, cap, e9, hz, hm, hk2⟩, hg', _⟩ := P1
    have ly9 : ys.length <= 9223372036854775807 := by
     have h1 := congrArg List.length hm; have h2 := xv (az.flatMap (xl 2 x r.xs.length bz)); have h3 := qd 2 x r.xs.length bz az; have h4 : az.length = as1.length := by rw [<- HA.out]; simp [S.z]
     have h5 := Nat.mul_le_mul (show az.length <= 400 by omega) (show bz.length + 1 <= 401 by omega); simp at h1; omega
    have cf := jV ys B cap wr ly9 hz hk2; rw [hm, <- EQ.out] at cf; simp only [Value.slice.injEq] at e9; obtain ⟨rfl, rfl, rfl⟩ := e9; clear hz hm hk2
    go_wp2_with (go_at_call 57; ((with_reducible refine cf.mono ?_); rintro en w5 ⟨C, zs, cap2, rfl, hz3, hm3, hk3, hg5⟩; have Out := hh_ (And.intro hz3 (And.intro hm3 hk3)); clear hz3 hm3 hk3))
    refine qX_ oX_ rfl ?_; exact ⟨C, zs, cap2, rfl, Out.out.1, Out.out.2.1, Out.out.2.2, G2.trans (hg.trans hg5)⟩
 ·exact wd_
theorem Dn (l r : L2 Int) (x : E) (a b : S) (w : World) (hll : l.xs.length <= 140737488355328) (hlr : r.xs.length <= 140737488355328) (hl : yD w l.A l.xs) (hr : yD w r.A r.xs) (hE : EX w x) (ha : In w a) (hb : In w b) :
  Calls Tryz.prog 60 #[.int .i64 3, .slice l.A l.xs.length l.cap, .slice r.A r.xs.length r.cap, x.val, .slice a.A a.xs.length a.cap, .slice b.A b.xs.length b.cap] w fun en w' => z0 w w' en (XQ l.xs r.xs x a.z b.z) := by
 obtain ⟨Aa, as1, ca⟩ := a; obtain ⟨Ab, bs1, cb⟩ := b; have HX := hh_ hE; have Ha := hh_ ha; have Hb := hh_ hb; have ct := fun W (hg : za w W) => Zq l r x ⟨Aa, as1, ca⟩ ⟨Ab, bs1, cb⟩ W hll hlr (hl.grow hg) (hr.grow hg) (hE.grow hg) (ha.grow hg) (hb.grow hg)
 obtain ⟨bz, hbz⟩ : ∃ z, S.z ⟨Ab, bs1, cb⟩ = z := ⟨_, rfl⟩
 obtain ⟨az, haz⟩ : ∃ z, S.z ⟨Aa, as1, ca⟩ = z := ⟨_, rfl⟩
 obtain ⟨E2, hE2⟩ : ∃ e, x5 l.xs r.xs x az bz = e := ⟨_, rfl⟩
 rw [haz, hbz, hE2] at ct; obtain ⟨Q, hQ⟩ : ∃ Q, XQ l.xs r.xs x az bz = Q := ⟨_, rfl⟩
 rw [haz, hbz, hQ]
 have fin : Q = if E2 ≠ 0 then ([], E2) else qj (yC (az.flatMap (xl 3 x r.xs.length bz))) := by
  rw [<- hQ]; unfold XQ; rw [hE2]
  by_cases h0 : E2 = 0
  ·rw [if_neg uI_, if_neg uI_]; rw [FV (by rw [hE2, h0])]; rfl
  ·exact yP_
 have Fin := hh_ fin; have H2 := hh_ hE2; have HA := hh_ haz; have HB := hh_ hbz; clear hl hr hE ha hb hE2 hQ fin haz hbz; unfold E.val at *; go_enter Tryz.func60, Tryz.ntmps60; go_upto_region 1 with fail
 refine zb (fun X => zc X w.heap.size 27 (Ed x) /\ za w X) ⟨zc.new _ _ _, (za.refl _).al _⟩ ?_; generalize w.heap.size = g1; rintro X ⟨Bx, G⟩; obtain ⟨bx, fx⟩ := Bx.rules
 by_cases h0 : E2 = 0
 ·subst h0; have eQ : Q = qj (yC (az.flatMap (xl 3 x r.xs.length bz))) := by rw [Fin.out]; simp
  have EQ := hh_ eQ; clear eQ; go_upto_region 4 with (go_at_call 103; ((with_reducible refine (ct _ G).mono ?_); rintro e w2 ⟨rfl, hg2⟩)); have G2 := G.trans hg2; have ok := Xp (l := l.xs) (r := r.xs) (x := x) (a := ⟨Aa, as1, ca⟩) (b := ⟨Ab, bs1, cb⟩) v8_; obtain ⟨h8, hcond, hia, hib⟩ := xL H2.out; obtain ⟨T, hok⟩ := xk (qA hcond).1; have ft := hh_ hok.ty; have fa := hh_ (show ∀ y ∈ as1, ja l.xs y.row from fun y hy => (yo _ _).1 ((zt hia).2.2 (zg y) vm_)); have fb := hh_ (show ∀ y ∈ bs1, ja r.xs y.row from fun y hy => (yo _ _).1 ((zt hib).2.2 (zg y) vn_)); have la : as1.length <= 400 := ok.la; have lb : bs1.length <= 400 := ok.lb; have Ok := hh_ ok; have B2 := hh_ (Bx.grow hg2); have lbz : bz.length = bs1.length := by rw [<- HB.out]; simp [S.z]
  clear ct bx fx ok hcond hia hib hok Bx; go_wp2
  go_loopw [15, 34] (fun t i wr => ∃ k : Nat, k <= as1.length /\ i = .int .i64 k /\ xB w2 wr t (((as1.take k).map zg).flatMap (xl 3 x r.xs.length bz))) (fun _ i _ => as1.length - (intOf i).toNat)
  case atStart => exact xs_
  case round =>
   rename World => wr
   obtain ⟨k, hk, rfl, hp⟩ := hrel; obtain ⟨Bt, nt, ct, rfl⟩ := hp.slice; have P := hh_ hp; have hg := hp.grow; clear hp
   by_cases hlt : k < as1.length
   ·obtain ⟨y, hyk⟩ : ∃ y, as1[k]? = some y := ⟨_, qQ_ hlt⟩
    obtain ⟨gx2, ox2, rfl, c1, c2, hyv⟩ := (Ha.out.z.grow (G2.trans hg)) k y hyk; have hm := qZ_ hyk; have ly := Ok.out.ra y hm; have fy := hh_ (fa.out y hm); have wy := Ok.out.wa y hm; have vy := hh_ (Ok.out.va y hm); have Fl := hh_ (Xg (f := xl 3 x r.xs.length bz) hyk); have HV := hh_ hyv; have re := hh_ (Ok.out.re y hm); have lpz : (yF x (zg y) bz).length <= 400 := by unfold yF; rw [List.length_map]; have := List.length_filter_le (fun r => yi x ((zg y).1 ++ r.1)) bz; omega
    obtain ⟨LK, hLK⟩ : ∃ L, ((as1.take k).map zg).flatMap (xl 3 x r.xs.length bz) = L := ⟨_, rfl⟩
    have lk : LK.length <= 160400 := by
     rw [<- hLK]; have h1 := qd 3 x r.xs.length bz ((as1.take k).map zg); have h2 : ((as1.take k).map zg).length <= 400 := by simp; omega
     have h3 := Nat.mul_le_mul h2 (show bz.length + 1 <= 401 by omega); omega
    have P1 := P.out; have Fl1 := Fl.out; rw [hLK] at P1 Fl1; have P2 := hh_ P1; have Fl2 := hh_ Fl1; clear P Fl P1 Fl1 hLK hyk hm hyv; go_upto_region 8 with fail
    refine zb (fun Z => zc Z wr.heap.size 59 #[.slice y.A y.row.length y.cap, .int .i64 y.w] /\ za wr Z) ⟨zc.new _ _ _, (za.refl wr).al _⟩ ?_; rintro Z ⟨Bz, Gz⟩; have BY := hh_ Bz; have BX := hh_ (B2.out.grow (hg.trans Gz)); have PZ := hh_ (P2.out.more Gz); have VZ := hh_ (HV.out.grow Gz); have GZ := G2.trans (hg.trans Gz); clear Bz c1 c2 P2 HV; generalize wr.heap.size = gp at *; go_wp2
    go_loopw [15, 46] (fun t i W => ∃ k2 : Nat, k2 <= bs1.length /\ i = .int .i64 k2 /\ xB w2 W t (LK ++ yF x (zg y) ((bs1.take k2).map zg)) /\ za Z W) (fun _ i _ => bs1.length - (intOf i).toNat)
    case atStart => exact yz_
    case round =>
     rename World => W1
     obtain ⟨k2, hk2, rfl, hp2, gW⟩ := hrel; obtain ⟨Bs, ns, cs, rfl⟩ := hp2.slice; have PW := hh_ hp2; have lp : (yF x (zg y) ((bs1.take k2).map zg)).length <= 400 := by unfold yF; rw [List.length_map]; have := List.length_filter_le (fun r => yi x ((zg y).1 ++ r.1)) ((bs1.take k2).map zg); rw [List.length_map, List.length_take] at this; omega
     clear hp2
     by_cases hlt2 : k2 < bs1.length
     ·exact u7_
     ·obtain rfl : k2 = bs1.length := by omega
      have PW2 := PW.out; rw [List.take_length, show bs1.map zg = bz from HB.out] at PW2; have PE := hh_ PW2; clear PW2 PW lp; have cpn := j7 (l.xs ++ r.xs) x T y.row y.A y.cap ⟨Ab, bs1, cb⟩ W1 lb (fun z hz => kF fy.out (fb.out z hz)) ft.out (fun z hz => (re.out z hz).2.2) (HX.out.grow (GZ.trans gW)) (VZ.out.grow gW) (Hb.out.z.grow (GZ.trans gW)); rw [show S.z ⟨Ab, bs1, cb⟩ = bz from HB.out] at cpn; obtain ⟨has, hhas⟩ : ∃ t, qL x bz y.row = t := ⟨_, rfl⟩
      rw [hhas] at cpn; have HAS := hh_ (show qL x bz (zg y).1 = has from hhas); unfold E.val at cpn; clear hhas; obtain ⟨b3, f3⟩ := (BY.out.grow gW).rules; obtain ⟨bx, fx⟩ := (BX.out.grow gW).rules; go_upto_region 17 with (go_at_call 105; ((with_reducible refine cpn.mono ?_); rintro e w6 ⟨rfl, hg6⟩)); have P6 := hh_ (PE.out.more hg6); have G6 := gW.trans hg6; clear b3 f3 bx fx cpn PE; cases has with
      | false =>
       have cb4 := kB y.row [] y.A none y.cap 0 w6 uV_ (VZ.out.grow G6) (fun i v hv => by simp at hv); simp only [List.length_nil, List.append_nil] at cb4; obtain ⟨b3, f3⟩ := (BY.out.grow G6).rules; go_upto_region 21 with (go_at_call 104; (with_reducible refine cb4.mono ?_); rintro e w7 ⟨B, cap, rfl, own7, hg7⟩); have Own7 := hh_ own7; clear b3 f3 cb4 own7; have lr8 : r.xs.length <= 8 := by omega
       have hwp : IntKind.i64.wrap ((y.row.length : Int) + (r.xs.length : Int)) = ((y.row.length + r.xs.length : Nat) : Int) := by rw [IntKind.wrap_i64]; omega
       go_wp2
       go_loopw [22] (fun t W => ∃ j : Nat, j <= r.xs.length /\ W.ownsRow w6.heap.size 24 3 t (y.row.length + j) (zF (y.row ++ List.replicate j zR)) /\ za w6 W) (fun t _ => y.row.length + r.xs.length - FK t)
       case atStart => exact ⟨0, Nat.zero_le _, by simpa using Own7.out, hg7⟩
       case round =>
        rename World => W2
        obtain ⟨j, hj, ownr, hgr⟩ := hrel; obtain ⟨Bj, capj, rfl⟩ := yg ownr; have OwnR1 := hh_ ownr; clear ownr; obtain ⟨b3, f3⟩ := (BY.out.grow (G6.trans hgr)).rules
        by_cases hlt3 : j < r.xs.length
        ·have d3 : decide (((y.row.length + j : Nat) : Int) < ((y.row.length + r.xs.length : Nat) : Int)) = true := decide_eq_true u4_; have sz := hgr.size
         go_wp2_with (first
          | (go_at_call 106; ((with_reducible refine (yt _).mono ?_); rintro e w8 ⟨rfl, hg8⟩; have Own8 := hh_ (zh OwnR1.out hg8); have sz8 := hg8.size))
          | (at_builtin; refine yx rfl _ _ rfl w6.heap.size _ _ _ rfl (Own8.out.alloc _) _ [zR] rfl (Zx (zc.new _ _ _)) uV_ uV_ ?_; intro v9 w9 own9 gr9; obtain ⟨B9, cap9, rfl⟩ := yg own9))
         have G9 : za w6 w9 := zp (((hgr.trans hg8)).al _) gr9 (Own8.out.alloc _); have Own9 := hh_ own9; clear own9 gr9; go_roundw
         case rel => exact ⟨j + 1, by omega, by rw [List.replicate_succ', <- List.append_assoc]; simpa [Nat.add_assoc] using Own9.out, G9⟩
         case measure => simp [FK]; omega
        ·obtain rfl : j = r.xs.length := by omega
         have d3 : decide (((y.row.length + r.xs.length : Nat) : Int) < ((y.row.length + r.xs.length : Nat) : Int)) = false := decide_eq_false u4_; obtain ⟨q, hq⟩ : ∃ q, y.row ++ List.replicate r.xs.length zR = q := ⟨_, rfl⟩
         have lq : y.row.length + r.xs.length = q.length := by rw [<- hq]; simp
         have vq : ∀ v ∈ q, RV v := fun v hv => by
          rw [<- hq] at hv; rcases List.mem_append.1 hv with hv | hv
          ·exact vy.out v hv
          ·exact yv_
         have own := OwnR1.out; rw [hq, lq] at own; have hvq := WJ own; have cpt := qW (P6.out.more hgr) q Bj capj y.w hvq u4_ vq u4_ ue_; have HQ := hh_ hq; have VQ := hh_ vq; clear own hvq hq vq
         go_wp2_with (go_at_call 56; ((with_reducible refine cpt.mono ?_); rintro e w8 ⟨v8, rfl, hp8, hg8⟩; have P8 := hh_ hp8; obtain ⟨Bv, nv, cv, rfl⟩ := hp8.slice; clear hp8))
         go_roundw
         case rel => exact ⟨k + 1, by omega, by go_num, by rw [Fl2.out]; unfold xl; simp only; rw [HAS.out]; simp only [Bool.false_eq_true, if_false]; rw [<- List.append_assoc]; have h := P8.out; rw [<- HQ.out] at h; exact h⟩
         case measure => exact wa_
      | true =>
       go_wp2; go_roundw
       case rel => exact ⟨k + 1, by omega, by go_num, by rw [Fl2.out]; unfold xl; simp only; rw [HAS.out]; simpa using P6.out⟩
       case measure => exact wa_
   ·obtain rfl : k = as1.length := by omega
    have P1 := P.out; rw [List.take_length, show as1.map zg = az from HA.out] at P1; obtain ⟨⟨B, ys, cap, e9, hz, hm, hk2⟩, hg', _⟩ := P1
    have ly9 : ys.length <= 9223372036854775807 := by
     have h1 := congrArg List.length hm; have h2 := xv (az.flatMap (xl 3 x r.xs.length bz)); have h3 := qd 3 x r.xs.length bz az; have h4 : az.length = as1.length := by rw [<- HA.out]; simp [S.z]
     have h5 := Nat.mul_le_mul (show az.length <= 400 by omega) (show bz.length + 1 <= 401 by omega); simp at h1; omega
    have cf := jV ys B cap wr ly9 hz hk2; rw [hm, <- EQ.out] at cf; simp only [Value.slice.injEq] at e9; obtain ⟨rfl, rfl, rfl⟩ := e9; clear hz hm hk2
    go_wp2_with (go_at_call 57; ((with_reducible refine cf.mono ?_); rintro en w5 ⟨C, zs, cap2, rfl, hz3, hm3, hk3, hg5⟩; have Out := hh_ (And.intro hz3 (And.intro hm3 hk3)); clear hz3 hm3 hk3))
    refine qX_ oX_ rfl ?_; exact ⟨C, zs, cap2, rfl, Out.out.1, Out.out.2.1, Out.out.2.2, G2.trans (hg.trans hg5)⟩
 ·exact wd_
