/-
 A text of the proof of the law FixClosed; no condition beside the row's own.
-/
import Derived.Test.YtcaedcpjdmlilaaGreatGFc
set_option maxRecDepth 100000
set_option maxHeartbeats 4000000
namespace Go.Proofs.YtcaedcpjdmlilaaGreat
open Go.RowKit Go.Calm
set_option linter.unusedSimpArgs false
set_option linter.unusedVariables false
theorem zcq {ts : List (L2 Int)} {p : PL} {ds : List S} {a : List Z} (h : yS (zh ts) p (ds.map S.z) = (a, 0)) : ts.length <= 8 /\ ds.length = ts.length := by
 unfold yS at h; split at h
 ·rename_i h1; exact absurd (Prod.mk.inj h).2 h1
 ·rename_i h1; split at h
  ·rename_i h2; exact absurd (Prod.mk.inj h).2 h2
  ·rename_i h2; refine ⟨?_, ?_⟩
   ·have h3 : (zi (zh ts) p).2 = 0 := by simpa using h1
    unfold zi at h3; split at h3
    ·simp at h3
    ·rename_i h4; simp at h4; omega
   ·have h3 : qD (zh ts) (ds.map S.z) = 0 := by simpa using h2
    unfold qD at h3; split at h3
    ·simp at h3
    ·rename_i h5; simp at h5; omega
theorem zb8 {a b : List Z} {A B : Option Addr} {xs ys : List I} {c d : Nat} {w : World} (da : D1 a) (db : D1 b) (hza : xF w A xs) (hma : xs.map zj = a) (hka : yw A xs.length c) (hzb : xF w B ys) (hmb : ys.map zj = b) (hkb : yw B ys.length d) :
  Calls Tryz.prog 23 #[.slice A xs.length c, .slice B ys.length d] w fun en w' => en = .returned (.bool (Y4 a b)) /\ za w w' := by
 have cw := Np ⟨A, xs, c⟩ ⟨B, ys, d⟩ w (In.sml hza hka (by rw [hma]; exact da.sml)) (In.sml hzb hkb (by rw [hmb]; exact db.sml)) (by show zu (ys.map zj) = 0; rw [hmb]; exact db.w) (fun x hx => by
  rw [YR]; have h1 : zj x ∈ a := by rw [<- hma]; exact List.mem_map_of_mem hx
  exact (jS ⟨da.c, da.w⟩).2 _ h1)
 subst hma hmb; exact cw
theorem zb5 (ts : List (L2 Int)) (At : Option Addr) (nt : Nat) (p q : PL) (ds : List S) (Ad : Option Addr) (nd : Nat) (w : World) (hlt : ts.length <= zz) (hl : ∀ t ∈ ts, t.xs.length <= zz) (hts : Nr w At ts) (hp : PX w p) (hq : PX w q) (hds : Ro w Ad ds nd) :
  Calls Tryz.prog 6 #[.slice At ts.length nt, p.val, q.val, .slice Ad ds.length nd] w fun en w' => en = .returned (.bool true) /\ za w w' := by
 have HTS := Lib.hid hts; have HP := Lib.hid hp; have HQ := Lib.hid hq; have HDS := Lib.hid hds; have HL := Lib.hid (And.intro hlt hl); obtain ⟨a1, m1, q1, hF1⟩ : ∃ a m e, WU (zh ts) p q (ds.map S.z) = (a, m, e) := ⟨_, _, _, rfl⟩
 have cx := fun W (h : za w W) => MA ts At nt p q ds Ad nd W hlt hl (hts.grow h) (hp.grow h) (hq.grow h) (hds.grow h)
 have cc := fun W (h : za w W) => jR ts At nt p W hlt hl (hts.grow h) (hp.grow h)
 have c2 := fun W (h : za w W) => YQ ts At nt p ds Ad nd W hlt hl (hts.grow h) (hp.grow h) (hds.grow h)
 obtain ⟨C, EC9, hC⟩ : ∃ C e, zi (zh ts) p = (C, e) := ⟨_, _, rfl⟩
 rw [hF1] at cx; rw [hC] at cc; unfold Mn at cx; unfold Zi at cc; unfold yu at c2; unfold PL.val at cx cc c2; simp only at cx cc c2; have CX := Lib.hid cx; have CC := Lib.hid cc; have C2 := Lib.hid c2; have HF := Lib.hid hF1; have HC := Lib.hid hC; unfold PL.val; clear cx cc c2 hts hp hq hds hlt hl hF1 hC; go_enter Tryz.func6, Tryz.ntmps6; go_upto_region 3 with (go_at_call 21; ((with_reducible refine (Ey _).mono ?_); rintro e w2 ⟨rfl, hg2⟩)); refine zc (fun X => zb X w.heap.size 31 (pC p) /\ zb X (w.heap.size + 1) 31 (pC q) /\ za w X) ⟨((zb.new w _ _).al _).grow hg2, (zb.new' _ _ _ (by simp)).grow hg2, za.trans (by with_reducible repeat (first | exact za.refl _ | assumption | refine za.set ?_ (by simp <;> omega) _ | refine za.al ?_ _ | refine za.drew ?_ | refine za.drewN ?_ _ | refine za.trans ?_ (by assumption))) hg2⟩ ?_; rintro X ⟨BP0, BQ0, G⟩; have BP := Lib.hid BP0; have BQ := Lib.hid BQ0; obtain ⟨bp, fp⟩ := BP0.rules; obtain ⟨bq, fq⟩ := BQ0.rules; have lp := BP0.lt; have lq := BQ0.lt; clear BP0 BQ0 hg2; generalize w.heap.size = gx at *; go_upto_region 4 with (go_at_call 17; ((refine (CX.out _ G).mono ?_); rintro en w4 ⟨Bz, ysz, capz, rfl, hz4, hm4, hk4, hg4⟩)); have O4 := Lib.hid (And.intro hz4 (And.intro hm4 hk4)); clear bp fp bq fq lp lq hz4 hm4 hk4
 by_cases e1 : q1 = 0
 ·subst e1; obtain ⟨f1, g1, s1, d1, k1, k2, k3, k4, k5, k6⟩ := zb3 HF.out; have SM := Lib.hid (zcq k1); have HK := Lib.hid (And.intro k1 (And.intro k2 (And.intro k3 (And.intro k4 (And.intro k5 k6))))); have D1a := Lib.hid (BL HF.out); clear k1 k2 k3 k4 k5 k6; obtain ⟨bp, fp⟩ := (BP.out.grow hg4).rules; have lp := (BP.out.grow hg4).lt; go_upto_region 7 with (go_at_call 11; ((refine (CC.out _ (G.trans hg4)).mono ?_); rintro en Y ⟨B5, cap5, rfl, hi5, hn5, hg5⟩)); have GY := G.trans (hg4.trans hg5); have TY9 := Lib.hid (HTS.out.grow GY); have DY9 := Lib.hid (HDS.out.grow GY); have BQY := Lib.hid (BQ.out.grow (hg4.trans hg5)); have i4 : In Y ⟨Bz, ysz, capz⟩ := (In.sml O4.out.1 O4.out.2.2 (by rw [O4.out.2.1]; exact D1a.out.sml)).grow hg5; obtain ⟨es1, hes1⟩ : ∃ e : Int, e = 0 := ⟨_, rfl⟩
  obtain ⟨TL, hTL⟩ : ∃ L, L = ts.map vL ++ [Value.slice B5 C.length cap5] := ⟨_, rfl⟩
  obtain ⟨DL9, hDL⟩ : ∃ L, L = ds.map S.v' ++ [Value.slice Bz ysz.length capz] := ⟨_, rfl⟩
  have ce : ∀ W, za Y W -> ∀ v u, PRw 33 Y.heap.size TL v W -> PRw 38 Y.heap.size DL9 u W -> Calls Tryz.prog 14 #[v, q.val, u] W fun en w' => yu W w' en (s1, es1) := fun W h v u hv hu => by
   have hC8 : C.length <= 8 := by have := Zw (zh ts) p; rw [HC.out] at this; exact this
   have h9 := zb6 ts ⟨B5, C, cap5⟩ q ds ⟨Bz, ysz, capz⟩ W SM.out.1 (fun t ht => by
    rcases List.mem_append.1 ht with ht | ht
    ·obtain ⟨i, hi, e⟩ := List.mem_iff_getElem.1 ht; obtain ⟨g, o, _, _, h3⟩ := (TY9.out.grow h) i t (by rw [<- e]; exact List.getElem?_eq_getElem hi); exact ⟨HL.out.2 t ht, h3⟩
    ·simp at ht; subst ht; exact ⟨by unfold zz; show C.length <= _; omega, hi5.grow h⟩) (HQ.out.grow (GY.trans h)) (by have := SM.out; omega) (fun s hs => by
    rcases List.mem_append.1 hs with hs | hs
    ·exact (DY9.out.each s hs).grow h
    ·simp at hs; subst hs; exact i4.grow h) (TL := TL) (DL9 := DL9) (by rw [hTL]; simp) (by rw [hDL]; simp [S.v']) hv hu
   have e9 : yS (zh (ts ++ [(⟨B5, C, cap5⟩ : L2 Int)])) q ((ds ++ [(⟨Bz, ysz, capz⟩ : S)]).map S.z) = (s1, es1) := by
    have k3 := HK.out.2.2.1; rw [HC.out] at k3; rw [hes1, <- k3, <- O4.out.2.1]; simp [S.z]
   rw [e9] at h9; exact h9
  unfold yu PL.val at ce; have CE := Lib.hid ce; have TLe := Lib.hid hTL; have DLe := Lib.hid hDL; have HE0 := Lib.hid hes1; clear hes1 ce hTL hDL hi5 hn5 i4 bp fp lp; have hR := GM.isR (base := Y.heap.size) (MR9.abs ts.length (fTZ (.slice B5 C.length cap5) (.slice Bz ysz.length capz))); apply CalmR.wp_region_calm hR 19 (by kernel_rfl) (by kernel_rfl)
  case h' =>
   intro Q0 hQ0; simp only [List.take_succ_cons, List.take_zero]; apply CalmR.calm_fp (E0w 33 Y.heap.size) rfl
   case h1 =>
    intro w1 hw1 hF K hK; have := hw1.size; go_simp; exact hK _ _ (GM.of (by omega) ((za.refl _).al _)) ⟨_, rfl, by omega, zb.new _ _ _⟩
   intro v0 K hK; go_simp; apply hK; clear hK K
   repeat ((apply CalmR.calm_p rfl; case h1 => (intro w1 hw1 hF K hK; obtain ⟨x2, y2⟩ := (BQY.out.grow (GM.grow (za.refl Y) (Nat.le_refl _) hw1)).rules; go_simp; exact hK _ (GM.refl _))); intro K hK; go_simp; apply hK; clear hK K)
   apply CalmR.calm_fp (PRw 33 Y.heap.size (ts.map vL)) rfl
   case h1 =>
    intro w1 hw1 hF K hK; obtain ⟨g, hv, hlo, hb⟩ := hF _ (List.mem_cons_self ..) ⟨_, rfl, by decide⟩; subst hv; have sz1 := hw1.size; obtain ⟨v', w', hr, hp1, hg'⟩ := zbs YS 22 (ts.map vL) (fun u hu => by obtain ⟨s, _, rfl⟩ := List.mem_map.1 hu; exact ⟨_, _, _, rfl⟩) (by simp; have := SM.out.1; omega) (zcb (TY9.out.grow (GM.grow (za.refl Y) (Nat.le_refl _) hw1)) nt) hb hlo; exact zaf (.tmp 44) (.tmp 45) 22 rfl 22 rfl _ _ rfl rfl v' w' hr (hK _ _ (GM.of sz1 hg') hp1)
   intro v1 K hK; go_simp; apply hK; clear hK K
   repeat ((apply CalmR.calm_p rfl; case h1 => (intro w1 hw1 hF K hK; obtain ⟨x2, y2⟩ := (BQY.out.grow (GM.grow (za.refl Y) (Nat.le_refl _) hw1)).rules; go_simp; exact hK _ (GM.refl _))); intro K hK; go_simp; apply hK; clear hK K)
   apply CalmR.calm_fp (zbU 33 (.slice B5 C.length cap5)) rfl
   case h1 =>
    intro w1 hw1 hF K hK; have := hw1.size; go_simp; exact hK _ _ (GM.of (by omega) ((za.refl _).al _)) ⟨_, rfl, zb.new _ _ _⟩
   intro v2 K hK; go_simp; apply hK; clear hK K; apply CalmR.calm_fp (PRw 33 Y.heap.size TL) rfl
   case h1 =>
    intro w1 hw1 hF K hK; obtain ⟨g1, hv1, hb1⟩ := hF _ (List.mem_cons_self ..) ⟨_, rfl, by decide⟩; have hp := hF _ (List.mem_cons_of_mem _ (List.mem_cons_self ..)) ⟨_, rfl, by decide⟩; subst hv1; have sz1 := hw1.size; obtain ⟨v', w', hr, hp1, hg'⟩ := zbt (n := ts.length) (f := fTZ (.slice B5 C.length cap5) (.slice Bz ysz.length capz)) YS 22 hp (by simp) (by have := SM.out.1; omega) (fun u hu => by obtain ⟨s, _, rfl⟩ := List.mem_map.1 hu; exact ⟨_, _, _, rfl⟩) (by rw [zaB]; exact ⟨_, _, _, rfl⟩) (by rw [zaB]; exact hb1) sz1; rw [zaB, <- TLe.out] at hp1; exact zaf (.tmp 46) (.tmp 48) 22 rfl 22 rfl _ _ rfl rfl v' w' hr (hK _ _ hg' hp1)
   intro v3 K hK; go_simp; apply hK; clear hK K
   repeat ((apply CalmR.calm_p rfl; case h1 => (intro w1 hw1 hF K hK; obtain ⟨x2, y2⟩ := (BQY.out.grow (GM.grow (za.refl Y) (Nat.le_refl _) hw1)).rules; go_simp; exact hK _ (GM.refl _))); intro K hK; go_simp; apply hK; clear hK K)
   apply CalmR.calm_fp (E0w 38 Y.heap.size) rfl
   case h1 =>
    intro w1 hw1 hF K hK; have := hw1.size; go_simp; exact hK _ _ (GM.of (by omega) ((za.refl _).al _)) ⟨_, rfl, by omega, zb.new _ _ _⟩
   intro v4 K hK; go_simp; apply hK; clear hK K
   repeat ((apply CalmR.calm_p rfl; case h1 => (intro w1 hw1 hF K hK; obtain ⟨x2, y2⟩ := (BQY.out.grow (GM.grow (za.refl Y) (Nat.le_refl _) hw1)).rules; go_simp; exact hK _ (GM.refl _))); intro K hK; go_simp; apply hK; clear hK K)
   apply CalmR.calm_fp (PRw 38 Y.heap.size (ds.map S.v')) rfl
   case h1 =>
    intro w1 hw1 hF K hK; obtain ⟨g, hv, hlo, hb⟩ := hF _ (List.mem_cons_self ..) ⟨_, rfl, by decide⟩; subst hv; have sz1 := hw1.size; obtain ⟨v', w', hr, hp1, hg'⟩ := zbs za5 32 (ds.map S.v') (fun u hu => by obtain ⟨s, _, rfl⟩ := List.mem_map.1 hu; exact ⟨_, _, _, rfl⟩) (by simp; have := SM.out; omega) (zca (DY9.out.grow (GM.grow (za.refl Y) (Nat.le_refl _) hw1)).s nd) hb hlo; exact zaf (.tmp 51) (.tmp 52) 32 rfl 32 rfl _ _ rfl rfl v' w' hr (hK _ _ (GM.of sz1 hg') hp1)
   intro v5 K hK; go_simp; apply hK; clear hK K
   repeat ((apply CalmR.calm_p rfl; case h1 => (intro w1 hw1 hF K hK; obtain ⟨x2, y2⟩ := (BQY.out.grow (GM.grow (za.refl Y) (Nat.le_refl _) hw1)).rules; go_simp; exact hK _ (GM.refl _))); intro K hK; go_simp; apply hK; clear hK K)
   apply CalmR.calm_fp (zbU 38 (.slice Bz ysz.length capz)) rfl
   case h1 =>
    intro w1 hw1 hF K hK; have := hw1.size; go_simp; exact hK _ _ (GM.of (by omega) ((za.refl _).al _)) ⟨_, rfl, zb.new _ _ _⟩
   intro v6 K hK; go_simp; apply hK; clear hK K; apply CalmR.calm_fp (PRw 38 Y.heap.size DL9) rfl
   case h1 =>
    intro w1 hw1 hF K hK; obtain ⟨g1, hv1, hb1⟩ := hF _ (List.mem_cons_self ..) ⟨_, rfl, by decide⟩; have hp := hF _ (List.mem_cons_of_mem _ (List.mem_cons_self ..)) ⟨_, rfl, by decide⟩; subst hv1; have sz1 := hw1.size; obtain ⟨v', w', hr, hp1, hg'⟩ := zbt (n := ts.length) (f := fTZ (.slice B5 C.length cap5) (.slice Bz ysz.length capz)) za5 32 hp (by simp; exact SM.out.2) (by have := SM.out.1; omega) (fun u hu => by obtain ⟨s, _, rfl⟩ := List.mem_map.1 hu; exact ⟨_, _, _, rfl⟩) (by rw [zaC]; exact ⟨_, _, _, rfl⟩) (by rw [zaC]; exact hb1) sz1; rw [zaC, <- DLe.out] at hp1; exact zaf (.tmp 53) (.tmp 55) 32 rfl 32 rfl _ _ rfl rfl v' w' hr (hK _ _ hg' hp1)
   intro v7 K hK; go_simp; apply hK; clear hK K; apply CalmR.calm_fp (GT (s1, es1)) rfl
   case h1 =>
    intro w1 hw1 hF K hK; have hd := hF _ (List.mem_cons_self ..) ⟨_, rfl, by decide⟩; have ht := hF _ (List.mem_cons_of_mem _ (List.mem_cons_of_mem _ (List.mem_cons_of_mem _ (List.mem_cons_of_mem _ (List.mem_cons_self ..))))) ⟨_, rfl, by decide⟩; have ce := CE.out w1 (GM.grow (za.refl Y) (Nat.le_refl _) hw1) _ _ ht hd; obtain ⟨gt, ct, rfl, _⟩ := ht; obtain ⟨gd, cd, rfl, _⟩ := hd; have sz1 := hw1.size; go_simp
    go_at_call 14
    refine ce.mono ?_; rintro en w' ⟨B, ys, cap9, rfl, hz, hm, hk, hg'⟩; exact ⟨_, rfl, hK _ _ (GM.of sz1 hg') ⟨B, ys, cap9, rfl, hz, hm, hk⟩⟩
   intro v8 K hK; go_simp; apply hK; clear hK K; apply CalmR.calm_fp (GT (s1, es1)) rfl
   case h1 =>
    intro w1 hw1 hF K hK; obtain ⟨B, ys, cap9, hv, hz, hm, hk⟩ := hF _ (List.mem_cons_self ..) ⟨_, rfl, by decide⟩; subst hv; go_simp; exact hK _ _ (GM.refl _) ⟨B, ys, cap9, rfl, hz, hm, hk⟩
   intro v9 K hK; go_simp; apply hK; clear hK K; apply CalmR.calm_fp (GS (s1, es1)) rfl
   case h1 =>
    intro w1 hw1 hF K hK; obtain ⟨B, ys, cap9, hv, hz, hm, hk⟩ := hF _ (List.mem_cons_self ..) ⟨_, rfl, by decide⟩; subst hv; go_simp; exact hK _ _ (GM.refl _) ⟨B, ys, cap9, rfl, hz, hm, hk⟩
   intro va K hK; go_simp; apply hK; clear hK K; apply CalmR.calm_p rfl
   case h1 =>
    intro w1 hw1 hF K hK; obtain ⟨B, ys, cap9, hv, hz, hm, hk⟩ := hF _ (List.mem_cons_of_mem _ (List.mem_cons_self ..)) ⟨_, rfl, by decide⟩; subst hv; go_simp; exact hK _ (GM.refl _)
   intro K hK; go_simp; apply hK; clear hK K; apply CalmR.calm_fp (GS (s1, es1)) rfl
   case h1 =>
    intro w1 hw1 hF K hK; obtain ⟨B, ys, cap9, hv, hz, hm, hk⟩ := hF _ (List.mem_cons_self ..) ⟨_, rfl, by decide⟩; subst hv; go_simp; exact hK _ _ (GM.refl _) ⟨B, ys, cap9, rfl, hz, hm, hk⟩
   intro vb K hK; go_simp; apply hK; clear hK K
   repeat ((apply CalmR.calm_p rfl; case h1 => (intro w1 hw1 hF K hK; obtain ⟨x2, y2⟩ := (BQY.out.grow (GM.grow (za.refl Y) (Nat.le_refl _) hw1)).rules; go_simp; exact hK _ (GM.refl _))); intro K hK; go_simp; apply hK; clear hK K)
   refine CalmR.calm_nil ?_; intro w6 hw6 hF; apply hQ0; clear hQ0; simp only [List.drop_succ_cons, List.drop_zero]; obtain ⟨B6, ys6, cap6, hv, hz6, hm6, hk6⟩ := hF _ (List.mem_cons_self ..); subst hv; have G6 : za Y w6 := GM.grow (za.refl Y) (Nat.le_refl _) hw6; have O6 := Lib.hid (And.intro hz6 (And.intro hm6 hk6)); clear hF hz6 hm6 hk6 hw6; obtain rfl := HE0.out; have G7 := GY.trans G6; have i6 : In w6 ⟨B6, ys6, cap6⟩ := Hp HK.out.2.2.1 rfl O6.out.1 O6.out.2.1 O6.out.2.2; have cd := W7 ⟨B6, ys6, cap6⟩ w6 i6; rw [show S.z ⟨B6, ys6, cap6⟩ = s1 from O6.out.2.1, HK.out.2.2.2.1] at cd; unfold yu at cd; have CD := Lib.hid cd; clear cd i6; go_upto_region 9 with (go_at_call 22; ((refine CD.out.mono ?_); rintro en w7 ⟨B7, ys7, cap7, rfl, hz7, hm7, hk7, hg7⟩)); have O7 := Lib.hid (And.intro hz7 (And.intro hm7 hk7)); clear hz7 hm7 hk7; obtain ⟨bp, fp⟩ := (BP.out.grow (hg4.trans (hg5.trans (G6.trans hg7)))).rules; have lp := (BP.out.grow (hg4.trans (hg5.trans (G6.trans hg7)))).lt; have c3 := C2.out w7 (G7.trans hg7); rw [HK.out.1] at c3; have C3 := Lib.hid c3; clear c3; go_upto_region 10 with (go_at_call 14; ((refine C3.out.mono ?_); rintro en w8 ⟨B8, ys8, cap8, rfl, hz8, hm8, hk8, hg8⟩)); have cd := W7 ⟨B8, ys8, cap8⟩ w8 (Hp HK.out.1 rfl hz8 hm8 hk8); rw [show S.z ⟨B8, ys8, cap8⟩ = f1 from hm8, HK.out.2.1] at cd; unfold yu at cd; have CD2 := Lib.hid cd; clear cd bp fp lp hz8 hm8 hk8; go_upto_region 11 with (go_at_call 22; ((refine CD2.out.mono ?_); rintro en w9 ⟨B9, ys9, cap9, rfl, hz9, hm9, hk9, hg9⟩)); have g79 := hg8.trans hg9; have cw1 := fun W (h : za w9 W) => zb8 (XY HK.out.2.2.2.1).1 D1a.out ((O7.out.1.grow g79).grow h) O7.out.2.1 O7.out.2.2 ((O4.out.1.grow (hg5.trans (G6.trans (hg7.trans g79)))).grow h) O4.out.2.1 O4.out.2.2
   have cw2 := fun W (h : za w9 W) => zb8 (XY HK.out.2.1).1 D1a.out (hz9.grow h) hm9 hk9 ((O4.out.1.grow (hg5.trans (G6.trans (hg7.trans g79)))).grow h) O4.out.2.1 O4.out.2.2
   rw [(Rh _ _).2 HK.out.2.2.2.2.1] at cw1; rw [(Rh _ _).2 HK.out.2.2.2.2.2] at cw2; have W1 := Lib.hid cw1; have W29 := Lib.hid cw2; have G9 := G7.trans (hg7.trans g79); clear cw1 cw2 hz9 hm9 hk9
   go_wp2_with (first
    | (go_at_call 23; ((with_reducible refine (W1.out _ (za.refl _)).mono ?_); rintro en wa ⟨rfl, hga⟩))
    | (go_at_call 23; ((with_reducible refine (W29.out _ hga).mono ?_); rintro en wb ⟨rfl, hgb⟩)))
   exact bodyPost_ret (v := .bool true) (by simp [results, Tryz.results6, go_sem]) rfl ⟨rfl, G9.trans (hga.trans hgb)⟩
  case hp' =>
   exact ⟨fun v w w' hg h => h.keep hg, fun v w w' hg h => h.keep hg (.inl (by simp)), fun v w w' hg h => by
    have := zbU.keep (f := fTZ (.slice B5 C.length cap5) (.slice Bz ysz.length capz)) (t := 33) (v := v) (w := w) (w' := w') (by rw [zaB]; exact h) hg
    rwa [zaB] at this, fun v w w' hg h => h.keep hg (.inr (by rw [zaB, TLe.out]; simp)), fun v w w' hg h => h.keep hg, fun v w w' hg h => h.keep hg (.inl (by simp; have := SM.out.2; omega)), fun v w w' hg h => by
    have := zbU.keep (f := fTZ (.slice B5 C.length cap5) (.slice Bz ysz.length capz)) (t := 38) (v := v) (w := w) (w' := w') (by rw [zaC]; exact h) hg
    rwa [zaC] at this, fun v w w' hg h => h.keep hg (.inr (by have := SM.out.2; rw [zaC, DLe.out]; simp [this])), fun v w w' hg h => GT.keep h hg, fun v w w' hg h => GT.keep h hg, fun v w w' hg h => GS.keep h hg, fun v w w' hg h => GS.keep h hg, trivial⟩
 ·have dd1 : (q1 != 0) = true := by simpa using e1
  have he := (zcu (ts := zh ts) (p := p) (q := q) (data := ds.map S.z) (by rw [HF.out]; exact e1)).1; rw [HF.out] at he; obtain rfl : ysz = [] := by have := O4.out.2.1; rw [show a1 = [] from he] at this; simpa using this
  go_wp2; exact bodyPost_ret (v := .bool true) (by simp [results, Tryz.results6, go_sem]) rfl ⟨rfl, G.trans hg4⟩
end Go.Proofs.YtcaedcpjdmlilaaGreat

