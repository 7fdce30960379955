/-
 A text of the proof of the law FixLeast; no condition beside the row's own.
-/
import Derived.Test.YtcaedcpjdmlilaaGreatGFc
set_option maxRecDepth 100000
set_option maxHeartbeats 4000000
namespace Go.Proofs.YtcaedcpjdmlilaaGreat
open Go.RowKit Go.Calm
set_option linter.unusedSimpArgs false
set_option linter.unusedVariables false
theorem zco {ts : List (L2 Int)} {p : PL} {ds : List S} {a : List Z} (h : yS (zh ts) p (ds.map S.z) = (a, 0)) : ts.length <= 8 /\ ds.length = ts.length := by
 unfold yS at h; split at h
 ·rename_i h1; exact absurd (Prod.mk.inj h).2 h1
 ·rename_i h1; split at h
  ·rename_i h2; exact absurd (Prod.mk.inj h).2 h2
  ·rename_i h2; refine ⟨?_, ?_⟩
   ·have h3 : (zi (zh ts) p).2 = 0 := by simpa using h1
    unfold zi at h3; split at h3
    ·simp at h3
    ·rename_i h4; simp at h4; omega
   ·have h3 : qD (zh ts) (ds.map S.z) = 0 := by simpa using h2
    unfold qD at h3; split at h3
    ·simp at h3
    ·rename_i h5; simp at h5; omega
theorem zbr {a b : List Z} {A B : Option Addr} {xs ys : List I} {c d : Nat} {w : World} (da : D1 a) (db : D1 b) (hza : xF w A xs) (hma : xs.map zj = a) (hka : yw A xs.length c) (hzb : xF w B ys) (hmb : ys.map zj = b) (hkb : yw B ys.length d) :
  Calls Tryz.prog 23 #[.slice A xs.length c, .slice B ys.length d] w fun en w' => en = .returned (.bool (Y4 a b)) /\ za w w' := by
 have cw := Np ⟨A, xs, c⟩ ⟨B, ys, d⟩ w (In.sml hza hka (by rw [hma]; exact da.sml)) (In.sml hzb hkb (by rw [hmb]; exact db.sml)) (by show zu (ys.map zj) = 0; rw [hmb]; exact db.w) (fun x hx => by
  rw [YR]; have h1 : zj x ∈ a := by rw [<- hma]; exact List.mem_map_of_mem hx
  exact (jS ⟨da.c, da.w⟩).2 _ h1)
 subst hma hmb; exact cw
theorem zb9 (ts : List (L2 Int)) (At : Option Addr) (nt : Nat) (p q : PL) (ds : List S) (Ad : Option Addr) (nd : Nat) (zo9 : S) (w : World) (hlt : ts.length <= zz) (hl : ∀ t ∈ ts, t.xs.length <= zz) (hts : Nr w At ts) (hp : PX w p) (hq : PX w q) (hds : Ro w Ad ds nd) (hzo : In w zo9) :
  Calls Tryz.prog 7 #[.slice At ts.length nt, p.val, q.val, .slice Ad ds.length nd, .slice zo9.A zo9.xs.length zo9.cap] w fun en w' => en = .returned (.bool true) /\ za w w' := by
 have HTS := Lib.hid hts; have HP := Lib.hid hp; have HQ := Lib.hid hq; have HDS := Lib.hid hds; have HZO := Lib.hid hzo; have HL := Lib.hid (And.intro hlt hl); obtain ⟨a1, m1, q1, hF1⟩ : ∃ a m e, WU (zh ts) p q (ds.map S.z) = (a, m, e) := ⟨_, _, _, rfl⟩
 obtain ⟨f1, ef, hE1⟩ : ∃ a e, yS (zh ts) p (ds.map S.z) = (a, e) := ⟨_, _, rfl⟩
 obtain ⟨d1, ed, hD1⟩ : ∃ a e, zP yB zo9.z = (a, e) := ⟨_, _, rfl⟩
 obtain ⟨C, EC9, hC⟩ : ∃ C e, zi (zh ts) p = (C, e) := ⟨_, _, rfl⟩
 obtain ⟨r2, hr2⟩ : ∃ r, xI q = r := ⟨_, rfl⟩
 obtain ⟨t1, ht1⟩ : ∃ r, Wj (ds.map S.z) = r := ⟨_, rfl⟩
 have cx := fun W (h : za w W) => MA ts At nt p q ds Ad nd W hlt hl (hts.grow h) (hp.grow h) (hq.grow h) (hds.grow h)
 have cc := fun W (h : za w W) => jR ts At nt p W hlt hl (hts.grow h) (hp.grow h)
 have c2 := fun W (h : za w W) => YQ ts At nt p ds Ad nd W hlt hl (hts.grow h) (hp.grow h) (hds.grow h)
 have c3 := fun W (h : za w W) => W7 zo9 W (hzo.grow h)
 have cr := fun W (h : za w W) => QG q W (hq.grow h)
 have ct := fun W (h : za w W) => WJ ds Ad nd W (hds.grow h)
 rw [hF1] at cx; rw [hC] at cc; rw [hE1] at c2; rw [hD1] at c3; rw [hr2] at cr; rw [ht1] at ct; unfold Mn at cx; unfold Zi at cc; unfold yu at c2 c3; unfold PL.val at cx cc c2 cr; simp only at cx cc c2 c3; have CX := Lib.hid cx; have CC := Lib.hid cc; have C2 := Lib.hid c2; have C3 := Lib.hid c3; have CR9 := Lib.hid cr; have CT := Lib.hid ct; have HF := Lib.hid hF1; have HE := Lib.hid hE1; have HD := Lib.hid hD1; have HC := Lib.hid hC; have HR2 := Lib.hid hr2; have HT1 := Lib.hid ht1; unfold PL.val; clear cx cc c2 c3 cr ct hts hp hq hds hzo hlt hl hF1 hE1 hD1 hC hr2 ht1; go_enter Tryz.func7, Tryz.ntmps7; go_upto_region 3 with (go_at_call 21; ((with_reducible refine (Ey _).mono ?_); rintro e w2 ⟨rfl, hg2⟩)); refine zc (fun X => zb X w.heap.size 31 (pC p) /\ zb X (w.heap.size + 1) 31 (pC q) /\ za w X) ⟨((zb.new w _ _).al _).grow hg2, (zb.new' _ _ _ (by simp)).grow hg2, za.trans (by with_reducible repeat (first | exact za.refl _ | assumption | refine za.set ?_ (by simp <;> omega) _ | refine za.al ?_ _ | refine za.drew ?_ | refine za.drewN ?_ _ | refine za.trans ?_ (by assumption))) hg2⟩ ?_; rintro X ⟨BP0, BQ0, G⟩; have BP := Lib.hid BP0; have BQ := Lib.hid BQ0; obtain ⟨bp, fp⟩ := BP0.rules; obtain ⟨bq, fq⟩ := BQ0.rules; have lp := BP0.lt; have lq := BQ0.lt; clear BP0 BQ0 hg2; generalize w.heap.size = gx at *; go_upto_region 4 with (go_at_call 17; ((refine (CX.out _ G).mono ?_); rintro en w4 ⟨By9, ysy, capy, rfl, hz4, hm4, hk4, hg4⟩)); have O4 := Lib.hid (And.intro hz4 (And.intro hm4 hk4)); clear bp fp bq fq lp lq hz4 hm4 hk4; obtain ⟨bq, fq⟩ := (BQ.out.grow hg4).rules; have lq := (BQ.out.grow hg4).lt
 go_cut [44] (fun z wx => ∃ b, z = .bool b /\ (b = false -> q1 = 0 /\ r2 = true /\ t1 = true) /\ za w4 wx)
 case first =>
  by_cases e1 : q1 = 0
  ·have dd : (q1 != 0) = false := by simp [e1]
   have E1 := Lib.hid e1; clear e1; cases r2 <;> cases t1
   all_goals (
    go_wp2_with (first
     | (go_at_call 24; ((with_reducible refine (CR9.out _ (G.trans (hg4.trans (by with_reducible repeat (first | exact za.refl _ | assumption | refine za.set ?_ (by simp <;> omega) _ | refine za.al ?_ _ | refine za.drew ?_ | refine za.drewN ?_ _ | refine za.trans ?_ (by assumption)))))).mono ?_); rintro e w5 ⟨rfl, hg5⟩))
     | (go_at_call 25; ((with_reducible refine (CT.out _ (G.trans (hg4.trans (by with_reducible repeat (first | exact za.refl _ | assumption | refine za.set ?_ (by simp <;> omega) _ | refine za.al ?_ _ | refine za.drew ?_ | refine za.drewN ?_ _ | refine za.trans ?_ (by assumption)))))).mono ?_); rintro e w6 ⟨rfl, hg6⟩)))
    go_meet
    exact ⟨_, rfl, fun h => by first | (cases h; done) | exact ⟨E1.out, by simp⟩, (by with_reducible repeat (first | exact za.refl _ | assumption | refine za.set ?_ (by simp <;> omega) _ | refine za.al ?_ _ | refine za.drew ?_ | refine za.drewN ?_ _ | refine za.trans ?_ (by assumption)))⟩)
  ·have dd : (q1 != 0) = true := by simpa using e1
   clear e1; go_wp2; go_meet; exact ⟨_, rfl, fun h => (by cases h), za.refl _⟩
 case rest =>
 obtain ⟨bb, rfl, hbb, g45⟩ := hcut; rename World => w5
 have G5 := G.trans (hg4.trans g45); clear bq fq lq; cases bb with
 | true =>
  go_wp2; exact bodyPost_ret (v := .bool true) (by simp [results, Tryz.results7, go_sem]) rfl ⟨rfl, G5⟩
 | false =>
  obtain ⟨rfl, rfl, rfl⟩ := hbb rfl; clear hbb; have SM := Lib.hid (by obtain ⟨_, _, _, _, k1, _⟩ := zb3 HF.out; exact zco k1); obtain ⟨bp, fp⟩ := (BP.out.grow (hg4.trans g45)).rules; have lp := (BP.out.grow (hg4.trans g45)).lt; go_upto_region 7 with (go_at_call 11; ((refine (CC.out _ G5).mono ?_); rintro en w6 ⟨B5, cap5, rfl, hi5, hn5, hg6⟩)); have I5 := Lib.hid hi5; clear bp fp lp hi5 hn5; obtain ⟨bp, fp⟩ := (BP.out.grow (hg4.trans (g45.trans hg6))).rules; have lp := (BP.out.grow (hg4.trans (g45.trans hg6))).lt; go_upto_region 8 with (go_at_call 14; ((refine (C2.out _ (G5.trans hg6)).mono ?_); rintro en w7 ⟨B8, ys8, cap8, rfl, hz8, hm8, hk8, hg7⟩)); have O8 := Lib.hid (And.intro hz8 (And.intro hm8 hk8)); clear bp fp lp hz8 hm8 hk8; go_upto_region 9 with (go_at_call 22; ((refine (C3.out _ (G5.trans (hg6.trans hg7))).mono ?_); rintro en Y ⟨Bz, ysz, capz, rfl, hzz, hmz, hkz, hg8⟩)); have OZ := Lib.hid (And.intro hzz (And.intro hmz hkz)); have GY := G5.trans (hg6.trans (hg7.trans hg8)); clear hzz hmz hkz
  by_cases e2 : ef = 0
  ·by_cases e3 : ed = 0
   ·subst e2 e3; have D1d := Lib.hid (XY HD.out).1; have TY9 := Lib.hid (HTS.out.grow GY); have DY9 := Lib.hid (HDS.out.grow GY); have BQY := Lib.hid (BQ.out.grow (hg4.trans (g45.trans (hg6.trans (hg7.trans hg8))))); have i4 : In Y ⟨Bz, ysz, capz⟩ := In.sml OZ.out.1 OZ.out.2.2 (by rw [OZ.out.2.1]; exact D1d.out.sml); have hi5 : xe Y B5 C := I5.out.grow (hg7.trans hg8); obtain ⟨s1, es1, hS1⟩ : ∃ a e, yS (zh ts ++ [(zi (zh ts) p).1]) q (ds.map S.z ++ [d1]) = (a, e) := ⟨_, _, rfl⟩
    obtain ⟨TL, hTL⟩ : ∃ L, L = ts.map vL ++ [Value.slice B5 C.length cap5] := ⟨_, rfl⟩
    obtain ⟨DL9, hDL⟩ : ∃ L, L = ds.map S.v' ++ [Value.slice Bz ysz.length capz] := ⟨_, rfl⟩
    have ce : ∀ W, za Y W -> ∀ v u, PRw 33 Y.heap.size TL v W -> PRw 38 Y.heap.size DL9 u W -> Calls Tryz.prog 14 #[v, q.val, u] W fun en w' => yu W w' en (s1, es1) := fun W h v u hv hu => by
     have hC8 : C.length <= 8 := by have := Zw (zh ts) p; rw [HC.out] at this; exact this
     have h9 := zb6 ts ⟨B5, C, cap5⟩ q ds ⟨Bz, ysz, capz⟩ W SM.out.1 (fun t ht => by
      rcases List.mem_append.1 ht with ht | ht
      ·obtain ⟨i, hi, e⟩ := List.mem_iff_getElem.1 ht; obtain ⟨g, o, _, _, h3⟩ := (TY9.out.grow h) i t (by rw [<- e]; exact List.getElem?_eq_getElem hi); exact ⟨HL.out.2 t ht, h3⟩
      ·simp at ht; subst ht; exact ⟨by unfold zz; show C.length <= _; omega, hi5.grow h⟩) (HQ.out.grow (GY.trans h)) (by have := SM.out; omega) (fun s hs => by
      rcases List.mem_append.1 hs with hs | hs
      ·exact (DY9.out.each s hs).grow h
      ·simp at hs; subst hs; exact i4.grow h) (TL := TL) (DL9 := DL9) (by rw [hTL]; simp) (by rw [hDL]; simp [S.v']) hv hu
     have e9 : yS (zh (ts ++ [(⟨B5, C, cap5⟩ : L2 Int)])) q ((ds ++ [(⟨Bz, ysz, capz⟩ : S)]).map S.z) = (s1, es1) := by
      rw [HC.out] at hS1; rw [<- hS1, <- OZ.out.2.1]; simp [S.z]
     rw [e9] at h9; exact h9
    unfold yu PL.val at ce; have CE := Lib.hid ce; have TLe := Lib.hid hTL; have DLe := Lib.hid hDL; have HS1 := Lib.hid hS1; clear hS1 ce hTL hDL hi5 i4; go_wp2; have hR := GM.isR (base := Y.heap.size) (MR9.abs ts.length (fTZ (.slice B5 C.length cap5) (.slice Bz ysz.length capz))); apply CalmR.wp_region_calm hR 19 (by kernel_rfl) (by kernel_rfl)
    case h' =>
     intro Q0 hQ0; simp only [List.take_succ_cons, List.take_zero]; apply CalmR.calm_fp (E0w 33 Y.heap.size) rfl
     case h1 =>
      intro w1 hw1 hF K hK; have := hw1.size; go_simp; exact hK _ _ (GM.of (by omega) ((za.refl _).al _)) ⟨_, rfl, by omega, zb.new _ _ _⟩
     intro v0 K hK; go_simp; apply hK; clear hK K
     repeat ((apply CalmR.calm_p rfl; case h1 => (intro w1 hw1 hF K hK; obtain ⟨x2, y2⟩ := (BQY.out.grow (GM.grow (za.refl Y) (Nat.le_refl _) hw1)).rules; go_simp; exact hK _ (GM.refl _))); intro K hK; go_simp; apply hK; clear hK K)
     apply CalmR.calm_fp (PRw 33 Y.heap.size (ts.map vL)) rfl
     case h1 =>
      intro w1 hw1 hF K hK; obtain ⟨g, hv, hlo, hb⟩ := hF _ (List.mem_cons_self ..) ⟨_, rfl, by decide⟩; subst hv; have sz1 := hw1.size; obtain ⟨v', w', hr, hp1, hg'⟩ := zbs YS 22 (ts.map vL) (fun u hu => by obtain ⟨s, _, rfl⟩ := List.mem_map.1 hu; exact ⟨_, _, _, rfl⟩) (by simp; have := SM.out.1; omega) (zcb (TY9.out.grow (GM.grow (za.refl Y) (Nat.le_refl _) hw1)) nt) hb hlo; exact zaf (.tmp 70) (.tmp 71) 22 rfl 22 rfl _ _ rfl rfl v' w' hr (hK _ _ (GM.of sz1 hg') hp1)
     intro v1 K hK; go_simp; apply hK; clear hK K
     repeat ((apply CalmR.calm_p rfl; case h1 => (intro w1 hw1 hF K hK; obtain ⟨x2, y2⟩ := (BQY.out.grow (GM.grow (za.refl Y) (Nat.le_refl _) hw1)).rules; go_simp; exact hK _ (GM.refl _))); intro K hK; go_simp; apply hK; clear hK K)
     apply CalmR.calm_fp (zbU 33 (.slice B5 C.length cap5)) rfl
     case h1 =>
      intro w1 hw1 hF K hK; have := hw1.size; go_simp; exact hK _ _ (GM.of (by omega) ((za.refl _).al _)) ⟨_, rfl, zb.new _ _ _⟩
     intro v2 K hK; go_simp; apply hK; clear hK K; apply CalmR.calm_fp (PRw 33 Y.heap.size TL) rfl
     case h1 =>
      intro w1 hw1 hF K hK; obtain ⟨g1, hv1, hb1⟩ := hF _ (List.mem_cons_self ..) ⟨_, rfl, by decide⟩; have hp := hF _ (List.mem_cons_of_mem _ (List.mem_cons_self ..)) ⟨_, rfl, by decide⟩; subst hv1; have sz1 := hw1.size; obtain ⟨v', w', hr, hp1, hg'⟩ := zbt (n := ts.length) (f := fTZ (.slice B5 C.length cap5) (.slice Bz ysz.length capz)) YS 22 hp (by simp) (by have := SM.out.1; omega) (fun u hu => by obtain ⟨s, _, rfl⟩ := List.mem_map.1 hu; exact ⟨_, _, _, rfl⟩) (by rw [zaB]; exact ⟨_, _, _, rfl⟩) (by rw [zaB]; exact hb1) sz1; rw [zaB, <- TLe.out] at hp1; exact zaf (.tmp 72) (.tmp 74) 22 rfl 22 rfl _ _ rfl rfl v' w' hr (hK _ _ hg' hp1)
     intro v3 K hK; go_simp; apply hK; clear hK K
     repeat ((apply CalmR.calm_p rfl; case h1 => (intro w1 hw1 hF K hK; obtain ⟨x2, y2⟩ := (BQY.out.grow (GM.grow (za.refl Y) (Nat.le_refl _) hw1)).rules; go_simp; exact hK _ (GM.refl _))); intro K hK; go_simp; apply hK; clear hK K)
     apply CalmR.calm_fp (E0w 38 Y.heap.size) rfl
     case h1 =>
      intro w1 hw1 hF K hK; have := hw1.size; go_simp; exact hK _ _ (GM.of (by omega) ((za.refl _).al _)) ⟨_, rfl, by omega, zb.new _ _ _⟩
     intro v4 K hK; go_simp; apply hK; clear hK K
     repeat ((apply CalmR.calm_p rfl; case h1 => (intro w1 hw1 hF K hK; obtain ⟨x2, y2⟩ := (BQY.out.grow (GM.grow (za.refl Y) (Nat.le_refl _) hw1)).rules; go_simp; exact hK _ (GM.refl _))); intro K hK; go_simp; apply hK; clear hK K)
     apply CalmR.calm_fp (PRw 38 Y.heap.size (ds.map S.v')) rfl
     case h1 =>
      intro w1 hw1 hF K hK; obtain ⟨g, hv, hlo, hb⟩ := hF _ (List.mem_cons_self ..) ⟨_, rfl, by decide⟩; subst hv; have sz1 := hw1.size; obtain ⟨v', w', hr, hp1, hg'⟩ := zbs za5 32 (ds.map S.v') (fun u hu => by obtain ⟨s, _, rfl⟩ := List.mem_map.1 hu; exact ⟨_, _, _, rfl⟩) (by simp; have := SM.out; omega) (zca (DY9.out.grow (GM.grow (za.refl Y) (Nat.le_refl _) hw1)).s nd) hb hlo; exact zaf (.tmp 77) (.tmp 78) 32 rfl 32 rfl _ _ rfl rfl v' w' hr (hK _ _ (GM.of sz1 hg') hp1)
     intro v5 K hK; go_simp; apply hK; clear hK K
     repeat ((apply CalmR.calm_p rfl; case h1 => (intro w1 hw1 hF K hK; obtain ⟨x2, y2⟩ := (BQY.out.grow (GM.grow (za.refl Y) (Nat.le_refl _) hw1)).rules; go_simp; exact hK _ (GM.refl _))); intro K hK; go_simp; apply hK; clear hK K)
     apply CalmR.calm_fp (zbU 38 (.slice Bz ysz.length capz)) rfl
     case h1 =>
      intro w1 hw1 hF K hK; have := hw1.size; go_simp; exact hK _ _ (GM.of (by omega) ((za.refl _).al _)) ⟨_, rfl, zb.new _ _ _⟩
     intro v6 K hK; go_simp; apply hK; clear hK K; apply CalmR.calm_fp (PRw 38 Y.heap.size DL9) rfl
     case h1 =>
      intro w1 hw1 hF K hK; obtain ⟨g1, hv1, hb1⟩ := hF _ (List.mem_cons_self ..) ⟨_, rfl, by decide⟩; have hp := hF _ (List.mem_cons_of_mem _ (List.mem_cons_self ..)) ⟨_, rfl, by decide⟩; subst hv1; have sz1 := hw1.size; obtain ⟨v', w', hr, hp1, hg'⟩ := zbt (n := ts.length) (f := fTZ (.slice B5 C.length cap5) (.slice Bz ysz.length capz)) za5 32 hp (by simp; exact SM.out.2) (by have := SM.out.1; omega) (fun u hu => by obtain ⟨s, _, rfl⟩ := List.mem_map.1 hu; exact ⟨_, _, _, rfl⟩) (by rw [zaC]; exact ⟨_, _, _, rfl⟩) (by rw [zaC]; exact hb1) sz1; rw [zaC, <- DLe.out] at hp1; exact zaf (.tmp 79) (.tmp 81) 32 rfl 32 rfl _ _ rfl rfl v' w' hr (hK _ _ hg' hp1)
     intro v7 K hK; go_simp; apply hK; clear hK K; apply CalmR.calm_fp (GT (s1, es1)) rfl
     case h1 =>
      intro w1 hw1 hF K hK; have hd := hF _ (List.mem_cons_self ..) ⟨_, rfl, by decide⟩; have ht := hF _ (List.mem_cons_of_mem _ (List.mem_cons_of_mem _ (List.mem_cons_of_mem _ (List.mem_cons_of_mem _ (List.mem_cons_self ..))))) ⟨_, rfl, by decide⟩; have ce := CE.out w1 (GM.grow (za.refl Y) (Nat.le_refl _) hw1) _ _ ht hd; obtain ⟨gt, ct, rfl, _⟩ := ht; obtain ⟨gd, cd, rfl, _⟩ := hd; have sz1 := hw1.size; go_simp
      go_at_call 14
      refine ce.mono ?_; rintro en w' ⟨B, ys, cap9, rfl, hz, hm, hk, hg'⟩; exact ⟨_, rfl, hK _ _ (GM.of sz1 hg') ⟨B, ys, cap9, rfl, hz, hm, hk⟩⟩
     intro v8 K hK; go_simp; apply hK; clear hK K; apply CalmR.calm_fp (GT (s1, es1)) rfl
     case h1 =>
      intro w1 hw1 hF K hK; obtain ⟨B, ys, cap9, hv, hz, hm, hk⟩ := hF _ (List.mem_cons_self ..) ⟨_, rfl, by decide⟩; subst hv; go_simp; exact hK _ _ (GM.refl _) ⟨B, ys, cap9, rfl, hz, hm, hk⟩
     intro v9 K hK; go_simp; apply hK; clear hK K; apply CalmR.calm_fp (GS (s1, es1)) rfl
     case h1 =>
      intro w1 hw1 hF K hK; obtain ⟨B, ys, cap9, hv, hz, hm, hk⟩ := hF _ (List.mem_cons_self ..) ⟨_, rfl, by decide⟩; subst hv; go_simp; exact hK _ _ (GM.refl _) ⟨B, ys, cap9, rfl, hz, hm, hk⟩
     intro va K hK; go_simp; apply hK; clear hK K; apply CalmR.calm_p rfl
     case h1 =>
      intro w1 hw1 hF K hK; obtain ⟨B, ys, cap9, hv, hz, hm, hk⟩ := hF _ (List.mem_cons_of_mem _ (List.mem_cons_self ..)) ⟨_, rfl, by decide⟩; subst hv; go_simp; exact hK _ (GM.refl _)
     intro K hK; go_simp; apply hK; clear hK K; apply CalmR.calm_fp (GS (s1, es1)) rfl
     case h1 =>
      intro w1 hw1 hF K hK; obtain ⟨B, ys, cap9, hv, hz, hm, hk⟩ := hF _ (List.mem_cons_self ..) ⟨_, rfl, by decide⟩; subst hv; go_simp; exact hK _ _ (GM.refl _) ⟨B, ys, cap9, rfl, hz, hm, hk⟩
     intro vb K hK; go_simp; apply hK; clear hK K
     repeat ((apply CalmR.calm_p rfl; case h1 => (intro w1 hw1 hF K hK; obtain ⟨x2, y2⟩ := (BQY.out.grow (GM.grow (za.refl Y) (Nat.le_refl _) hw1)).rules; go_simp; exact hK _ (GM.refl _))); intro K hK; go_simp; apply hK; clear hK K)
     refine CalmR.calm_nil ?_; intro w6 hw6 hF; apply hQ0; clear hQ0; simp only [List.drop_succ_cons, List.drop_zero]; obtain ⟨B6, ys6, cap6, hv, hz6, hm6, hk6⟩ := hF _ (List.mem_cons_self ..); subst hv; have G6 : za Y w6 := GM.grow (za.refl Y) (Nat.le_refl _) hw6; have O6 := Lib.hid (And.intro hz6 (And.intro hm6 hk6)); clear hF hz6 hm6 hk6 hw6; have G7 := GY.trans G6
     by_cases e4 : es1 = 0
     ·subst e4; obtain ⟨g1, eg, hG1⟩ : ∃ a e, zP yB f1 = (a, e) := ⟨_, _, rfl⟩
      obtain ⟨h1, eh, hH1⟩ : ∃ a e, zP yB s1 = (a, e) := ⟨_, _, rfl⟩
      have cd := W7 ⟨B8, ys8, cap8⟩ w6 ((Hp HE.out rfl O8.out.1 O8.out.2.1 O8.out.2.2).grow (hg8.trans G6)); rw [show S.z ⟨B8, ys8, cap8⟩ = f1 from O8.out.2.1, hG1] at cd; unfold yu at cd; have CD := Lib.hid cd; have HG1 := Lib.hid hG1; have HH1 := Lib.hid hH1; clear cd hG1; go_upto_region 15 with (go_at_call 22; ((refine CD.out.mono ?_); rintro en wa ⟨Ba9, ysa, capa, rfl, hza, hma, hka, hga⟩)); have Oa := Lib.hid (And.intro hza (And.intro hma hka)); have cd := W7 ⟨B6, ys6, cap6⟩ wa ((Hp HS1.out rfl O6.out.1 O6.out.2.1 O6.out.2.2).grow hga); rw [show S.z ⟨B6, ys6, cap6⟩ = s1 from O6.out.2.1, hH1] at cd; unfold yu at cd; have CD2 := Lib.hid cd; clear cd hH1 hza hma hka; go_upto_region 16 with (go_at_call 22; ((refine CD2.out.mono ?_); rintro en wb ⟨Bb, ysb, capb, rfl, hzb, hmb, hkb, hgb⟩)); have Ob := Lib.hid (And.intro hzb (And.intro hmb hkb)); have Gb9 := G7.trans (hga.trans hgb); clear hzb hmb hkb
      by_cases e5 : eg = 0
      ·by_cases e6 : eh = 0
       ·subst e5 e6; obtain ⟨x1, hx1⟩ : ∃ b, Y4 g1 d1 = b := ⟨_, rfl⟩
        obtain ⟨x2, hx2⟩ : ∃ b, Y4 h1 d1 = b := ⟨_, rfl⟩
        have OZ9 := Lib.hid (OZ.out.1.grow (G6.trans (hga.trans hgb))); have cw1 := fun W (h : za wb W) => zbr (XY HG1.out).1 D1d.out ((Oa.out.1.grow hgb).grow h) Oa.out.2.1 Oa.out.2.2 (OZ9.out.grow h) OZ.out.2.1 OZ.out.2.2
        have cw2 := fun W (h : za wb W) => zbr (XY HH1.out).1 D1d.out (Ob.out.1.grow h) Ob.out.2.1 Ob.out.2.2 (OZ9.out.grow h) OZ.out.2.1 OZ.out.2.2
        have cw3 := fun W (h : za wb W) => zbr (BL HF.out) D1d.out (O4.out.1.grow ((g45.trans (hg6.trans (hg7.trans (hg8.trans (G6.trans (hga.trans hgb)))))).trans h)) O4.out.2.1 O4.out.2.2 (OZ9.out.grow h) OZ.out.2.1 OZ.out.2.2
        have hw3 : x1 = true -> x2 = true -> Y4 a1 d1 = true := fun k1 k2 => (Rh _ _).2 (zcp HF.out HR2.out (Kp HT1.out) HE.out HD.out HS1.out HG1.out HH1.out ((Rh _ _).1 (hx1.trans k1)) ((Rh _ _).1 (hx2.trans k2)))
        rw [hx1] at cw1; rw [hx2] at cw2; have W1 := Lib.hid cw1; have W29 := Lib.hid cw2; have W3 := Lib.hid cw3; have HW3 := Lib.hid hw3; clear cw1 cw2 cw3 hx1 hx2 hw3; cases x1 with
        | false =>
         go_wp2_with (go_at_call 23; ((with_reducible refine (W1.out _ (za.refl _)).mono ?_); rintro en wc ⟨rfl, hgc⟩))
         exact bodyPost_ret (v := .bool true) (by simp [results, Tryz.results7, go_sem]) rfl ⟨rfl, Gb9.trans hgc⟩
        | true =>
         cases x2 with
         | false =>
          go_wp2_with (first
           | (go_at_call 23; ((with_reducible refine (W1.out _ (za.refl _)).mono ?_); rintro en wc ⟨rfl, hgc⟩))
           | (go_at_call 23; ((with_reducible refine (W29.out _ hgc).mono ?_); rintro en wd ⟨rfl, hgd⟩)))
          exact bodyPost_ret (v := .bool true) (by simp [results, Tryz.results7, go_sem]) rfl ⟨rfl, Gb9.trans (hgc.trans hgd)⟩
         | true =>
          have w3 := W3.out; rw [HW3.out rfl rfl] at w3; have W49 := Lib.hid w3; clear w3
          go_wp2_with (first
           | (go_at_call 23; ((with_reducible refine (W1.out _ (za.refl _)).mono ?_); rintro en wc ⟨rfl, hgc⟩))
           | (go_at_call 23; ((with_reducible refine (W29.out _ hgc).mono ?_); rintro en wd ⟨rfl, hgd⟩))
           | (go_at_call 23; ((with_reducible refine (W49.out _ (hgc.trans hgd)).mono ?_); rintro en we ⟨rfl, hge⟩)))
          exact bodyPost_ret (v := .bool true) (by simp [results, Tryz.results7, go_sem]) rfl ⟨rfl, Gb9.trans (hgc.trans (hgd.trans hge))⟩
       ·have dd : (eh != 0) = true := by simpa using e6
        subst e5; go_wp2; exact bodyPost_ret (v := .bool true) (by simp [results, Tryz.results7, go_sem]) rfl ⟨rfl, Gb9⟩
      ·have dd : (eg != 0) = true := by simpa using e5
       go_wp2; exact bodyPost_ret (v := .bool true) (by simp [results, Tryz.results7, go_sem]) rfl ⟨rfl, Gb9⟩
     ·have dd : (es1 != 0) = true := by simpa using e4
      go_wp2; exact bodyPost_ret (v := .bool true) (by simp [results, Tryz.results7, go_sem]) rfl ⟨rfl, G7⟩
    case hp' =>
     exact ⟨fun v w w' hg h => h.keep hg, fun v w w' hg h => h.keep hg (.inl (by simp)), fun v w w' hg h => by
      have := zbU.keep (f := fTZ (.slice B5 C.length cap5) (.slice Bz ysz.length capz)) (t := 33) (v := v) (w := w) (w' := w') (by rw [zaB]; exact h) hg
      rwa [zaB] at this, fun v w w' hg h => h.keep hg (.inr (by rw [zaB, TLe.out]; simp)), fun v w w' hg h => h.keep hg, fun v w w' hg h => h.keep hg (.inl (by simp; have := SM.out.2; omega)), fun v w w' hg h => by
      have := zbU.keep (f := fTZ (.slice B5 C.length cap5) (.slice Bz ysz.length capz)) (t := 38) (v := v) (w := w) (w' := w') (by rw [zaC]; exact h) hg
      rwa [zaC] at this, fun v w w' hg h => h.keep hg (.inr (by have := SM.out.2; rw [zaC, DLe.out]; simp [this])), fun v w w' hg h => GT.keep h hg, fun v w w' hg h => GT.keep h hg, fun v w w' hg h => GS.keep h hg, fun v w w' hg h => GS.keep h hg, trivial⟩
   ·have dd : (ed != 0) = true := by simpa using e3
    subst e2; go_wp2; exact bodyPost_ret (v := .bool true) (by simp [results, Tryz.results7, go_sem]) rfl ⟨rfl, GY⟩
  ·have dd : (ef != 0) = true := by simpa using e2
   go_wp2; exact bodyPost_ret (v := .bool true) (by simp [results, Tryz.results7, go_sem]) rfl ⟨rfl, GY⟩
end Go.Proofs.YtcaedcpjdmlilaaGreat

