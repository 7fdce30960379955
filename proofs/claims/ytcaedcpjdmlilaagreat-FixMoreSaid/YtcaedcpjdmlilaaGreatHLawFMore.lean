/-
 A text of the proof of the law FixMore; no condition beside the row's own.
-/
import Derived.Test.YtcaedcpjdmlilaaGreatGFc
import Derived.Test.YtcaedcpjdmlilaaGreatGFb
import Derived.Test.YtcaedcpjdmlilaaGreatGQb
import Derived.Test.YtcaedcpjdmlilaaGreatGN
set_option maxRecDepth 100000
set_option maxHeartbeats 4000000
namespace Go.Proofs.YtcaedcpjdmlilaaGreat
open Go.RowKit Go.Calm
set_option linter.unusedSimpArgs false
set_option linter.unusedVariables false
theorem Fe (bs : List S) (x : S) {j : Nat} (h : j < bs.length) : ((bs ++ [x]).map S.z).getD j [] = (bs.map S.z).getD j [] := by simp [List.getD_eq_getElem?_getD, List.getElem?_append_left, h]
theorem Fd (bs : List S) (x : S) : ((bs ++ [x]).map S.z).getD bs.length [] = x.z := by simp [List.getD_eq_getElem?_getD]
theorem Tw {ds : List S} {j : Nat} {s : S} (h : ds[j]? = some s) : (ds.map S.z).getD j [] = s.z := by simp [List.getD_eq_getElem?_getD, h]
theorem Pz (ts : List (L2 Int)) (At : Option Addr) (nt : Nat) (p q : PL) (ds : List S) (Ad : Option Addr) (nd : Nat) (es : List S) (Ae : Option Addr) (ne : Nat) (w : World) (hlt : ts.length <= zz) (hl : ∀ t ∈ ts, t.xs.length <= zz) (hts : Nr w At ts) (hp : PX w p) (hq : PX w q) (hds : Ro w Ad ds nd) (hes : Ro w Ae es ne) (hd5 : ds.length <= 5864062014805) :
  Calls Tryz.prog 8 #[.slice At ts.length nt, p.val, q.val, .slice Ad ds.length nd, .slice Ae es.length ne] w fun en w' => en = .returned (.bool true) /\ za w w' := by
 have HTS := Lib.hid hts; have HP := Lib.hid hp; have HQ := Lib.hid hq; have HDS := Lib.hid hds; have HES := Lib.hid hes; have HL := Lib.hid (And.intro hlt hl); obtain ⟨r1, hr1⟩ : ∃ r, xI p = r := ⟨_, rfl⟩
 obtain ⟨r2, hr2⟩ : ∃ r, xI q = r := ⟨_, rfl⟩
 obtain ⟨t1, ht1⟩ : ∃ r, Wj (ds.map S.z) = r := ⟨_, rfl⟩
 obtain ⟨t2, ht2⟩ : ∃ r, Wj (es.map S.z) = r := ⟨_, rfl⟩
 have cr1 := fun W (h : za w W) => QG p W (hp.grow h)
 have cr2 := fun W (h : za w W) => QG q W (hq.grow h)
 have ct1 := fun W (h : za w W) => WJ ds Ad nd W (hds.grow h)
 have ct2 := fun W (h : za w W) => WJ es Ae ne W (hes.grow h)
 have cx := fun W (h : za w W) => MA ts At nt p q ds Ad nd W hlt hl (hts.grow h) (hp.grow h) (hq.grow h) (hds.grow h)
 rw [hr1] at cr1; rw [hr2] at cr2; rw [ht1] at ct1; rw [ht2] at ct2; unfold PL.val at cr1 cr2 cx; have Cr1 := Lib.hid cr1; have Cr2 := Lib.hid cr2; have Ct1 := Lib.hid ct1; have Ct2 := Lib.hid ct2; have CX := Lib.hid cx; have HR1 := Lib.hid hr1; have HR2 := Lib.hid hr2; have HT1 := Lib.hid ht1; have HT2 := Lib.hid ht2; have hle : es.length <= 9223372036854775807 := hes.len; have hld : ds.length <= 9223372036854775807 := hds.len; unfold PL.val; clear cr1 cr2 ct1 ct2 cx hts hp hq hds hes hlt hl hr1 hr2 ht1 ht2; go_enter Tryz.func8, Tryz.ntmps8; go_upto_region 3 with (go_at_call 21; ((with_reducible refine (Ey _).mono ?_); rintro e w2 ⟨rfl, hg2⟩)); refine zc (fun X => zb X w.heap.size 31 (pC p) /\ zb X (w.heap.size + 1) 31 (pC q) /\ za w X) ⟨((zb.new w _ _).al _).grow hg2, (zb.new' _ _ _ (by simp)).grow hg2, za.trans (by with_reducible repeat (first | exact za.refl _ | assumption | refine za.set ?_ (by simp <;> omega) _ | refine za.al ?_ _ | refine za.drew ?_ | refine za.drewN ?_ _ | refine za.trans ?_ (by assumption))) hg2⟩ ?_; rintro X ⟨BP0, BQ0, G⟩; have BP := Lib.hid BP0; have BQ := Lib.hid BQ0; obtain ⟨bp, fp⟩ := BP0.rules; obtain ⟨bq, fq⟩ := BQ0.rules; have lp := BP0.lt; have lq := BQ0.lt; clear BP0 BQ0 hg2; generalize w.heap.size = gx at *; obtain ⟨l1, hl1⟩ : ∃ l, ((ds.length : Int) != (es.length : Int)) = l := ⟨_, rfl⟩
 go_cut [47] (fun z wx => ∃ b, z = .bool b /\ (b = false -> r1 = true /\ r2 = true /\ l1 = false /\ t1 = true /\ t2 = true) /\ za X wx)
 case first =>
  cases r1 <;> cases r2 <;> cases l1 <;> cases t1 <;> cases t2
  all_goals (
   go_wp2_with (first
    | (go_at_call 24; ((with_reducible refine (Cr1.out _ (G.trans (by with_reducible repeat (first | exact za.refl _ | assumption | refine za.set ?_ (by simp <;> omega) _ | refine za.al ?_ _ | refine za.drew ?_ | refine za.drewN ?_ _ | refine za.trans ?_ (by assumption))))).mono ?_); rintro e w3 ⟨rfl, hg3⟩; obtain ⟨bp3, fp3⟩ := (BP.out.grow hg3).rules; obtain ⟨bq3, fq3⟩ := (BQ.out.grow hg3).rules; have lp3 := (BP.out.grow hg3).lt; have lq3 := (BQ.out.grow hg3).lt))
    | (go_at_call 24; ((with_reducible refine (Cr2.out _ (G.trans (by with_reducible repeat (first | exact za.refl _ | assumption | refine za.set ?_ (by simp <;> omega) _ | refine za.al ?_ _ | refine za.drew ?_ | refine za.drewN ?_ _ | refine za.trans ?_ (by assumption))))).mono ?_); rintro e w4 ⟨rfl, hg4⟩))
    | (go_at_call 25; ((with_reducible refine (Ct1.out _ (G.trans (by with_reducible repeat (first | exact za.refl _ | assumption | refine za.set ?_ (by simp <;> omega) _ | refine za.al ?_ _ | refine za.drew ?_ | refine za.drewN ?_ _ | refine za.trans ?_ (by assumption))))).mono ?_); rintro e w5 ⟨rfl, hg5⟩))
    | (go_at_call 25; ((with_reducible refine (Ct2.out _ (G.trans (by with_reducible repeat (first | exact za.refl _ | assumption | refine za.set ?_ (by simp <;> omega) _ | refine za.al ?_ _ | refine za.drew ?_ | refine za.drewN ?_ _ | refine za.trans ?_ (by assumption))))).mono ?_); rintro e w6 ⟨rfl, hg6⟩)))
   go_meet
   exact ⟨_, rfl, fun h => by first | (cases h; done) | simp, (by with_reducible repeat (first | exact za.refl _ | assumption | refine za.set ?_ (by simp <;> omega) _ | refine za.al ?_ _ | refine za.drew ?_ | refine za.drewN ?_ _ | refine za.trans ?_ (by assumption)))⟩)
 case rest =>
 obtain ⟨b, rfl, hb, GY⟩ := hcut; rename World => Y
 obtain ⟨bp, fp⟩ := (BP.out.grow GY).rules; obtain ⟨bq, fq⟩ := (BQ.out.grow GY).rules; have lp := (BP.out.grow GY).lt; have lq := (BQ.out.grow GY).lt; cases b with
 | true =>
  go_wp2; exact bodyPost_ret (v := .bool true) (by simp [results, Tryz.results8, go_sem]) rfl ⟨rfl, G.trans GY⟩
 | false =>
  obtain ⟨rfl, rfl, rfl, rfl, rfl⟩ := hb rfl; have hlen : ds.length = es.length := by simp at hl1; omega
  clear hb hl1; have HLen := Lib.hid hlen; have HR := Lib.hid (And.intro HR1.out HR2.out); have H1 : ∀ z ∈ ds.map S.z, Zl z := Kp HT1.out; have H2 : ∀ z ∈ es.map S.z, Zl z := Kp HT2.out; have HT := Lib.hid (And.intro H1 H2); clear H1 H2 HT1 HT2 HR1 HR2 Cr1 Cr2 Ct1 Ct2 hlen; go_wp2
  go_loopw [11, 50] (fun t i wr => ∃ (k : Nat) (bs : List S), bs.length = k /\ k <= ds.length /\ i = .int .i64 k /\ jC wr Y.heap.size t bs.length bs /\ (∀ s ∈ bs, In wr s) /\ (∀ j, j < ds.length -> j < k -> yI ((ds.map S.z).getD j []) ((es.map S.z).getD j []) 1 = ((bs.map S.z).getD j [], 0)) /\ za Y wr) (fun _ i _ => ds.length - (intOf i).toNat)
  case atStart => exact ⟨0, [], rfl, Nat.zero_le _, rfl, jC.nil _ _, fun s hs => by simp at hs, fun j _ h => absurd h (Nat.not_lt_zero _), za.refl _⟩
  case round =>
   obtain ⟨k, bs, hak, hk, rfl, hown, hos, hinv, hg⟩ := hrel; have Own := Lib.hid hown; have Os := Lib.hid hos; have jd := Lib.hid hinv; have HK := Lib.hid hak; have GW := G.trans (GY.trans hg); clear hown hos hinv hak bp fp bq fq lp lq
   by_cases hlt : k < ds.length
   ·obtain ⟨s, hsk⟩ : ∃ s, ds[k]? = some s := ⟨_, List.getElem?_eq_getElem hlt⟩
    obtain ⟨u, huk⟩ : ∃ u, es[k]? = some u := ⟨_, List.getElem?_eq_getElem (by have := HLen.out; omega)⟩
    obtain ⟨g1, o1, rfl, c1, _⟩ := (HDS.out.grow GW).s k s hsk; obtain ⟨g2, o2, rfl, c2, _⟩ := (HES.out.grow GW).s k u huk; have ca := fun W (h : za wr W) => Mp s u W (((HDS.out.each s (List.mem_of_getElem? hsk)).grow GW).grow h) (((HES.out.each u (List.mem_of_getElem? huk)).grow GW).grow h)
    obtain ⟨T, e, hT⟩ : ∃ T e, yI s.z u.z 1 = (T, e) := ⟨_, _, rfl⟩
    have sT := Lib.hid (show WZ T by have := NJ s.z u.z 1; rw [hT] at this; exact this); rw [hT] at ca; have CA := Lib.hid ca; have HT9 := Lib.hid (And.intro hT (And.intro hsk huk)); have C12 := Lib.hid (And.intro c1 c2); have k0 : (0 : Int) <= (k : Int) := by omega
    have k1 : (k : Int) < (ds.length : Int) := by omega
    have k2 : (k : Int) < (es.length : Int) := by have := HLen.out; omega
    have k3 : k < es.length := by have := HLen.out; omega
    have ea1 : ((k : Int)).toNat = k := by omega
    clear ca hT hsk huk c1 c2; go_wp2; apply wp_region_calm 14 (by kernel_rfl) (by kernel_rfl)
    case h' =>
     intro Q0 hQ0; simp only [List.take_succ_cons, List.take_zero]
     repeat ((first | ((first | apply calm_p rfl | apply zg rfl rfl rfl); case h1 => (intro w1 hw1 hF K hK; have e1 := hw1.cell C12.out.1; have e2 := hw1.cell C12.out.2; go_simp; first | exact hK _ (za.refl _))) | apply ze rfl rfl rfl rfl); intro K hK; go_simp; apply hK; clear hK K)
     apply calm_fp (GT (T, e)) rfl
     case h1 =>
      intro w1 hw1 hF K hK; go_simp
      go_at_call 26
      refine (CA.out w1 hw1).mono ?_; rintro en w' ⟨B, ys, cap9, rfl, hz, hm, hk, hg'⟩; exact ⟨_, rfl, hK _ _ hg' ⟨B, ys, cap9, rfl, hz, hm, hk⟩⟩
     intro v62 K hK; go_simp; apply hK; clear hK K; apply calm_fp (GT (T, e)) rfl
     case h1 =>
      intro w1 hw1 hF K hK; obtain ⟨B, ys, cap9, hv, hz, hm, hk⟩ := hF _ (List.mem_cons_self ..) ⟨_, rfl, by decide⟩; subst hv; go_simp; exact hK _ _ (za.refl _) ⟨B, ys, cap9, rfl, hz, hm, hk⟩
     intro v53 K hK; go_simp; apply hK; clear hK K; apply calm_fp (GS (T, e)) rfl
     case h1 =>
      intro w1 hw1 hF K hK; obtain ⟨B, ys, cap9, hv, hz, hm, hk⟩ := hF _ (List.mem_cons_self ..) ⟨_, rfl, by decide⟩; subst hv; go_simp; exact hK _ _ (za.refl _) ⟨B, ys, cap9, rfl, hz, hm, hk⟩
     intro v63 K hK; go_simp; apply hK; clear hK K; apply calm_p rfl
     case h1 =>
      intro w1 hw1 hF K hK; obtain ⟨B, ys, cap9, hv, hz, hm, hk⟩ := hF _ (List.mem_cons_of_mem _ (List.mem_cons_self ..)) ⟨_, rfl, by decide⟩; subst hv; go_simp; exact hK _ (za.refl _)
     intro K hK; go_simp; apply hK; clear hK K; apply calm_fp (GS (T, e)) rfl
     case h1 =>
      intro w1 hw1 hF K hK; obtain ⟨B, ys, cap9, hv, hz, hm, hk⟩ := hF _ (List.mem_cons_self ..) ⟨_, rfl, by decide⟩; subst hv; go_simp; exact hK _ _ (za.refl _) ⟨B, ys, cap9, rfl, hz, hm, hk⟩
     intro v13 K hK; go_simp; apply hK; clear hK K
     repeat ((first | ((first | apply calm_p rfl | apply zg rfl rfl rfl); case h1 => (intro w1 hw1 hF K hK; go_simp; first | exact hK _ (za.refl _))) | apply ze rfl rfl rfl rfl); intro K hK; go_simp; apply hK; clear hK K)
     refine calm_nil ?_; intro w1 hw1 hF; apply hQ0; clear hQ0; simp only [List.drop_succ_cons, List.drop_zero]; obtain ⟨D, xs3, cap3, hv, hz3, hm3, hk3⟩ := hF _ (List.mem_cons_self ..); subst hv; clear hF; have O3 := Lib.hid (And.intro hm3 (In.sml hz3 hk3 (by rw [hm3]; exact sT.out))); have Own3 := Lib.hid (Own.out.grow hw1); have Os3 := Lib.hid (fun x hx => (Os.out x hx).grow hw1); clear hz3 hm3 hk3
     by_cases he : e = 0
     ·subst he
      go_wp2_with (at_builtin; refine XP rfl _ _ rfl Y.heap.size _ bs.length bs rfl (Own3.out.grow ((za.refl _).al _)) _ (S.mk D xs3 cap3) rfl _ (zb.new _ _ _) (by have := HK.out; omega) (by have := (hg.trans hw1).size; simp; omega) ?_; intro v7 w7 own7 gr7)
      have G7 : za Y w7 := zY ((hg.trans hw1).al _) gr7 (Own3.out.grow ((za.refl _).al _)).1; have K7 : ∀ x, In w1 x -> In w7 x := fun x h => In.gb (h.grow ((za.refl _).al _)) (Own3.out.grow ((za.refl _).al _)).2 gr7
      have K9 := Lib.hid K7; have Own7 := Lib.hid own7; clear own7 gr7 K7; go_wp2; go_roundw
      case rel =>
       refine ⟨k + 1, bs ++ [S.mk D xs3 cap3], by simp; exact HK.out, by omega, by go_num, by simpa using Own7.out, fun x hx => ?_, fun j hjd hj => ?_, G7⟩
       ·rcases List.mem_append.1 hx with hx | hx
        ·exact K9.out _ (Os3.out x hx)
        ·simp at hx; subst hx; exact K9.out _ O3.out.2
       ·have hk9 := HK.out; rcases Nat.lt_or_ge j k with h | h
        ·rw [Fe bs _ (by omega)]; exact jd.out j hjd h
        ·obtain rfl : j = bs.length := by omega
         obtain ⟨h1, h2, h3⟩ := HT9.out; rw [<- hk9] at h2 h3; rw [Fd, Tw h2, Tw h3, h1, show S.z (S.mk D xs3 cap3) = T from O3.out.1]
      case measure => simp [intOf]; omega
     ·have de : (e != 0) = true := by simpa using he
      go_wp2; exact bodyPost_ret (v := .bool true) (by simp [results, Tryz.results8, go_sem]) rfl ⟨rfl, GW.trans hw1⟩
    case hp' => exact ⟨GT.pers _, GT.pers _, GS.pers _, GS.pers _, trivial⟩
   ·obtain rfl : k = ds.length := by omega
    obtain ⟨B, cap, rfl, hins⟩ := TC Own.out.1 Os.out (by have := HK.out; omega); obtain ⟨a1, m1, q1, hF1⟩ : ∃ a m e, WU (zh ts) p q (ds.map S.z) = (a, m, e) := ⟨_, _, _, rfl⟩
    obtain ⟨a2, m2, q2, hF2⟩ : ∃ a m e, WU (zh ts) p q (bs.map S.z) = (a, m, e) := ⟨_, _, _, rfl⟩
    have c1 := CX.out; have c2 := fun W (h : za wr W) => MA ts At nt p q bs B cap W HL.out.1 HL.out.2 (HTS.out.grow (GW.trans h)) (HP.out.grow (GW.trans h)) (HQ.out.grow (GW.trans h)) (hins.grow h)
    rw [hF1] at c1; rw [hF2] at c2; unfold Mn at c1 c2; unfold PL.val at c2; simp only at c1 c2; have C1 := Lib.hid c1; have C2 := Lib.hid c2; have HF := Lib.hid (And.intro hF1 hF2); have hmm : Hg (ds.map S.z) (bs.map S.z) := Fo (e := es.map S.z) (by simp; exact HLen.out) (by simp; exact HK.out.symm) HT.out.1 HT.out.2 (fun j hj => jd.out j (by simpa using hj) (by simpa using hj)); have HMM := Lib.hid hmm; obtain ⟨bp, fp⟩ := (BP.out.grow (GY.trans hg)).rules; obtain ⟨bq, fq⟩ := (BQ.out.grow (GY.trans hg)).rules; have lp := (BP.out.grow (GY.trans hg)).lt; have lq := (BQ.out.grow (GY.trans hg)).lt; clear c1 c2 hF1 hF2 hmm CX hins jd Os Own; go_upto_region 15 with (go_at_call 17; ((refine (C1.out _ GW).mono ?_); rintro en w4 ⟨B4, ys4, cap4, rfl, hz4, hm4, hk4, hg4⟩)); have O4 := Lib.hid (And.intro hz4 (And.intro hm4 hk4)); clear bp fp bq fq lp lq hz4 hm4 hk4; obtain ⟨bp, fp⟩ := (BP.out.grow (GY.trans (hg.trans hg4))).rules; obtain ⟨bq, fq⟩ := (BQ.out.grow (GY.trans (hg.trans hg4))).rules; have lp := (BP.out.grow (GY.trans (hg.trans hg4))).lt; have lq := (BQ.out.grow (GY.trans (hg.trans hg4))).lt; go_upto_region 16 with (go_at_call 17; ((refine (C2.out _ hg4).mono ?_); rintro en w5 ⟨B5, ys5, cap5, rfl, hz5, hm5, hk5, hg5⟩)); have O5 := Lib.hid (And.intro hz5 (And.intro hm5 hk5)); have G5 := GW.trans (hg4.trans hg5); clear bp fp bq fq lp lq hz5 hm5 hk5
    by_cases e1 : q1 = 0
    ·by_cases e2 : q2 = 0
     ·subst e1 e2; have d1 := BL HF.out.1; have d2 := BL HF.out.2; have i4 : In w5 ⟨B4, ys4, cap4⟩ := (In.sml O4.out.1 O4.out.2.2 (by rw [O4.out.2.1]; exact d1.sml)).grow hg5; have i5 : In w5 ⟨B5, ys5, cap5⟩ := In.sml O5.out.1 O5.out.2.2 (by rw [O5.out.2.1]; exact d2.sml)
      have cw := Np ⟨B4, ys4, cap4⟩ ⟨B5, ys5, cap5⟩ w5 i4 i5 (by show zu (ys5.map zj) = 0; rw [O5.out.2.1]; exact d2.w) (fun x hx => by
       rw [YR]; have h1 : zj x ∈ a1 := by rw [<- O4.out.2.1]; exact List.mem_map_of_mem hx
       exact (jS ⟨d1.c, d1.w⟩).2 _ h1)
      rw [(Rh _ _).2 (by show ZQ (ys4.map zj) (ys5.map zj); rw [O4.out.2.1, O5.out.2.1]; exact BM HMM.out HR.out.1 HR.out.2 HF.out.1 HF.out.2)] at cw; have CW := Lib.hid cw; clear cw i4 i5 d1 d2
      go_wp2_with (go_at_call 23; ((with_reducible refine CW.out.mono ?_); rintro en w7 ⟨rfl, hg7⟩))
      exact bodyPost_ret (v := .bool true) (by simp [results, Tryz.results8, go_sem]) rfl ⟨rfl, G5.trans hg7⟩
     ·have dd2 : (q2 != 0) = true := by simpa using e2
      subst e1; go_wp2; exact bodyPost_ret (v := .bool true) (by simp [results, Tryz.results8, go_sem]) rfl ⟨rfl, G5⟩
    ·have dd1 : (q1 != 0) = true := by simpa using e1
     go_wp2; exact bodyPost_ret (v := .bool true) (by simp [results, Tryz.results8, go_sem]) rfl ⟨rfl, G5⟩
end Go.Proofs.YtcaedcpjdmlilaaGreat

