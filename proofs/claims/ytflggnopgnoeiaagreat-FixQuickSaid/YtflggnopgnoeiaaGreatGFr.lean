/- Parts of a proof. No condition. -/
import Derived.Test.YtflggnopgnoeiaaGreatGFc
import Derived.Test.YtflggnopgnoeiaaGreatGQd
set_option maxRecDepth 100000
set_option maxHeartbeats 8000000
set_option maxRecDepth 100000
set_option linter.unusedSimpArgs false
set_option linter.unusedVariables false
namespace Go
variable {p : Prop}
theorem va_ (h : p := by simp [results, Tryz.results14, go_sem] <;> rfl) : p := h
theorem vO_ (h : p := by simp [results, Tryz.results54, go_sem]) : p := h
theorem wr_ (h : p := by
 intro w1 hw1 hF K hK; obtain ⟨B, cap9, hv, hz⟩ := hF _ (List.mem_cons_self ..) ⟨_, rfl, by decide⟩; subst hv; go_simp; exact hK _ _ (GM.refl _) ⟨B, cap9, rfl, hz⟩) : p := h
theorem yB_ (h : p := by
 obtain ⟨B, cap, e, hz⟩ := h; exact ⟨B, cap, e, hg.isl hz⟩) : p := h
end Go
namespace Go.Proofs.YtflggnopgnoeiaaGreat
open Go.RowKit Go.Calm
def GTi (r : List Int × Int) (v : Value) (W : World) : Prop := ∃ (B : Option Addr) (cap : Nat), v = .tuple #[.slice B r.1.length cap, .int .i64 r.2] /\ yU W B r.1
def GSi (l : List Int) (v : Value) (W : World) : Prop := ∃ (B : Option Addr) (cap : Nat), v = .slice B l.length cap /\ yU W B l
theorem GTi.keep {base n : Nat} {f : TypeId -> Value} {w w' : World} {r : List Int × Int} {v : Value} (h : GTi r v w) (hg : GM base (RO n f) w w') : GTi r v w' := yB_
theorem GSi.keep {base n : Nat} {f : TypeId -> Value} {w w' : World} {l : List Int} {v : Value} (h : GSi l v w) (hg : GM base (RO n f) w w') : GSi l v w' := yB_
theorem Ri (ts : List (L2 Int)) (c : L2 Int) (q : PL) (W : World) {base : Nat} (hlt : ts.length <= 8) (hl : ∀ t ∈ ts ++ [c], t.xs.length <= zp /\ yU W t.A t.xs) (hq : PX W q) {TL : List Value} (hTL : TL = (ts ++ [c]).map vL) {v : Value} (hv : Ce 22 base TL v W) :
  Calls Tryz.prog 46 #[v, q.val] W fun en w' => WL W w' en (zn (zg (ts ++ [c])) q) := by
 obtain ⟨g, cs, rfl, _, hB, _, hle, _, hc⟩ := hv; have e1 : TL.length = (ts ++ [c]).length := by rw [hTL]; simp
 rw [e1]; subst hTL; exact WH (ts ++ [c]) (some ⟨g, 0, none⟩) cs.length q W (by unfold zp; simp; omega) (fun t ht => (hl t ht).1) (fun i s hs => ⟨g, 0, rfl, zbH (base := base) (F := vL) hB hc hs, (hl s (qZ_ hs)).2⟩) hq
theorem V5 (xs ys : List Int) (A B : Option Addr) (c d : Nat) (w : World) (hlx : xs.length <= 9223372036854775807) (hly : ys.length <= 9223372036854775807) (hx : yU w A xs) (hy : yU w B ys) :
  Calls Tryz.prog 54 #[.slice A xs.length c, .slice B ys.length d] w fun en w' => en = .returned (.bool (decide (xs = ys))) /\ za w w' := by
 have HX := hh_ hx; have HY := hh_ hy; obtain ⟨R, hR⟩ : ∃ R, decide (xs = ys) = R := ⟨_, rfl⟩
 rw [hR]; have HR := hh_ hR; clear hx hy hR; go_enter Tryz.func54, Tryz.ntmps54
 by_cases hl : xs.length = ys.length
 ·have dl : ((xs.length : Int) != (ys.length : Int)) = false := by simp; omega
  have HL := hh_ hl; clear hl; go_wp2
  go_loopw [13] (fun i wr => ∃ k : Nat, k <= xs.length /\ i = .int .i64 k /\ xs.take k = ys.take k /\ za w wr) (fun i _ => xs.length - (intOf i).toNat)
  case atStart => exact w8_
  case round =>
   obtain ⟨k, hk, rfl, hinv, hg⟩ := hrel; have xt := hh_ hinv; clear hinv
   by_cases hltk : k < xs.length
   ·obtain ⟨x, hxk⟩ : ∃ x, xs[k]? = some x := ⟨_, qQ_ hltk⟩
    obtain ⟨y, hyk⟩ : ∃ y, ys[k]? = some y := ⟨_, qQ_ ug_⟩
    obtain ⟨g1, o1, rfl, c1⟩ := (HX.out.grow hg) k x hxk; obtain ⟨g2, o2, rfl, c2⟩ := (HY.out.grow hg) k y hyk; have hk2 : k < ys.length := by have := HL.out; omega
    have Tk := hh_ (QB hxk hyk xt.out); clear hxk hyk
    by_cases hxy : x = y
    ·exact y0_
    ·have dxy : (x != y) = true := by simpa using hxy
     have fin : R = false := by rw [<- HR.out]; exact decide_eq_false (fun e => hxy (Tk.out.1 (by rw [e])))
     have Fin := hh_ fin; clear hxy fin; go_wp2
     go_quiet (fail)
     go_wp2; exact qX_ (v := .bool false) vO_ rfl ⟨by rw [Fin.out], by first | exact hg.drew | exact hg.drewN _⟩
   ·obtain rfl : k = xs.length := by omega
    have fin : R = true := wL_
    have Fin := hh_ fin; clear fin; go_wp2; exact qX_ (v := .bool true) vO_ rfl ⟨by rw [Fin.out], hg⟩
 ·have dl : ((xs.length : Int) != (ys.length : Int)) = true := by simp; omega
  have fin : R = false := by rw [<- HR.out]; exact decide_eq_false (fun e => hl (by rw [e]))
  have Fin := hh_ fin; clear hl fin; go_wp2; exact qX_ (v := .bool false) vO_ rfl ⟨by rw [Fin.out], za.refl _⟩
theorem NI (ts : List (L2 Int)) (At : Option Addr) (nt : Nat) (p q : PL) (ds : List S) (Ad : Option Addr) (nd : Nat) (w : World) (hlt : ts.length <= zp) (hl : ∀ t ∈ ts, t.xs.length <= zp) (hts : WO w At ts) (hp : PX w p) (hq : PX w q) (hds : MW w Ad ds nd) :
  Calls Tryz.prog 14 #[.slice At ts.length nt, p.val, q.val, .slice Ad ds.length nd] w fun en w' => en = .returned (.int .i64 (xp (zg ts) p q (ds.map S.z))) /\ za w w' := by
 have HTS := hh_ hts; have HQ := hh_ hq; have HL := hh_ (And.intro hlt hl); obtain ⟨C, ce, hC⟩ : ∃ C e, zn (zg ts) p = (C, e) := ⟨_, _, rfl⟩
 obtain ⟨D, de, hD⟩ : ∃ D e, zn (zg ts ++ [C]) q = (D, e) := ⟨_, _, rfl⟩
 obtain ⟨E, hE⟩ : ∃ E, yO (zg ts) (ds.map S.z) = E := ⟨_, rfl⟩
 obtain ⟨R, hR⟩ : ∃ R, xp (zg ts) p q (ds.map S.z) = R := ⟨_, rfl⟩
 have fin : R = if ce ≠ 0 then ce else if de ≠ 0 then de else if C.length ≠ D.length then 8 else if C ≠ D then 9 else E := by
  rw [<- hR]; unfold xp; rw [hC]; simp only; rw [hD, hE]
 have Fin := hh_ fin; have hC8 : C.length <= 8 := by have := ju (zg ts) p; rw [hC] at this; exact this
 have hD8 : D.length <= 8 := by have := ju (zg ts ++ [C]) q; rw [hD] at this; exact this
 have ht8 : ce = 0 -> ts.length <= 8 := fun h => xp_
 have HT8 := hh_ ht8; have HC8 := hh_ hC8; have HD8 := hh_ hD8; have c1 := fun W (h : za w W) => WH ts At nt p W hlt hl (hts.grow h) (hp.grow h)
 have c2 := fun W (h : za w W) => VW ts At nt ds Ad nd W hlt hl (hts.grow h) (hds.grow h)
 rw [hC] at c1; rw [hR]; simp only [hE] at c2; unfold WL at c1; simp only at c1; unfold PL.val at c1 ⊢; have HD := hh_ hD; have C1 := hh_ c1; have C2 := hh_ c2; clear c1 c2 hts hp hq hds hlt hl hC hD hE hR fin ht8 hC8 hD8; go_enter Tryz.func14, Tryz.ntmps14; go_upto_region 1 with fail
 refine zc (fun X => zb X w.heap.size 39 (pC p) /\ zb X (w.heap.size + 1) 39 (pC q) /\ za w X) ⟨(zb.new w _ _).al _, zb.new' _ _ _ uY_, ze⟩ ?_; rintro X ⟨BX0, BY0, G⟩; have BX := hh_ BX0; have BY := hh_ BY0; obtain ⟨bx, fx⟩ := BX0.rules; have lx := BX0.lt; clear BX0 BY0; generalize w.heap.size + 1 = gy at *; generalize w.heap.size = gx at *; go_upto_region 2 with (go_at_call 46; ((refine (C1.out _ G).mono ?_); rintro en Y ⟨B3, n3, rfl, hi3, hg3⟩)); have I3 := hh_ hi3; clear hi3 bx fx lx; have G3 := G.trans hg3
 by_cases h1 : ce = 0
 ·subst h1; have HL8 := hh_ (HT8.out rfl); clear HT8; go_upto_region 4 with fail
  have TY9 := hh_ (HTS.out.grow G3); have BQY := hh_ (BY.out.grow hg3); obtain ⟨TL, hTL⟩ : ∃ L, L = ts.map vL ++ [Value.slice B3 C.length n3] := ⟨_, rfl⟩
  have c4 : ∀ W, za Y W -> ∀ v, Ce 22 Y.heap.size TL v W -> Calls Tryz.prog 46 #[v, q.val] W fun en w' => WL W w' en (D, de) := fun W h v hv => by
   have h9 := Ri ts ⟨B3, C, n3⟩ q W HL8.out (fun t ht => by
    rcases List.mem_append.1 ht with ht | ht
    ·obtain ⟨i, hi, e⟩ := List.mem_iff_getElem.1 ht; obtain ⟨g, o, _, _, h3⟩ := (TY9.out.grow h) i t vg_; exact ⟨HL.out.2 t ht, h3⟩
    ·simp at ht; subst ht; exact ⟨by unfold zp; show C.length <= _; have := HC8.out; omega, I3.out.grow h⟩) (HQ.out.grow (G3.trans h)) (TL := TL) (by rw [hTL]; simp) hv
   have e9 : zg (ts ++ [(⟨B3, C, n3⟩ : L2 Int)]) = zg ts ++ [C] := by simp [zg]
   rw [e9, HD.out] at h9; exact h9
  unfold WL PL.val at c4; simp only at c4; have C4 := hh_ c4; have TLe := hh_ hTL; clear c4 hTL; have hR := GM.isR (base := Y.heap.size) (RO.abs ts.length (fTZ (.slice B3 C.length n3) (.slice B3 C.length n3))); apply CalmR.wp_region_calm hR 13 uQ_ uQ_
  case h' =>
   intro Q0 hQ0; simp only [List.take_succ_cons, List.take_zero]; apply CalmR.calm_fp (E0w 22 Y.heap.size) rfl
   case h1 => exact wH_
   intro v0 K hK; go_simp; apply hK; clear hK K
   repeat ((apply CalmR.calm_p rfl; case h1 => (intro w1 hw1 hF K hK; obtain ⟨x2, y2⟩ := (BQY.out.grow (GM.grow (za.refl Y) (Nat.le_refl _) hw1)).rules; go_simp; exact hK _ (GM.refl _))); intro K hK; go_simp; apply hK; clear hK K)
   apply CalmR.calm_fp (Ce 22 Y.heap.size (ts.map vL)) rfl
   case h1 =>
    intro w1 hw1 hF K hK; obtain ⟨g, hv, hlo, hb⟩ := hF _ (List.mem_cons_self ..) ⟨_, rfl, by decide⟩; subst hv; have sz1 := hw1.size; obtain ⟨v', w', hr, hp1, hg'⟩ := EN kh 31 (ts.map vL) (fun u hu => by obtain ⟨s, _, rfl⟩ := List.mem_map.1 hu; exact ⟨_, _, _, rfl⟩) (by simp; have := HL8.out; omega) (Fg (TY9.out.grow (GM.grow (za.refl Y) (Nat.le_refl _) hw1)) nt) hb hlo; exact Ph (.tmp 22) (.tmp 23) 31 rfl 31 rfl _ _ rfl rfl v' w' hr (hK _ _ (GM.of sz1 hg') hp1)
   intro v1 K hK; go_simp; apply hK; clear hK K
   repeat ((apply CalmR.calm_p rfl; case h1 => (intro w1 hw1 hF K hK; obtain ⟨x2, y2⟩ := (BQY.out.grow (GM.grow (za.refl Y) (Nat.le_refl _) hw1)).rules; go_simp; exact hK _ (GM.refl _))); intro K hK; go_simp; apply hK; clear hK K)
   apply CalmR.calm_fp (Cd 22 (.slice B3 C.length n3)) rfl
   case h1 =>
    intro w1 hw1 hF K hK; have := hw1.size; go_simp; exact hK _ _ (GM.of uX_ ((za.refl _).al _)) ⟨_, rfl, zb.new _ _ _⟩
   intro v2 K hK; go_simp; apply hK; clear hK K; apply CalmR.calm_fp (Ce 22 Y.heap.size TL) rfl
   case h1 =>
    intro w1 hw1 hF K hK; obtain ⟨g1, hv1, hb1⟩ := hF _ (List.mem_cons_self ..) ⟨_, rfl, by decide⟩; have hp := hF _ (List.mem_cons_of_mem _ (List.mem_cons_self ..)) ⟨_, rfl, by decide⟩; subst hv1; have sz1 := hw1.size; obtain ⟨v', w', hr, hp1, hg'⟩ := EP (n := ts.length) (f := fTZ (.slice B3 C.length n3) (.slice B3 C.length n3)) kh 31 hp uY_ (by have := HL8.out; omega) (fun u hu => by obtain ⟨s, _, rfl⟩ := List.mem_map.1 hu; exact ⟨_, _, _, rfl⟩) (by rw [LG]; exact ⟨_, _, _, rfl⟩) (by rw [LG]; exact hb1) sz1; rw [LG, <- TLe.out] at hp1; exact Ph (.tmp 24) (.tmp 26) 31 rfl 31 rfl _ _ rfl rfl v' w' hr (hK _ _ hg' hp1)
   intro v3 K hK; go_simp; apply hK; clear hK K
   repeat ((apply CalmR.calm_p rfl; case h1 => (intro w1 hw1 hF K hK; obtain ⟨x2, y2⟩ := (BQY.out.grow (GM.grow (za.refl Y) (Nat.le_refl _) hw1)).rules; go_simp; exact hK _ (GM.refl _))); intro K hK; go_simp; apply hK; clear hK K)
   apply CalmR.calm_fp (GTi (D, de)) rfl
   case h1 =>
    intro w1 hw1 hF K hK; have ht := hF _ (List.mem_cons_self ..) ⟨_, rfl, by decide⟩; have ce := C4.out w1 (GM.grow (za.refl Y) (Nat.le_refl _) hw1) _ ht; obtain ⟨gt, ct, rfl, _⟩ := ht; have sz1 := hw1.size; go_simp
    go_at_call 46
    refine ce.mono ?_; rintro en w' ⟨B, cap9, rfl, hz, hg'⟩; exact ⟨_, rfl, hK _ _ (GM.of sz1 hg') ⟨B, cap9, rfl, hz⟩⟩
   intro v4 K hK; go_simp; apply hK; clear hK K; apply CalmR.calm_fp (GTi (D, de)) rfl
   case h1 => exact wr_
   intro v5 K hK; go_simp; apply hK; clear hK K; apply CalmR.calm_fp (GSi D) rfl
   case h1 => exact wr_
   intro v6 K hK; go_simp; apply hK; clear hK K; apply CalmR.calm_p rfl
   case h1 =>
    intro w1 hw1 hF K hK; obtain ⟨B, cap9, hv, hz⟩ := hF _ (List.mem_cons_of_mem _ (List.mem_cons_self ..)) ⟨_, rfl, by decide⟩; subst hv; go_simp; exact hK _ (GM.refl _)
   intro K hK; go_simp; apply hK; clear hK K; apply CalmR.calm_fp (GSi D) rfl
   case h1 => exact wr_
   intro v7 K hK; go_simp; apply hK; clear hK K
   repeat ((apply CalmR.calm_p rfl; case h1 => (intro w1 hw1 hF K hK; obtain ⟨x2, y2⟩ := (BQY.out.grow (GM.grow (za.refl Y) (Nat.le_refl _) hw1)).rules; go_simp; exact hK _ (GM.refl _))); intro K hK; go_simp; apply hK; clear hK K)
   refine CalmR.calm_nil ?_; intro w6 hw6 hF; apply hQ0; clear hQ0; simp only [List.drop_succ_cons, List.drop_zero]; obtain ⟨B6, n6, hv, hi6⟩ := hF _ (List.mem_cons_self ..); subst hv; have G5 : za Y w6 := GM.grow (za.refl Y) (Nat.le_refl _) hw6; have I6 := hh_ hi6; clear hF hi6 hw6; have G6 := G3.trans G5
   by_cases h2 : de = 0
   ·have d2 : (de != 0) = false := by simp [h2]
    by_cases h3 : C.length = D.length
    ·have d3 : ((C.length : Int) != (D.length : Int)) = false := by simp; omega
     have ce := V5 C D B3 B6 n3 n6 w6 (by have := HC8.out; omega) (by have := HD8.out; omega) (I3.out.grow G5) I6.out; obtain ⟨bb, hbb⟩ : ∃ bb, decide (C = D) = bb := ⟨_, rfl⟩
     rw [hbb] at ce; have CE := hh_ ce; have HBB := hh_ hbb; have H2 := hh_ (And.intro h2 h3); clear ce hbb h2 h3; cases bb with
     | true =>
      have hCD : C = D := of_decide_eq_true HBB.out; have fin : R = E := by rw [Fin.out, if_neg uY_, if_neg uu_, if_neg uv_, if_neg (by simp [hCD])]
      have Fin2 := hh_ fin; clear hCD fin
      go_wp2_with (first
       | (go_at_call 54; ((with_reducible refine CE.out.mono ?_); rintro en w7 ⟨rfl, hg7⟩))
       | (go_at_call 55; ((with_reducible refine (C2.out _ (G6.trans hg7)).mono ?_); rintro en w8 ⟨rfl, hg8⟩)))
      refine qX_ va_ rfl ?_; exact ⟨by rw [Fin2.out], G6.trans (hg7.trans hg8)⟩
     | false =>
      have hCD : C ≠ D := of_decide_eq_false HBB.out; have fin : R = 9 := by rw [Fin.out, if_neg uY_, if_neg uu_, if_neg uv_, if_pos hCD]
      have Fin2 := hh_ fin; clear hCD fin
      go_wp2_with (go_at_call 54; ((with_reducible refine CE.out.mono ?_); rintro en w7 ⟨rfl, hg7⟩))
      refine qX_ va_ rfl ?_; exact ⟨by rw [Fin2.out], G6.trans hg7⟩
    ·have d3 : ((C.length : Int) != (D.length : Int)) = true := by simp; omega
     have fin : R = 8 := by rw [Fin.out, if_neg uY_, if_neg uT_, if_pos h3]
     have Fin2 := hh_ fin; clear h2 h3 fin; go_wp2; refine qX_ va_ rfl ?_; exact ⟨by rw [Fin2.out], G6⟩
   ·have d2 : (de != 0) = true := by simpa using h2
    have fin : R = de := by rw [Fin.out, if_neg uY_, if_pos h2]
    have Fin2 := hh_ fin; clear h2 fin; go_wp2; refine qX_ va_ rfl ?_; exact ⟨by rw [Fin2.out], G6⟩
  case hp' =>
   exact ⟨fun v w w' hg h => h.keep hg, fun v w w' hg h => h.keep hg (.inl uY_), fun v w w' hg h => by
    have := Cd.keep (f := fTZ (.slice B3 C.length n3) (.slice B3 C.length n3)) (t := 22) (v := v) (w := w) (w' := w') (by rw [LG]; exact h) hg
    rwa [LG] at this, fun v w w' hg h => h.keep hg (.inr (by rw [LG, TLe.out]; simp)), fun v w w' hg h => GTi.keep h hg, fun v w w' hg h => GTi.keep h hg, fun v w w' hg h => GSi.keep h hg, fun v w w' hg h => GSi.keep h hg, trivial⟩
 ·have d1 : (ce != 0) = true := by simpa using h1
  have fin : R = ce := by rw [Fin.out, if_pos h1]
  have Fin2 := hh_ fin; clear h1 fin; go_wp2; refine qX_ va_ rfl ?_; exact ⟨by rw [Fin2.out], G3⟩
