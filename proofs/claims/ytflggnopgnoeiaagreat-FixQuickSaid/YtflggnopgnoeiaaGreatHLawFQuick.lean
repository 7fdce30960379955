/-
 The law FixQuick. No condition beside the row's own.
-/
import Derived.Test.YtflggnopgnoeiaaGreatGFs
import Derived.Test.YtflggnopgnoeiaaGreatGFr
set_option maxRecDepth 100000
set_option maxHeartbeats 8000000
set_option maxRecDepth 100000
set_option linter.unusedSimpArgs false
set_option linter.unusedVariables false
namespace Go
variable {p : Prop}
theorem vR_ (h : p := by simp [results, Tryz.results5, go_sem]) : p := h
end Go
namespace Go.Proofs.YtflggnopgnoeiaaGreat
open Go.RowKit Go.Calm
theorem Ns (ts : List (L2 Int)) (At : Option Addr) (nt : Nat) (p q : PL) (ds : List S) (Ad : Option Addr) (nd : Nat) (w : World) (hlt : ts.length <= zp) (hl : ∀ t ∈ ts, t.xs.length <= zp) (hts : WO w At ts) (hp : PX w p) (hq : PX w q) (hds : MW w Ad ds nd) :
  Calls Tryz.prog 5 #[.slice At ts.length nt, p.val, q.val, .slice Ad ds.length nd] w fun en w' => en = .returned (.bool true) /\ za w w' := by
 obtain ⟨a1, m1, q1, hF1⟩ : ∃ a m e, Zs (zg ts) p q (ds.map S.z) = (a, m, e) := ⟨_, _, _, rfl⟩
 obtain ⟨b1, e1, hQ1⟩ : ∃ a e, jy (zg ts) p q (ds.map S.z) = (a, e) := ⟨_, _, rfl⟩
 obtain ⟨WE, hW⟩ : ∃ e, xp (zg ts) p q (ds.map S.z) = e := ⟨_, rfl⟩
 obtain ⟨t1, ht1⟩ : ∃ r, Kt (ds.map S.z) = r := ⟨_, rfl⟩
 obtain ⟨C, hC⟩ : ∃ C, (zn (zg ts) p).1 = C := ⟨_, rfl⟩
 have htl : (zg ts).length = ts.length := by simp [zg]
 obtain ⟨PB, hPB⟩ : ∃ b, decide (zA ((zg ts).length : Int) q = (1, true)) = b := ⟨_, rfl⟩
 have hcq : WE = 0 -> (zn (zg ts ++ [C]) q).2 = 0 := fun h => w6_
 have c1 := fun W (h : za w W) => Nf ts At nt p q ds Ad nd W hlt hl (hts.grow h) (hp.grow h) (hq.grow h) (hds.grow h)
 have c2 := fun W (h : za w W) => Mr ts At nt p q ds Ad nd W hlt hl (hts.grow h) (hp.grow h) (hq.grow h) (hds.grow h)
 have c3 := fun W (h : za w W) => NI ts At nt p q ds Ad nd W hlt hl (hts.grow h) (hp.grow h) (hq.grow h) (hds.grow h)
 have c4 := fun (hc : (zn (zg ts ++ [C]) q).2 = 0) W (h : za w W) => SY ((zg ts).length : Int) q hc W (hq.grow h)
 have c5 := fun W (h : za w W) => Rw ds Ad nd W (hds.grow h)
 have f1 : WE ≠ 0 -> b1 = [] /\ e1 = WE := fun h => by
  have h9 := VO (ts := zg ts) (data := ds.map S.z) (p := p) (q := q) (by rw [hW]; exact h); rw [hQ1, hW] at h9; exact Prod.mk.inj h9
 have f2 : WE = 0 -> PB = false -> b1 = [] /\ e1 = 8 := fun h hp => by
  have h9 := VQ (ts := zg ts) (data := ds.map S.z) (p := p) (q := q) (by rw [hW]; exact h) (by rw [<- hPB] at hp; exact of_decide_eq_false hp); rw [hQ1] at h9; exact Prod.mk.inj h9
 have f3 : PB = true -> q1 = 0 -> t1 = true -> b1 = a1 /\ e1 = 0 := fun hp h ht => by
  subst h; have h9 := Ms (ts := zg ts) (data := ds.map S.z) hF1 (by rw [<- hPB] at hp; exact of_decide_eq_true hp) (Td (by rw [ht1]; exact ht)); rw [hQ1] at h9; exact Prod.mk.inj h9
 have f4 : q1 = 0 -> ZJ a1 := fun h => by subst h; exact (za4 hF1).sml
 rw [hF1] at c1; rw [hQ1] at c2; rw [hW] at c3; rw [hPB] at c4; rw [ht1] at c5; rw [htl] at c4; unfold MU at c1; unfold yr at c2; unfold PL.val at c1 c2 c3 c4; simp only at c1 c2; have C1 := hh_ c1; have C2 := hh_ c2; have C3 := hh_ c3; have C4 := hh_ c4; have C5 := hh_ c5; have F1 := hh_ f1; have F2 := hh_ f2; have F3 := hh_ f3; have F4 := hh_ f4; have HCQ := hh_ hcq; unfold PL.val; clear c1 c2 c3 c4 c5 f1 f2 f3 f4 hcq hts hp hq hds hlt hl hF1 hQ1 hW ht1 hC htl hPB; go_enter Tryz.func5, Tryz.ntmps5; go_upto_region 3 with (go_at_call 12; ((with_reducible refine (Gd _).mono ?_); rintro e w2 ⟨rfl, hg2⟩)); refine zc (fun X => zb X w.heap.size 39 (pC p) /\ zb X (w.heap.size + 1) 39 (pC q) /\ za w X) ⟨((zb.new w _ _).al _).grow hg2, (zb.new' _ _ _ uY_).grow hg2, za.trans ze hg2⟩ ?_; rintro X ⟨BP0, BQ0, G⟩; have BP := hh_ BP0; have BQ := hh_ BQ0; obtain ⟨bp, fp⟩ := BP0.rules; obtain ⟨bq, fq⟩ := BQ0.rules; have lp := BP0.lt; have lq := BQ0.lt; clear BP0 BQ0 hg2; generalize w.heap.size + 1 = gy at *; generalize w.heap.size = gx at *; go_upto_region 4 with (go_at_call 10; ((refine (C1.out _ G).mono ?_); rintro en w4 ⟨B4, ys4, cap4, rfl, hz4, hm4, hk4, hg4⟩)); have O4 := hh_ (And.intro hz4 (And.intro hm4 hk4)); clear bp fp bq fq lp lq hz4 hm4 hk4; obtain ⟨bp, fp⟩ := (BP.out.grow hg4).rules; obtain ⟨bq, fq⟩ := (BQ.out.grow hg4).rules; have lp := (BP.out.grow hg4).lt; have lq := (BQ.out.grow hg4).lt; go_upto_region 5 with (go_at_call 13; ((refine (C2.out _ (G.trans hg4)).mono ?_); rintro en w5 ⟨B5, ys5, cap5, rfl, hz5, hm5, hk5, hg5⟩)); have O5 := hh_ (And.intro hz5 (And.intro hm5 hk5)); have G5 := hg4.trans hg5; clear bp fp bq fq lp lq hz5 hm5 hk5; obtain ⟨bp, fp⟩ := (BP.out.grow G5).rules; obtain ⟨bq, fq⟩ := (BQ.out.grow G5).rules; have lp := (BP.out.grow G5).lt; have lq := (BQ.out.grow G5).lt; go_upto_region 6 with (go_at_call 14; ((refine (C3.out _ (G.trans G5)).mono ?_); rintro en w6 ⟨rfl, hg6⟩)); have G6 := G5.trans hg6; clear bp fp bq fq lp lq; obtain ⟨bq, fq⟩ := (BQ.out.grow G6).rules; have lq := (BQ.out.grow G6).lt
 by_cases hw0 : WE = 0
 ·have dw : (WE != 0) = false := by simp [hw0]
  have c4 := C4.out (HCQ.out hw0); have C4' := hh_ c4; have F2' := hh_ (F2.out hw0); clear hw0 c4; go_upto_region 8 with fail
  cases PB with
  | false =>
   obtain ⟨hb, he⟩ := F2'.out rfl; have hn : ys5.length = 0 := by have h := congrArg List.length O5.out.2.1; rw [hb] at h; simpa using h
   have de : (e1 == 8) = true := by simp [he]
   have dn : ((ys5.length : Int) == 0) = true := by simp [hn]
   clear hb he hn
   go_wp2_with (go_at_call 15; ((with_reducible refine (C4'.out _ (G.trans G6)).mono ?_); rintro e w7 ⟨rfl, hg7⟩))
   exact qX_ (v := .bool true) vR_ rfl ⟨rfl, G.trans (G6.trans hg7)⟩
  | true =>
   have F3' := hh_ (F3.out rfl); go_upto_region 10 with (go_at_call 15; ((with_reducible refine (C4'.out _ (G.trans G6)).mono ?_); rintro e w7 ⟨rfl, hg7⟩)); have G7 := G6.trans hg7; clear bq fq lq
   by_cases h1 : q1 = 0
   ·have d1 : (q1 != 0) = false := by simp [h1]
    cases t1 with
    | false =>
     clear h1
     go_wp2_with (go_at_call 16; ((with_reducible refine (C5.out _ (G.trans G7)).mono ?_); rintro e w8 ⟨rfl, hg8⟩))
     exact qX_ (v := .bool true) vR_ rfl ⟨rfl, G.trans (G7.trans hg8)⟩
    | true =>
     obtain ⟨hb, he⟩ := F3'.out h1 rfl; have sm := F4.out h1; have i4 : In w7 ⟨B4, ys4, cap4⟩ := In.sml (O4.out.1.grow (hg5.trans (hg6.trans hg7))) O4.out.2.2 (by rw [O4.out.2.1]; exact sm); have i5 : In w7 ⟨B5, ys5, cap5⟩ := In.sml (O5.out.1.grow (hg6.trans hg7)) O5.out.2.2 (by rw [O5.out.2.1, hb]; exact sm)
     have cs := fun W (h : za w7 W) => T3 ⟨B4, ys4, cap4⟩ ⟨B5, ys5, cap5⟩ W (i4.grow h) (i5.grow h) (by
      show ys4.map zh = ys5.map zh
      rw [O4.out.2.1, O5.out.2.1, hb])
     have CS := hh_ cs; have de : (e1 == 0) = true := by simp [he]
     clear hb he sm i4 i5 cs h1
     go_wp2_with (first
      | (go_at_call 16; ((with_reducible refine (C5.out _ (G.trans G7)).mono ?_); rintro e w8 ⟨rfl, hg8⟩))
      | (go_at_call 9; ((with_reducible refine (CS.out _ hg8).mono ?_); rintro e w9 ⟨rfl, hg9⟩)))
     exact qX_ (v := .bool true) vR_ rfl ⟨rfl, G.trans (G7.trans (hg8.trans hg9))⟩
   ·have d1 : (q1 != 0) = true := by simpa using h1
    clear h1; go_wp2; exact qX_ (v := .bool true) vR_ rfl ⟨rfl, G.trans G7⟩
 ·have dw : (WE != 0) = true := by simpa using hw0
  obtain ⟨hb, he⟩ := F1.out hw0; have hn : ys5.length = 0 := by have h := congrArg List.length O5.out.2.1; rw [hb] at h; simpa using h
  have de : (e1 == WE) = true := by simp [he]
  have dn : ((ys5.length : Int) == 0) = true := by simp [hn]
  clear hb he hn hw0; go_wp2; exact qX_ (v := .bool true) vR_ rfl ⟨rfl, G.trans G6⟩
