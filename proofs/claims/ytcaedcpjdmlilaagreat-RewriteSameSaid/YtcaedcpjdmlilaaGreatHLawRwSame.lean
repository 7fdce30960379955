/-
 A text of the proof of the law RewriteSame; no condition beside the row's own.
-/
import Derived.Test.YtcaedcpjdmlilaaGreatGWdb
import Derived.Test.YtcaedcpjdmlilaaGreatGQb
import Derived.Test.YtcaedcpjdmlilaaGreatGKa
import Derived.Test.YtcaedcpjdmlilaaGreatGQc
set_option maxRecDepth 100000
set_option maxHeartbeats 4000000
namespace Go.Proofs.YtcaedcpjdmlilaaGreat
open Go.RowKit Go.Calm
set_option linter.unusedSimpArgs false
set_option linter.unusedVariables false
theorem Gf {ts : List (List Int)} {data : List (List Z)} {p r : PL} {a b : List Z} (hr : nP r = FQ ts (nP p)) (h : yS ts p data = (a, 0)) (h2 : yS ts r data = (b, 0)) : a = b := by
 unfold FQ at hr; split at hr
 ·exact SG hr h h2
 ·rw [<- W8, hr, W8, h] at h2; exact (Prod.mk.inj h2).1
theorem Sm (ts : List (L2 Int)) (At : Option Addr) (nt : Nat) (p : PL) (ds : List S) (Ad : Option Addr) (nd : Nat) (w : World) (hlt : ts.length <= zz) (hl : ∀ t ∈ ts, t.xs.length <= zz) (hts : Nr w At ts) (hp : PX w p) (hds : Ro w Ad ds nd) :
  Calls Tryz.prog 5 #[.slice At ts.length nt, p.val, .slice Ad ds.length nd] w fun en w' => en = .returned (.bool true) /\ za w w' := by
 have HTS := Lib.hid hts; have HPX := Lib.hid hp; have HDS := Lib.hid hds; have HL := Lib.hid (And.intro hlt hl); obtain ⟨CE, hCE⟩ : ∃ CE, zi (zh ts) p = CE := ⟨_, rfl⟩
 obtain ⟨a1, e1, hE1⟩ : ∃ a e, yS (zh ts) p (ds.map S.z) = (a, e) := ⟨_, _, rfl⟩
 have c1 := fun W (h : za w W) => Kb ts At nt p W hlt hl (hts.grow h) (hp.grow h)
 have c2 := fun W (h : za w W) => YQ ts At nt p ds Ad nd W hlt hl (hts.grow h) (hp.grow h) (hds.grow h)
 unfold PlR at c1; unfold yu at c2; rw [hCE] at c1; rw [hE1] at c2; simp only at c2; unfold PL.val at c1 c2; have C1 := Lib.hid c1; have C2 := Lib.hid c2; have HCE := Lib.hid hCE; have HE1 := Lib.hid hE1; unfold PL.val; clear c1 c2 hts hp hds hlt hl hCE hE1; go_enter Tryz.func5, Tryz.ntmps5; go_upto_region 3 with (go_at_call 19; ((with_reducible refine (zak _).mono ?_); rintro e w2 ⟨rfl, hg2⟩)); refine zc (fun X => zb X w.heap.size 31 (pC p) /\ za w X) ⟨(zb.new w _ _).grow hg2, za.trans (by with_reducible repeat (first | exact za.refl _ | assumption | refine za.set ?_ (by simp <;> omega) _ | refine za.al ?_ _ | refine za.drew ?_ | refine za.drewN ?_ _ | refine za.trans ?_ (by assumption))) hg2⟩ ?_; rintro X ⟨BX0, G⟩; have BX := Lib.hid BX0; obtain ⟨bx, fx⟩ := BX0.rules; have lx := BX0.lt; clear BX0 hg2; generalize w.heap.size = gx at *; go_upto_region 4 with (go_at_call 20; ((refine (C1.out _ G).mono ?_); rintro en w3 ⟨r1, rfl, hg3, hpx1, hn1⟩)); refine zc (fun Y => zb Y w3.heap.size 31 (pC r1) /\ PX Y r1 /\ za X Y) ⟨zb.new _ _ _, hpx1.grow (by with_reducible repeat (first | exact za.refl _ | assumption | refine za.set ?_ (by simp <;> omega) _ | refine za.al ?_ _ | refine za.drew ?_ | refine za.drewN ?_ _ | refine za.trans ?_ (by assumption))), (by with_reducible repeat (first | exact za.refl _ | assumption | refine za.set ?_ (by simp <;> omega) _ | refine za.al ?_ _ | refine za.drew ?_ | refine za.drewN ?_ _ | refine za.trans ?_ (by assumption)))⟩ ?_; rintro Y ⟨BR0, hpy1, GY⟩; generalize w3.heap.size = gr at *; have BR := Lib.hid BR0; have HN1 := Lib.hid hn1; have HP1 := Lib.hid hpy1; clear bx fx lx BR0 hn1 hpx1 hpy1 hg3; obtain ⟨bx, fx⟩ := (BX.out.grow GY).rules; have lx := (BX.out.grow GY).lt
 by_cases h0 : CE.2 = 0
 ·have d0 : (CE.2 != 0) = false := by simp [h0]
  have hn1 := HN1.out h0; obtain ⟨a2, e2, hE2⟩ : ∃ a e, yS (zh ts) r1 (ds.map S.z) = (a, e) := ⟨_, _, rfl⟩
  have hab : e1 = 0 -> e2 = 0 -> a1 = a2 := fun q1 q2 => by
   subst q1 q2; exact Gf hn1 HE1.out hE2
  have c3 := fun W (h : za Y W) => YQ ts At nt r1 ds Ad nd W HL.out.1 HL.out.2 (HTS.out.grow (G.trans (GY.trans h))) (HP1.out.grow h) (HDS.out.grow (G.trans (GY.trans h)))
  unfold yu at c3; rw [hE2] at c3; simp only at c3; unfold PL.val at c3; have C3 := Lib.hid c3; have HAB := Lib.hid hab; have HE2 := Lib.hid hE2; clear c3 hab hE2 hn1 h0; go_upto_region 7 with (go_at_call 14; ((refine (C2.out _ (G.trans GY)).mono ?_); rintro en w4 ⟨B4, ys4, cap4, rfl, hz4, hm4, hk4, hg4⟩)); have O4 := Lib.hid (And.intro hz4 (And.intro hm4 hk4)); clear bx fx lx hz4 hm4 hk4; obtain ⟨br, fr⟩ := (BR.out.grow hg4).rules; have lr := (BR.out.grow hg4).lt; go_upto_region 8 with (go_at_call 14; ((refine (C3.out _ hg4).mono ?_); rintro en w5 ⟨B5, ys5, cap5, rfl, hz5, hm5, hk5, hg5⟩)); have O5 := Lib.hid (And.intro hz5 (And.intro hm5 hk5)); clear br fr lr hz5 hm5 hk5; have G5 := G.trans (GY.trans (hg4.trans hg5))
  by_cases q1 : e1 = 0
  ·by_cases q2 : e2 = 0
   ·have cs := Ge ⟨B4, ys4, cap4⟩ ⟨B5, ys5, cap5⟩ w5 ((Hp HE1.out q1 O4.out.1 O4.out.2.1 O4.out.2.2).grow hg5) (Hp HE2.out q2 O5.out.1 O5.out.2.1 O5.out.2.2) (by
     show ys4.map zj = ys5.map zj; rw [O4.out.2.1, O5.out.2.1]
     exact HAB.out q1 q2)
    have CS := Lib.hid cs; subst q1 q2; clear cs
    go_wp2_with (go_at_call 16; ((with_reducible refine CS.out.mono ?_); rintro en w7 ⟨rfl, hg7⟩))
    exact bodyPost_ret (v := .bool true) (by simp [results, Tryz.results5, go_sem]) rfl ⟨rfl, G5.trans hg7⟩
   ·have d2 : (e2 != 0) = true := by simpa using q2
    subst q1; go_wp2; exact bodyPost_ret (v := .bool true) (by simp [results, Tryz.results5, go_sem]) rfl ⟨rfl, G5⟩
  ·have d1 : (e1 != 0) = true := by simpa using q1
   go_wp2; exact bodyPost_ret (v := .bool true) (by simp [results, Tryz.results5, go_sem]) rfl ⟨rfl, G5⟩
 ·have d0 : (CE.2 != 0) = true := by simpa using h0
  clear h0; go_wp2; exact bodyPost_ret (v := .bool true) (by simp [results, Tryz.results5, go_sem]) rfl ⟨rfl, G.trans GY⟩
end Go.Proofs.YtcaedcpjdmlilaaGreat

