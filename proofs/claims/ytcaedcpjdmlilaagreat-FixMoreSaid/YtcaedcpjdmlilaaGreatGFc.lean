/-
 Joined texts of this claim: LawF0, LawF1, LawQ0, LawQA0, LawF2, LawF3, LawF4. What each proves its own head says; no condition beside those that each theorem names.
-/
import Derived.Test.YtcaedcpjdmlilaaGreatGFa
import Derived.Test.YtcaedcpjdmlilaaGreatGFb
import Derived.Test.YtcaedcpjdmlilaaGreatGJ
import Derived.Test.YtcaedcpjdmlilaaGreatGK
import Derived.Test.YtcaedcpjdmlilaaGreatGWb
import Derived.Test.YtcaedcpjdmlilaaGreatGQb
import Derived.Test.YtcaedcpjdmlilaaGreatGKa
import Derived.Test.YtcaedcpjdmlilaaGreatGCr
import Derived.Test.YtcaedcpjdmlilaaGreatGWb7
import Derived.Test.YtcaedcpjdmlilaaGreatGQa
set_option maxRecDepth 100000
set_option maxHeartbeats 8000000
namespace Go.Proofs.YtcaedcpjdmlilaaGreat
open Go.RowKit Go.Calm
set_option linter.unusedSimpArgs false
set_option linter.unusedVariables false
def Y4 (a b : List Z) : Bool := a.all (fun r => decide (1 <= yi b r.1))
theorem Rh (a b : List Z) : Y4 a b = true ↔ ZQ a b := by
 unfold Y4 ZQ; rw [List.all_eq_true]; exact ⟨fun h r hr => of_decide_eq_true (h r hr), fun h r hr => decide_eq_true (h r hr)⟩
theorem Np (a b : S) (w : World) (ha : In w a) (hb : In w b) (hwb : zu b.z = 0) (hra : ∀ x ∈ a.xs, QH x.row = 0) :
  Calls Tryz.prog 23 #[.slice a.A a.xs.length a.cap, .slice b.A b.xs.length b.cap] w fun en w' => en = .returned (.bool (Y4 a.z b.z)) /\ za w w' := by
 have HA := Lib.hid ha; have HB := Lib.hid hb; have HW := Lib.hid hwb; have HR := Lib.hid hra; have hla := ha.ok.1; obtain ⟨R, hR⟩ : ∃ R, Y4 a.z b.z = R := ⟨_, rfl⟩
 rw [hR]; have HRR := Lib.hid hR; clear ha hb hwb hra hR; go_enter Tryz.func23, Tryz.ntmps23; go_wp2
 go_loopw [9] (fun i wr => ∃ k : Nat, k <= a.xs.length /\ i = .int .i64 k /\ (∀ x ∈ a.xs.take k, 1 <= yi b.z x.row) /\ za w wr) (fun i _ => a.xs.length - (intOf i).toNat)
 case atStart => exact ⟨0, Nat.zero_le _, rfl, (fun x hx => by simp at hx), za.refl _⟩
 case round =>
  obtain ⟨k, hk, rfl, hinv, hg⟩ := hrel; have jd := Lib.hid hinv; clear hinv
  by_cases hltk : k < a.xs.length
  ·obtain ⟨x, hxk⟩ : ∃ x, a.xs[k]? = some x := ⟨_, List.getElem?_eq_getElem hltk⟩
   obtain ⟨g1, o1, e1, c1, c1', v1⟩ := (HA.out.z.grow hg) k x hxk; rw [e1]; have l1 : g1 < wr.heap.size := za.lt c1; have cw := fun W (h : za wr W) => Rn b.xs b.A b.cap x.row x.A x.cap W ((HB.out.z.grow hg).grow h) HW.out (v1.grow h) (HR.out x (List.mem_of_getElem? hxk))
   obtain ⟨n, hn⟩ : ∃ n, yi (b.xs.map zj) x.row = n := ⟨_, rfl⟩
   simp only [hn] at cw; have CW := Lib.hid cw; have HN := Lib.hid hn; have HXK := Lib.hid hxk; clear cw hn hxk v1
   by_cases h1 : n < 1
   ·have d1 : decide (n < 1) = true := decide_eq_true h1
    have fin : R = false := by
     rw [<- HRR.out]; unfold Y4; rw [Bool.eq_false_iff]; intro h; have h2 := of_decide_eq_true (List.all_eq_true.1 h (zj x) (List.mem_map_of_mem (List.mem_of_getElem? HXK.out))); have h3 : yi b.z x.row = n := HN.out; simp only [zj] at h2; omega
    have Fin := Lib.hid fin; clear h1 fin
    go_wp2_with (go_at_call 50; ((with_reducible refine (CW.out _ (by with_reducible repeat (first | exact za.refl _ | assumption | refine za.set ?_ (by simp <;> omega) _ | refine za.al ?_ _ | refine za.drew ?_ | refine za.drewN ?_ _ | refine za.trans ?_ (by assumption)))).mono ?_); rintro e w6 ⟨rfl, hg6⟩))
    exact bodyPost_ret (v := .bool false) (by simp [results, Tryz.results23, go_sem]) rfl ⟨by rw [Fin.out], hg.trans (za.trans (by with_reducible repeat (first | exact za.refl _ | assumption | refine za.set ?_ (by simp <;> omega) _ | refine za.al ?_ _ | refine za.drew ?_ | refine za.drewN ?_ _ | refine za.trans ?_ (by assumption))) hg6)⟩
   ·have d1 : decide (n < 1) = false := decide_eq_false h1; have H1 := Lib.hid h1; clear h1
    go_wp2_with (go_at_call 50; ((with_reducible refine (CW.out _ (by with_reducible repeat (first | exact za.refl _ | assumption | refine za.set ?_ (by simp <;> omega) _ | refine za.al ?_ _ | refine za.drew ?_ | refine za.drewN ?_ _ | refine za.trans ?_ (by assumption)))).mono ?_); rintro e w6 ⟨rfl, hg6⟩))
    go_roundw
    case rel => exact ⟨k + 1, by omega, by go_num, (fun y hy => by
     obtain ⟨q1, q2⟩ := List.getElem?_eq_some_iff.1 HXK.out; rw [List.take_succ_eq_append_getElem q1, q2] at hy; rcases List.mem_append.1 hy with h | h
     ·exact jd.out y h
     ·simp at h; subst h; have h3 : yi b.z y.row = n := HN.out; have := H1.out
      omega), hg.trans (za.trans (by with_reducible repeat (first | exact za.refl _ | assumption | refine za.set ?_ (by simp <;> omega) _ | refine za.al ?_ _ | refine za.drew ?_ | refine za.drewN ?_ _ | refine za.trans ?_ (by assumption))) hg6)⟩
    case measure => simp [intOf]; omega
  ·obtain rfl : k = a.xs.length := by omega
   have fin : R = true := by
    rw [<- HRR.out]; unfold Y4; rw [List.all_eq_true]; intro r hr; obtain ⟨x, hx, rfl⟩ := List.mem_map.1 hr; exact decide_eq_true (jd.out x (by rw [List.take_length]; exact hx))
   have Fin := Lib.hid fin; clear fin; go_wp2; exact bodyPost_ret (v := .bool true) (by simp [results, Tryz.results23, go_sem]) rfl ⟨by rw [Fin.out], hg⟩
/-! rising -/
theorem WD (p : PL) (w : World) (hm : p.m <= zz) (hk : ∀ i, i < p.m -> (∃ g o, p.A = some ⟨g, o, none⟩ /\ zX w g (o + i * 11) (p.kid i)) /\ PX w (p.kid i)) (ih : ∀ i, i < p.m -> ∀ w, PX w (p.kid i) -> Calls Tryz.prog 24 #[(p.kid i).val] w fun en w' => en = .returned (.bool (xI (p.kid i))) /\ za w w') (kk : Int) (hkk : p.k = kk) (R : Bool) (hR : ((kk == 1 || kk == 2 || kk == 3 || kk == 4 || kk == 5 || kk == 8 || kk == 10 || kk == 11) && (List.range p.m).all (fun i => xI (p.kid i))) = R) :
  Calls Tryz.prog 24 #[p.val] w fun en w' => en = .returned (.bool R) /\ za w w' := by
 have HK := Lib.hid hk; have IH := Lib.hid ih; have HR := Lib.hid hR; have hm' : p.m <= 140737488355328 := hm; unfold PL.val; rw [hkk]; clear hk ih hR hm; go_enter Tryz.func24, Tryz.ntmps24; go_upto_region 1 with fail
 refine zc (fun X => zb X w.heap.size 31 #[.int .i64 kk, .int .i64 p.n, .int .i64 p.x.kind, .int .i64 p.x.v.k, .int .i64 p.x.v.n, .string p.x.v.s, .int .i64 p.x.col, .slice p.x.A p.x.n p.x.cap, .slice p.xs.A p.xs.l.length p.xs.c, .slice p.ag.A p.ag.l.length p.ag.c, .slice p.A p.m p.cap] /\ za w X) ⟨zb.new _ _ _, (za.refl w).al _⟩ ?_; rintro X ⟨BX0, G⟩; have BX := Lib.hid BX0; obtain ⟨bx, fx⟩ := BX0.rules; have lx := BX0.lt; clear BX0 hkk; generalize w.heap.size = gx at *
 by_cases hk1 : kk = 1 \/ kk = 2 \/ kk = 3 \/ kk = 4 \/ kk = 5 \/ kk = 8 \/ kk = 10 \/ kk = 11
 ·have inv0 : (List.range p.m).all (fun i => xI (p.kid i)) = R := by
   rw [<- HR.out]
   have : (kk == 1 || kk == 2 || kk == 3 || kk == 4 || kk == 5 || kk == 8 || kk == 10 || kk == 11) = true := by
    rcases hk1 with h | h | h | h | h | h | h | h <;> subst h <;> rfl
   rw [this, Bool.true_and]
  have Inv0 := Lib.hid inv0; clear inv0 HR
  rcases hk1 with h | h | h | h | h | h | h | h <;> subst h <;> (
   go_wp2
   go_loopw [19] (fun i wr => ∃ k : Nat, k <= p.m /\ i = .int .i64 k /\ (∀ i, i < k -> xI (p.kid i) = true) /\ za X wr) (fun i _ => p.m - (intOf i).toNat)
   case atStart => exact ⟨0, Nat.zero_le _, rfl, (fun i hi => absurd hi (Nat.not_lt_zero i)), za.refl _⟩
   case round =>
    obtain ⟨k, hk, rfl, hall, hg⟩ := hrel; have All := Lib.hid hall; clear hall
    by_cases hlt : k < p.m
    ·obtain ⟨⟨g, o, hA, hc⟩, hpx⟩ := HK.out k hlt; obtain ⟨k0, k1, k2, k3, k4, k5, k6, k7, k8, k9, k10⟩ := hc.grow (G.trans hg); have cs := fun W (h : za w W) => IH.out k hlt W (hpx.grow h)
     unfold PL.val at cs; obtain ⟨b, hb⟩ : ∃ b, xI (p.kid k) = b := ⟨_, rfl⟩
     rw [hb] at cs; have CS := Lib.hid cs; have HB := Lib.hid hb; clear cs hb hc hpx; rw [hA]; have Gw := G.trans hg; cases b with
     | false =>
      have fin : R = false := by
       rw [<- Inv0.out, Bool.eq_false_iff]; intro h; have := List.all_eq_true.1 h k (List.mem_range.2 hlt); rw [HB.out] at this; cases this
      have Fin := Lib.hid fin; clear fin
      go_wp2_with (go_at_call 24; ((with_reducible refine (CS.out _ (by with_reducible repeat (first | exact za.refl _ | assumption | refine za.set ?_ (by simp <;> omega) _ | refine za.al ?_ _ | refine za.drew ?_ | refine za.drewN ?_ _ | refine za.trans ?_ (by assumption)))).mono ?_); rintro e w6 ⟨rfl, hg6⟩))
      exact bodyPost_ret (v := .bool false) (by simp [results, Tryz.results24, go_sem]) rfl ⟨by rw [Fin.out], za.trans (by with_reducible repeat (first | exact za.refl _ | assumption | refine za.set ?_ (by simp <;> omega) _ | refine za.al ?_ _ | refine za.drew ?_ | refine za.drewN ?_ _ | refine za.trans ?_ (by assumption))) hg6⟩
     | true =>
      go_wp2_with (go_at_call 24; ((with_reducible refine (CS.out _ (by with_reducible repeat (first | exact za.refl _ | assumption | refine za.set ?_ (by simp <;> omega) _ | refine za.al ?_ _ | refine za.drew ?_ | refine za.drewN ?_ _ | refine za.trans ?_ (by assumption)))).mono ?_); rintro e w6 ⟨rfl, hg6⟩))
      go_roundw
      case rel => exact ⟨k + 1, by omega, by go_num, (fun i hi => by
       rcases Nat.lt_succ_iff_lt_or_eq.1 hi with h | rfl
       ·exact All.out i h
       ·exact HB.out), hg.trans (za.trans (by with_reducible repeat (first | exact za.refl _ | assumption | refine za.set ?_ (by simp <;> omega) _ | refine za.al ?_ _ | refine za.drew ?_ | refine za.drewN ?_ _ | refine za.trans ?_ (by assumption))) hg6)⟩
      case measure => simp [intOf]; omega
    ·obtain rfl : k = p.m := by omega
     have fin : R = true := by rw [<- Inv0.out]; exact List.all_eq_true.2 (fun i hi => All.out i (List.mem_range.1 hi))
     have Fin := Lib.hid fin; clear fin; go_wp2
     exact bodyPost_ret (v := .bool true) (by simp [results, Tryz.results24, go_sem]) rfl ⟨by rw [Fin.out], G.trans hg⟩)
 ·have fin : R = false := by
   rw [<- HR.out]
   have : (kk == 1 || kk == 2 || kk == 3 || kk == 4 || kk == 5 || kk == 8 || kk == 10 || kk == 11) = false := by
    rw [Bool.eq_false_iff]; intro h; simp only [Bool.or_eq_true, beq_iff_eq] at h; omega
   rw [this, Bool.false_and]
  have Fin := Lib.hid fin; have f1 : (kk == 1) = false := by rw [beq_eq_false_iff_ne]; omega
  have f2 : (kk == 2) = false := by rw [beq_eq_false_iff_ne]; omega
  have f3 : (kk == 3) = false := by rw [beq_eq_false_iff_ne]; omega
  have f4 : (kk == 4) = false := by rw [beq_eq_false_iff_ne]; omega
  have f5 : (kk == 5) = false := by rw [beq_eq_false_iff_ne]; omega
  have f8 : (kk == 8) = false := by rw [beq_eq_false_iff_ne]; omega
  have f10 : (kk == 10) = false := by rw [beq_eq_false_iff_ne]; omega
  have f11 : (kk == 11) = false := by rw [beq_eq_false_iff_ne]; omega
  clear hk1 fin HR; go_wp2; exact bodyPost_ret (v := .bool false) (by simp [results, Tryz.results24, go_sem]) rfl ⟨by rw [Fin.out], G⟩
theorem Vl (k n : Int) (x : E) (xs : jj) (ag : jh) (A : Option Addr) (m cap : Nat) (kid : Nat -> PL) : xI (.mk k n x xs ag A m cap kid) = ((k == 1 || k == 2 || k == 3 || k == 4 || k == 5 || k == 8 || k == 10 || k == 11) && (List.range m).all (fun i => xI (kid i))) := by rw [xI]
theorem QG (p : PL) : ∀ w, PX w p -> Calls Tryz.prog 24 #[p.val] w fun en w' => en = .returned (.bool (xI p)) /\ za w w' := by
 induction p with
 | leaf => intro w hp; exact WD .leaf w (Nat.zero_le _) (fun i hi => absurd hi (Nat.not_lt_zero i)) (fun i hi => absurd hi (Nat.not_lt_zero i)) 0 rfl _ rfl
 | mk k n x xs ag A m cap kid ih =>
  intro w hp; cases hp with
  | mk hm hc hk hx hs ha hl hi => exact WD (.mk k n x xs ag A m cap kid) w hm (fun i hi => ⟨hc i hi, hk i hi⟩) (fun i hi w hp => ih i w hp) k rfl _ (Vl k n x xs ag A m cap kid).symm
def Wj (ds : List (List Z)) : Bool := ds.all (fun z => z.all (fun r => decide (1 <= r.2)))
theorem Kp {ds : List (List Z)} (h : Wj ds = true) : ∀ z ∈ ds, Zl z := fun z hz y hy => by
 have := of_decide_eq_true (List.all_eq_true.1 (List.all_eq_true.1 h z hz) y hy); omega
theorem Ut (k : Int) (w : World) : Calls Tryz.prog 60 #[.int .i64 k] w fun en w' => en = .returned (.agg #[.int .i64 2, .int .i64 0, .int .i64 0, .string ⟨#[]⟩, .int .i64 k, .slice none 0 0]) /\ za w w' := by
 go_enter Tryz.func60, Tryz.ntmps60; go_wp2; refine bodyPost_ret (by simp [results, Tryz.results60, go_sem] <;> rfl) rfl ?_; exact ⟨rfl, (by with_reducible repeat (first | exact za.refl _ | assumption | refine za.set ?_ (by simp <;> omega) _ | refine za.al ?_ _ | refine za.drew ?_ | refine za.drewN ?_ _ | refine za.trans ?_ (by assumption)))⟩
theorem WJ (ds : List S) (A : Option Addr) (c : Nat) (w : World) (h : Ro w A ds c) :
  Calls Tryz.prog 25 #[.slice A ds.length c] w fun en w' => en = .returned (.bool (Wj (ds.map S.z))) /\ za w w' := by
 have H := Lib.hid h; have hlen := h.len; obtain ⟨R, hR⟩ : ∃ R, Wj (ds.map S.z) = R := ⟨_, rfl⟩
 rw [hR]; have HR := Lib.hid hR; clear h hR; go_enter Tryz.func25, Tryz.ntmps25; go_wp2
 go_loopw [9] (fun i wr => ∃ k : Nat, k <= ds.length /\ i = .int .i64 k /\ (∀ s ∈ ds.take k, ∀ x ∈ s.xs, 1 <= x.w) /\ za w wr) (fun i _ => ds.length - (intOf i).toNat)
 case atStart => exact ⟨0, Nat.zero_le _, rfl, (fun s hs => by simp at hs), za.refl _⟩
 case round =>
  obtain ⟨k, hk, rfl, hinv, hg⟩ := hrel; have jd := Lib.hid hinv; clear hinv
  by_cases hltk : k < ds.length
  ·obtain ⟨s, hsk⟩ : ∃ s, ds[k]? = some s := ⟨_, List.getElem?_eq_getElem hltk⟩
   obtain ⟨g1, o1, rfl, c1, hz⟩ := (H.out.grow hg).s k s hsk; have hls := (H.out.each s (List.mem_of_getElem? hsk)).ok.1; have HZ := Lib.hid hz; have HSK := Lib.hid hsk; clear hz hsk; go_wp2
   go_loopw [15] (fun i wx => ∃ j : Nat, j <= s.xs.length /\ i = .int .i64 j /\ (∀ x ∈ s.xs.take j, 1 <= x.w) /\ za wr wx) (fun i _ => s.xs.length - (intOf i).toNat)
   case atStart => exact ⟨0, Nat.zero_le _, rfl, (fun x hx => by simp at hx), za.refl _⟩
   case round =>
    obtain ⟨j, hj, rfl, hinv2, hg2⟩ := hrel; have Inv2 := Lib.hid hinv2; clear hinv2
    by_cases hltj : j < s.xs.length
    ·obtain ⟨x, hxj⟩ : ∃ x, s.xs[j]? = some x := ⟨_, List.getElem?_eq_getElem hltj⟩
     obtain ⟨g2, o2, e2, d1, d1', v1⟩ := (HZ.out.grow hg2) j x hxj; rw [e2]; have l2 := za.lt d1; have HXJ := Lib.hid hxj; clear hxj v1
     by_cases h1 : x.w < 1
     ·have q1 : decide (x.w < 1) = true := decide_eq_true h1
      have fin : R = false := by
       rw [<- HR.out, Bool.eq_false_iff]; intro hh; have h2 := List.all_eq_true.1 hh s.z (List.mem_map_of_mem (List.mem_of_getElem? HSK.out)); have h3 := of_decide_eq_true (List.all_eq_true.1 h2 (zj x) (List.mem_map_of_mem (List.mem_of_getElem? HXJ.out))); simp only [zj] at h3; omega
      have Fin := Lib.hid fin; clear h1 fin; go_wp2; exact bodyPost_ret (v := .bool false) (by simp [results, Tryz.results25, go_sem]) rfl ⟨by rw [Fin.out], hg.trans (hg2.trans (by with_reducible repeat (first | exact za.refl _ | assumption | refine za.set ?_ (by simp <;> omega) _ | refine za.al ?_ _ | refine za.drew ?_ | refine za.drewN ?_ _ | refine za.trans ?_ (by assumption))))⟩
     ·have q1 : decide (x.w < 1) = false := decide_eq_false h1; have H1 := Lib.hid h1; clear h1; go_wp2; go_roundw
      case rel => exact ⟨j + 1, by omega, by go_num, (fun y hy => by
       obtain ⟨q1, q2⟩ := List.getElem?_eq_some_iff.1 HXJ.out; rw [List.take_succ_eq_append_getElem q1, q2] at hy; rcases List.mem_append.1 hy with h | h
       ·exact Inv2.out y h
       ·simp at h; subst h; have := H1.out; omega), hg2.trans (by with_reducible repeat (first | exact za.refl _ | assumption | refine za.set ?_ (by simp <;> omega) _ | refine za.al ?_ _ | refine za.drew ?_ | refine za.drewN ?_ _ | refine za.trans ?_ (by assumption)))⟩
      case measure => simp [intOf]; omega
    ·obtain rfl : j = s.xs.length := by omega
     have Al := Lib.hid (show ∀ x ∈ s.xs, 1 <= x.w from fun x hx => Inv2.out x (by rw [List.take_length]; exact hx)); go_wp2; go_roundw
     case rel => exact ⟨k + 1, by omega, by go_num, (fun y hy => by
      obtain ⟨q1, q2⟩ := List.getElem?_eq_some_iff.1 HSK.out; rw [List.take_succ_eq_append_getElem q1, q2] at hy; rcases List.mem_append.1 hy with h | h
      ·exact jd.out y h
      ·simp at h; subst h; exact Al.out), hg.trans hg2⟩
     case measure => simp [intOf]; omega
  ·obtain rfl : k = ds.length := by omega
   have fin : R = true := by
    rw [<- HR.out]; unfold Wj; rw [List.all_eq_true]; intro z hz; obtain ⟨s, hs, rfl⟩ := List.mem_map.1 hz; rw [List.all_eq_true]; intro r hr; obtain ⟨x, hx, rfl⟩ := List.mem_map.1 hr; exact decide_eq_true (jd.out s (by rw [List.take_length]; exact hs) x hx)
   have Fin := Lib.hid fin; clear fin; go_wp2; exact bodyPost_ret (v := .bool true) (by simp [results, Tryz.results25, go_sem]) rfl ⟨by rw [Fin.out], hg⟩
theorem So (a b : Int) (w : World) : Calls Tryz.prog 30 #[.int .i64 a, .int .i64 b] w fun en w' => ∃ g, en = .returned (.agg #[.slice (some ⟨g, 0, none⟩) 2 2, .int .i64 1]) /\ DV w' g [nV a, nV b] /\ za w w' := by
 go_enter Tryz.func30, Tryz.ntmps30; go_wp2; refine bodyPost_ret (v := .agg #[.slice (some ⟨w.heap.size + 1, 0, none⟩) 2 2, .int .i64 1]) (by simp [results, Tryz.results30, go_sem] <;> rfl) rfl ?_; refine ⟨_, rfl, ?_, ((za.refl w).al _).al _⟩; have e : w.heap.size + 1 = (w.alloc (.cells #[.slice (some ⟨w.heap.size + 1, 0, none⟩) 2 2, .int .i64 1] 62)).heap.size := by simp
 have h := zb.new (w.alloc (.cells #[.slice (some ⟨w.heap.size + 1, 0, none⟩) 2 2, .int .i64 1] 62)) 24 #[.int .i64 3, .int .i64 a, .string ⟨#[]⟩, .int .i64 3, .int .i64 b, .string ⟨#[]⟩]; rw [<- e] at h; exact h
abbrev W0 (n : Int) : PL := .mk 1 n .leaf ZG Y8 none 0 0 (fun _ => .leaf)
theorem Dp (w : World) {n : Int} (hn : xj n) : PX w (W0 n) := .mk (Nat.zero_le _) (fun i hi => absurd hi (Nat.not_lt_zero _)) (fun i hi => absurd hi (Nat.not_lt_zero _)) .leaf (fun i x h => by simp at h) (fun i x h => by simp at h) ⟨by decide, by decide⟩ ⟨⟨by decide, by decide⟩, hn⟩
theorem P1 {g n c : Nat} (h : n <= c) : yw (some ⟨g, 0, none⟩) n c := ⟨h, fun e => by cases e⟩
/-! is -/
def QAl (lo : Nat) (v : Value) (W : World) : Prop := ∃ g : Nat, v = .pointer (some ⟨g, 0, none⟩) /\ lo <= g /\ zb W g 31 #[.int .i64 0, .int .i64 0, .int .i64 0, .int .i64 0, .int .i64 0, .string ⟨#[]⟩, .int .i64 0, .slice none 0 0, .slice none 0 0, .slice none 0 0, .slice none 0 0]
def QK2 (p q : PL) (v : Value) (W : World) : Prop := ∃ g : Nat, v = .slice (some ⟨g, 0, none⟩) 2 2 /\ zb W g 31 (pC2 p q)
theorem QK2.pers (p q : PL) : xx (QK2 p q) := fun v w w' hg ⟨g, e, hb⟩ => ⟨g, e, hb.grow hg⟩
theorem XW {w : World} {g h : Nat} {t u : TypeId} {cs ds : Array Value} (h1 : zb w g t cs) (h2 : zb w h u ds) (hs : cs.size ≠ ds.size) : h ≠ g := fun e => by
 subst e; unfold zb at h1 h2; rw [h1] at h2; simp at h2; exact hs (by rw [h2.1])
theorem QAl.pers (lo : Nat) : xx (QAl lo) := fun v w w' hg ⟨g, e, h, hb⟩ => ⟨g, e, h, hb.grow hg⟩
section
variable {ts : List (List Int)} {data : List (List Z)} {p q r s : PL} {x : E} {a b : List Z}
end
end Go.Proofs.YtcaedcpjdmlilaaGreat

namespace Go.Proofs.YtcaedcpjdmlilaaGreat
open Go.RowKit Go.Calm
set_option linter.unusedSimpArgs false
set_option linter.unusedVariables false
abbrev cE (k : Int) : E := .mk 2 ⟨0, 0, ⟨#[]⟩⟩ k none 0 0 (fun _ => .leaf)
abbrev eqE (g : Nat) (i j : Int) : E := .mk 6 ⟨0, 0, ⟨#[]⟩⟩ 0 (some ⟨g, 0, none⟩) 2 2 (fun n => if n = 0 then cE i else cE j)
abbrev XM (ge gk : Nat) : PL := qh 4 0 (eqE ge 1 2) ZG Y8 gk 2 (W0 1) (W0 0)
abbrev qS (gs gj ge gk : Nat) : PL := KW 3 0 .leaf ⟨some ⟨gs, 0, none⟩, [cE 0, cE 3], 2⟩ Y8 gj 1 (XM ge gk)
abbrev Ei (i j : Int) : Array Value := #[.int .i64 2, .int .i64 0, .int .i64 0, .string ⟨#[]⟩, .int .i64 i, .slice none 0 0, .int .i64 2, .int .i64 0, .int .i64 0, .string ⟨#[]⟩, .int .i64 j, .slice none 0 0]
theorem EC (w : World) {k : Int} (hk : xj k) : EX w (cE k) := .mk (Nat.zero_le _) (fun i hi => absurd hi (Nat.not_lt_zero _)) (fun i hi => absurd hi (Nat.not_lt_zero _)) D0 ⟨⟨by decide, by decide⟩, hk⟩
theorem RF {w : World} {g : Nat} {i j : Int} (h : zb w g 27 (Ei i j)) (n : Nat) (hn : n < 2) : zv w g (n * 6) (if n = 0 then cE i else cE j) := by
 have hc : ∀ m v, (Ei i j)[m]? = some v -> w.cell? ⟨g, m, none⟩ = some v := fun m v hv => h.cells hv
 rcases Nat.lt_or_ge n 1 with h1 | h1
 ·obtain rfl : n = 0 := by omega
  exact ⟨hc 0 _ rfl, hc 1 _ rfl, hc 2 _ rfl, hc 3 _ rfl, hc 4 _ rfl, hc 5 _ rfl⟩
 ·obtain rfl : n = 1 := by omega
  exact ⟨hc 6 _ rfl, hc 7 _ rfl, hc 8 _ rfl, hc 9 _ rfl, hc 10 _ rfl, hc 11 _ rfl⟩
theorem zbJ {w : World} {g : Nat} {i j : Int} (hi : xj i) (hj : xj j) (h : zb w g 27 (Ei i j)) : EX w (eqE g i j) := .mk (by decide) (fun k hk => ⟨g, 0, rfl, by have := RF h k hk; simpa using this⟩) (fun k hk => by
 show EX w (if k = 0 then cE i else cE j); split
 ·exact EC w hi
 ·exact EC w hj) D0 ⟨⟨by decide, by decide⟩, ⟨by decide, by decide⟩⟩
theorem zam {w : World} {g : Nat} {i j : Int} (hi : xj i) (hj : xj j) (h : zb w g 27 (Ei i j)) : KG w (some ⟨g, 0, none⟩) [cE i, cE j] := fun k x hk => by
 match k, hk with
 | 0, hk => simp at hk; subst hk; exact ⟨g, 0, rfl, by have := RF h 0 (by omega); simpa using this, EC w hi⟩
 | 1, hk => simp at hk; subst hk; exact ⟨g, 0, rfl, by have := RF h 1 (by omega); simpa using this, EC w hj⟩
def PCs (i j : Int) (v : Value) (W : World) : Prop := ∃ g : Nat, v = .slice (some ⟨g, 0, none⟩) 2 2 /\ zb W g 27 (Ei i j)
def PCq (i j : Int) (v : Value) (W : World) : Prop := ∃ g : Nat, v = (eqE g i j).val /\ zb W g 27 (Ei i j)
def PCj (v : Value) (W : World) : Prop := ∃ ge gk : Nat, v = (XM ge gk).val /\ zb W ge 27 (Ei 1 2) /\ zb W gk 31 (pC2 (W0 1) (W0 0))
theorem PCs.pers (i j : Int) : xx (PCs i j) := fun v w w' hg ⟨g, e, hb⟩ => ⟨g, e, hb.grow hg⟩
theorem PCq.pers (i j : Int) : xx (PCq i j) := fun v w w' hg ⟨g, e, hb⟩ => ⟨g, e, hb.grow hg⟩
theorem PCj.pers : xx PCj := fun v w w' hg ⟨g, k, e, hb, hc⟩ => ⟨g, k, e, hb.grow hg, hc.grow hg⟩
def PC3 (b : Nat) (i j : Int) (v : Value) (W : World) : Prop := ∃ g : Nat, v = .slice (some ⟨g, 0, none⟩) 2 2 /\ b < g /\ zb W g 27 (Ei i j)
def PC4 (b : Nat) (p : PL) (v : Value) (W : World) : Prop := ∃ g : Nat, v = .slice (some ⟨g, 0, none⟩) 1 1 /\ b < g /\ zb W g 31 (pC p)
def PC5 (b ge gk : Nat) (v : Value) (W : World) : Prop := ∃ gs gj : Nat, v = (qS gs gj ge gk).val /\ b < gs /\ b < gj /\ zb W gs 27 (Ei 0 3) /\ zb W gj 31 (pC (XM ge gk))
theorem SI (w : World) (g : Nat) (r : PL) : Below g w (st11 w g r) := ((((((((((((Below.refl g w).setCell (Nat.le_refl _) _).setCell (Nat.le_refl _) _).setCell (Nat.le_refl _) _).setCell (Nat.le_refl _) _).setCell (Nat.le_refl _) _).setCell (Nat.le_refl _) _).setCell (Nat.le_refl _) _).setCell (Nat.le_refl _) _).setCell (Nat.le_refl _) _).setCell (Nat.le_refl _) _).setCell (Nat.le_refl _) _)
theorem GM.st11 {base b0 : Nat} {w : World} {t : TypeId} {a0 a1 a2 a3 a4 a5 a6 a7 a8 a9 a10 : Value} (r : PL) (hb : base <= b0) (h : zb w b0 t #[a0, a1, a2, a3, a4, a5, a6, a7, a8, a9, a10]) : GM base (M1 b0 (.cells (pC r) t (0, 0))) w (st11 w b0 r) := by
 refine GM.put hb (by simp) (SI w b0 r) (fun g hg => yF w b0 r hg) (zq r h)
abbrev z11 : Array Value := #[.int .i64 0, .int .i64 0, .int .i64 0, .int .i64 0, .int .i64 0, .string ⟨#[]⟩, .int .i64 0, .slice none 0 0, .slice none 0 0, .slice none 0 0, .slice none 0 0]
theorem PP (w : World) : Calls Tryz.prog 31 #[] w fun en w' => ∃ ge gk gs gj : Nat, en = .returned (.tuple #[(W0 0).val, (qS gs gj ge gk).val]) /\ PX w' (qS gs gj ge gk) /\ za w w' := by
 have cc := fun k W => Ut k W
 go_enter Tryz.func31, Tryz.ntmps31; go_upto_region 2 with fail
 refine zc (fun X => zb X w.heap.size 31 z11 /\ zb X (w.heap.size + 1) 31 z11 /\ zb X (w.heap.size + 2) 31 (pC (W0 0)) /\ za w X) ?_ ?_
 ·exact ⟨((zb.new w _ _).al _).al _, (zb.new' _ _ _ (by simp)).al _, zb.new' _ _ _ (by simp), (((za.refl w).al _).al _).al _⟩
 rintro X ⟨B0, B1, B2, G⟩; generalize hb0 : w.heap.size = b0 at *; have H2 := Lib.hid B2; apply wp_region_calm 9 (by kernel_rfl) (by kernel_rfl)
 case h' =>
  intro Q0 hQ0; simp only [List.take_succ_cons, List.take_zero]
  repeat ((first | ((first | apply calm_p rfl | apply zg rfl rfl rfl); case h1 => (intro w1 hw1 hF K hK; obtain ⟨x2, y2⟩ := (H2.out.grow hw1).rules; go_simp; first | exact hK _ (za.refl _) | (go_at_call 60; ((with_reducible refine (cc _ _).mono ?_); rintro e w' ⟨rfl, hg⟩; exact ⟨_, rfl, hK _ hg⟩)))) | apply ze rfl rfl rfl rfl); intro K hK; go_simp; apply hK; clear hK K)
  apply calm_fp (PCs 1 2) rfl
  case h1 =>
   intro w1 hw1 hF K hK; go_simp; exact hK _ _ ((za.refl _).al _) ⟨_, rfl, zb.new _ _ _⟩
  intro v7 K hK; go_simp; apply hK; clear hK K; apply calm_fp (PCq 1 2) rfl
  case h1 =>
   intro w1 hw1 hF K hK; obtain ⟨g, hv, h1⟩ := hF _ (List.mem_cons_self ..) ⟨_, rfl, by decide⟩; subst hv; go_simp; exact hK _ _ (za.refl _) ⟨g, rfl, h1⟩
  intro v8 K hK; go_simp; apply hK; clear hK K
  repeat ((first | ((first | apply calm_p rfl | apply zg rfl rfl rfl); case h1 => (intro w1 hw1 hF K hK; obtain ⟨x2, y2⟩ := (H2.out.grow hw1).rules; go_simp; first | exact hK _ (za.refl _))) | apply ze rfl rfl rfl rfl); intro K hK; go_simp; apply hK; clear hK K)
  apply calm_fp (QK2 (W0 1) (W0 0)) rfl
  case h1 =>
   intro w1 hw1 hF K hK; go_simp; exact hK _ _ ((za.refl _).al _) ⟨_, rfl, zb.new _ _ _⟩
  intro v11 K hK; go_simp; apply hK; clear hK K; apply calm_fp PCj rfl
  case h1 =>
   intro w1 hw1 hF K hK; obtain ⟨gk, hv, h1⟩ := hF _ (List.mem_cons_self ..) ⟨_, rfl, by decide⟩; obtain ⟨ge, hv2, h2⟩ := hF _ (List.mem_cons_of_mem _ (List.mem_cons_self ..)) ⟨_, rfl, by decide⟩; subst hv hv2; go_simp; exact hK _ _ (za.refl _) ⟨ge, gk, rfl, h2, h1⟩
  intro v12 K hK; go_simp; apply hK; clear hK K; apply calm_fp (QAl (b0 + 3)) rfl
  case h1 =>
   intro w1 hw1 hF K hK; go_simp; have := hw1.size; have := H2.out.lt; exact hK _ _ ((za.refl _).al _) ⟨_, rfl, by omega, zb.new _ _ _⟩
  intro v3 K hK; go_simp; apply hK; clear hK K; refine calm_nil ?_; intro w1 hw1 hF; apply hQ0; clear hQ0; simp only [List.drop_succ_cons, List.drop_zero]; obtain ⟨g3, hv3, hl3, h3⟩ := hF _ (List.mem_cons_self ..); obtain ⟨ge, gk, hv12, h12a, h12b⟩ := hF _ (List.mem_cons_of_mem _ (List.mem_cons_self ..)); subst hv3 hv12; clear hF; have H3 := Lib.hid h3; have GX := G.trans hw1; obtain ⟨x3, y3⟩ := h3.rules; go_wp2; have ne1 : ge ≠ g3 := fun e => by subst e; exact absurd (xy h12a h3) (by decide)
  have ne2 := XW h12b h3 (by simp); refine zc (fun Y => zb Y b0 31 z11 /\ zb Y (b0 + 1) 31 z11 /\ zb Y (b0 + 2) 31 (pC (W0 0)) /\ zb Y g3 31 (pC (XM ge gk)) /\ zb Y ge 27 (Ei 1 2) /\ zb Y gk 31 (pC2 (W0 1) (W0 0)) /\ za w Y) ⟨(yF w1 g3 (XM ge gk) (by omega)).trans (B0.grow hw1), (yF w1 g3 (XM ge gk) (by omega)).trans (B1.grow hw1), (yF w1 g3 (XM ge gk) (by omega)).trans (B2.grow hw1), zq (XM ge gk) h3, (yF w1 g3 (XM ge gk) ne1).trans h12a, (yF w1 g3 (XM ge gk) (Ne.symm ne2)).trans h12b, ja GX (by omega) (XM ge gk)⟩ ?_; clear h3 h12a h12b H3 GX x3 y3 ne1 ne2 hw1 B0 B1 B2 H2 G; rintro Y ⟨B0, B1, B2, B3, B4, B5, G⟩; have H0 := Lib.hid B0; have H1 := Lib.hid B1; have H2 := Lib.hid B2; have H3 := Lib.hid B3; have n4 : ge ≠ b0 := fun e => by subst e; exact absurd (xy B4 B0) (by decide)
  have n5 := XW B5 B0 (by simp); have n6 : ge ≠ b0 + 1 := fun e => by subst e; exact absurd (xy B4 B1) (by decide)
  have n7 := XW B5 B1 (by simp); have H4 := Lib.hid (And.intro B4 B5); have lY := B2.lt; clear B0 B1 B2 B3 B4 B5; apply CalmR.wp_region_calm (GM.isR (base := b0) (M1.abs b0 (.cells (pC (W0 0)) 31 (0, 0)))) 8 (by kernel_rfl) (by kernel_rfl)
  case h' =>
   intro Q0 hQ0; simp only [List.take_succ_cons, List.take_zero]
   repeat ((apply CalmR.calm_p rfl; case h1 => (intro w1 hw1 hF K hK; obtain ⟨x2, y2⟩ := (hw1.other H2.out (by omega)).rules; go_simp; first | exact hK _ (GM.refl _) | (go_at_call 60; ((with_reducible refine (cc _ _).mono ?_); rintro e w' ⟨rfl, hg⟩; exact ⟨_, rfl, hK _ (GM.of (by have := hw1.size; omega) hg)⟩)))); intro K hK; go_simp; apply hK; clear hK K)
   apply CalmR.calm_fp (PC3 (b0 + 2) 0 3) rfl
   case h1 =>
    intro w1 hw1 hF K hK; have := hw1.size; go_simp; exact hK _ _ (GM.of (by omega) ((za.refl _).al _)) ⟨_, rfl, by omega, zb.new _ _ _⟩
   intro v16 K hK; go_simp; apply hK; clear hK K
   repeat ((apply CalmR.calm_p rfl; case h1 => (intro w1 hw1 hF K hK; obtain ⟨x2, y2⟩ := (hw1.other H3.out (by omega)).rules; go_simp; exact hK _ (GM.refl _))); intro K hK; go_simp; apply hK; clear hK K)
   apply CalmR.calm_fp (PC4 (b0 + 2) (XM ge gk)) rfl
   case h1 =>
    intro w1 hw1 hF K hK; have := hw1.size; go_simp; exact hK _ _ (GM.of (by omega) ((za.refl _).al _)) ⟨_, rfl, by omega, zb.new _ _ _⟩
   intro v18 K hK; go_simp; apply hK; clear hK K; apply CalmR.calm_fp (PC5 (b0 + 2) ge gk) rfl
   case h1 =>
    intro w1 hw1 hF K hK; obtain ⟨gj, hv, hl1, h1⟩ := hF _ (List.mem_cons_self ..) ⟨_, rfl, by decide⟩; obtain ⟨gs, hv2, hl2, h2⟩ := hF _ (List.mem_cons_of_mem _ (List.mem_cons_self ..)) ⟨_, rfl, by decide⟩; subst hv hv2; go_simp; exact hK _ _ (GM.refl _) ⟨gs, gj, rfl, hl2, hl1, h2, h1⟩
   intro v19 K hK; go_simp; apply hK; clear hK K; apply CalmR.calm_fp (fun _ W => zb W b0 31 (pC (W0 0))) rfl
   case h1 =>
    intro w1 hw1 hF K hK; rcases hw1.or H0.out with h | h
    ·obtain ⟨x0, y0⟩ := h.rules; go_simp; exact hK _ _ (GM.st11 (W0 0) (Nat.le_refl _) h) (zq (W0 0) h)
    ·obtain ⟨x0, y0⟩ := h.rules; go_simp; exact hK _ _ (GM.st11 (W0 0) (Nat.le_refl _) h) (zq (W0 0) h)
   intro v99 K hK; go_simp; apply hK; clear hK K; refine CalmR.calm_nil ?_; intro w1 hw1 hF; apply hQ0; clear hQ0; simp only [List.drop_succ_cons, List.drop_zero]; have hf0 := hF _ (List.mem_cons_self ..); obtain ⟨gs, gj, hv, hl1, hl2, h1, h2⟩ := hF _ (List.mem_cons_of_mem _ (List.mem_cons_self ..)); subst hv; clear hF; have b1 := hw1.other H1.out (by omega); have b4 := hw1.other H4.out.1 n4; have b5 := hw1.other H4.out.2 (Ne.symm n5); have z0 : zb (st11 w1 (b0 + 1) (qS gs gj ge gk)) b0 31 (pC (W0 0)) := (yF w1 (b0 + 1) _ (by omega)).trans hf0; have z1 := zq (qS gs gj ge gk) b1; have z2 := (yF w1 (b0 + 1) (qS gs gj ge gk) (fun e => by subst e; exact absurd (xy h1 b1) (by decide))).trans h1; have z3 := (yF w1 (b0 + 1) (qS gs gj ge gk) (by omega)).trans h2; have z4 := (yF w1 (b0 + 1) (qS gs gj ge gk) n6).trans b4; have z5 := (yF w1 (b0 + 1) (qS gs gj ge gk) (Ne.symm n7)).trans b5; have z6 : za w (st11 w1 (b0 + 1) (qS gs gj ge gk)) := ja (GM.grow G (by omega) hw1) (by omega) _; have ZZ := Lib.hid (And.intro z2 (And.intro z3 (And.intro z4 (And.intro z5 z6)))); obtain ⟨xb, yb⟩ := b1.rules; obtain ⟨xa, ya⟩ := z0.rules; obtain ⟨xc, yc⟩ := z1.rules; clear hf0 h1 h2 b1 b4 b5 z0 z1 z2 z3 z4 z5 z6 H0 H1 H2 H3 H4 n4 n5 n6 n7 hl1 hl2; go_wp2; refine bodyPost_ret (v := .tuple #[(W0 0).val, (qS gs gj ge gk).val]) (by simp [results, Tryz.results31, go_sem, xa, xc] <;> rfl) rfl ?_; obtain ⟨q2, q3, q4, q5, q6⟩ := ZZ.out; refine ⟨ge, gk, gs, gj, rfl, ?_, q6⟩; exact Nb 1 q3 ⟨.leaf, zam ⟨by decide, by decide⟩ ⟨by decide, by decide⟩ q2, fun i x h => by simp at h, ⟨by show 2 <= _; decide, by decide⟩, ⟨by decide, by decide⟩, ⟨by decide, by decide⟩⟩ (Dq 2 q5 ⟨zbJ ⟨by decide, by decide⟩ ⟨by decide, by decide⟩ q4, fun i x h => by simp at h, fun i x h => by simp at h, by decide, ⟨by decide, by decide⟩, ⟨by decide, by decide⟩⟩ (Dp _ ⟨by decide, by decide⟩) (Dp _ ⟨by decide, by decide⟩))
  case hp' => exact ⟨fun v w w' hg ⟨g, e, hn, hb⟩ => ⟨g, e, hn, hg.other hb (by omega)⟩, fun v w w' hg ⟨g, e, hn, hb⟩ => ⟨g, e, hn, hg.other hb (by omega)⟩, fun v w w' hg ⟨g, k, e, hn, hn2, hb, hc⟩ => ⟨g, k, e, hn, hn2, hg.other hb (by omega), hg.other hc (by omega)⟩, fun v w w' hg h => hg.fin h, trivial⟩
 case hp' => exact ⟨PCs.pers _ _, PCq.pers _ _, QK2.pers _ _, PCj.pers, QAl.pers _, trivial⟩
theorem Ud (gs gj ge gk : Nat) : WU [[3, 3]] (W0 0) (qS gs gj ge gk) [[([nV 1, nV 2], 1), ([nV 2, nV 3], 1)]] = ([([nV 1, nV 2], 1), ([nV 1, nV 3], 1), ([nV 2, nV 3], 1)], 2, 0) := by kernel_rfl
abbrev lk1 (g : Nat) : I := ⟨some ⟨g, 0, none⟩, [nV 1, nV 2], 2, 1⟩
abbrev lk2 (g : Nat) : I := ⟨some ⟨g, 0, none⟩, [nV 2, nV 3], 2, 1⟩
def A6 (v : Value) (W : World) : Prop := ∃ gt gi : Nat, v = .slice (some ⟨gt, 0, none⟩) 1 1 /\ zb W gt 33 #[.slice (some ⟨gi, 0, none⟩) 2 2] /\ zb W gi 3 #[.int .i64 3, .int .i64 3]
def A7 (v : Value) (W : World) : Prop := ∃ gi : Nat, v = .slice (some ⟨gi, 0, none⟩) 2 2 /\ zb W gi 3 #[.int .i64 3, .int .i64 3]
def A8 (row : List V) (v : Value) (W : World) : Prop := ∃ g : Nat, v = .agg #[.slice (some ⟨g, 0, none⟩) 2 2, .int .i64 1] /\ DV W g row
def A9 (v : Value) (W : World) : Prop := ∃ gz g1 g2 : Nat, v = .slice (some ⟨gz, 0, none⟩) 2 2 /\ DB W gz [lk1 g1, lk2 g2] /\ DV W g1 [nV 1, nV 2] /\ DV W g2 [nV 2, nV 3]
def A5 (v : Value) (W : World) : Prop := ∃ gs gz g1 g2 : Nat, v = .slice (some ⟨gs, 0, none⟩) 1 1 /\ zb W gs 38 #[.slice (some ⟨gz, 0, none⟩) 2 2] /\ DB W gz [lk1 g1, lk2 g2] /\ DV W g1 [nV 1, nV 2] /\ DV W g2 [nV 2, nV 3]
def A3 (v : Value) (_ : World) : Prop := ∃ (B : Option Addr) (cap : Nat), v = .tuple #[.slice B 3 cap, .int .i64 2, .int .i64 0]
def A4 (v : Value) (_ : World) : Prop := ∃ (B : Option Addr) (cap : Nat), v = .slice B 3 cap
theorem A6.pers : xx A6 := fun v w w' hg ⟨a, b, e, h1, h2⟩ => ⟨a, b, e, h1.grow hg, h2.grow hg⟩
theorem A7.pers : xx A7 := fun v w w' hg ⟨a, e, h1⟩ => ⟨a, e, h1.grow hg⟩
theorem A8.pers (row : List V) : xx (A8 row) := fun v w w' hg ⟨a, e, h1⟩ => ⟨a, e, zb.grow h1 hg⟩
theorem A9.pers : xx A9 := fun v w w' hg ⟨a, b, c, e, h1, h2, h3⟩ => ⟨a, b, c, e, h1.grow hg, zb.grow h2 hg, zb.grow h3 hg⟩
theorem A5.pers : xx A5 := fun v w w' hg ⟨a, b, c, d, e, h0, h1, h2, h3⟩ => ⟨a, b, c, d, e, h0.grow hg, h1.grow hg, zb.grow h2 hg, zb.grow h3 hg⟩
theorem A3.pers : xx A3 := fun v w w' hg h => h
theorem A4.pers : xx A4 := fun v w w' hg h => h
theorem E8 {gt gi gs gz g1 g2 ps pj pe pk : Nat} {W : World} (h1 : zb W gt 33 #[.slice (some ⟨gi, 0, none⟩) 2 2]) (h2 : zb W gi 3 #[.int .i64 3, .int .i64 3]) (h3 : zb W gs 38 #[.slice (some ⟨gz, 0, none⟩) 2 2]) (h4 : DB W gz [lk1 g1, lk2 g2]) (h5 : DV W g1 [nV 1, nV 2]) (h6 : DV W g2 [nV 2, nV 3]) (hp : PX W (qS ps pj pe pk)) :
  Calls Tryz.prog 17 #[.slice (some ⟨gt, 0, none⟩) 1 1, (W0 0).val, (qS ps pj pe pk).val, .slice (some ⟨gs, 0, none⟩) 1 1] W fun en w' => (∃ (B : Option Addr) (cap : Nat), en = .returned (.tuple #[.slice B 3 cap, .int .i64 2, .int .i64 0])) /\ za W w' := by
 have hzi : xF W (some ⟨gz, 0, none⟩) [lk1 g1, lk2 g2] := zbp h4 (fun x hx => by
  rcases List.mem_cons.1 hx with rfl | hx
  ·exact h5.vsl
  ·simp at hx; subst hx; exact h6.vsl)
 have hin : In W ⟨some ⟨gz, 0, none⟩, [lk1 g1, lk2 g2], 2⟩ := ⟨hzi, P1 (by simp), by show (2 : Nat) <= _; decide, fun x hx => by
  rcases List.mem_cons.1 hx with rfl | hx
  ·simp
  ·simp at hx; subst hx; simp⟩
 have h := MA [⟨some ⟨gi, 0, none⟩, [3, 3], 2⟩] (some ⟨gt, 0, none⟩) 1 (W0 0) (qS ps pj pe pk) [⟨some ⟨gz, 0, none⟩, [lk1 g1, lk2 g2], 2⟩] (some ⟨gs, 0, none⟩) 1 W (show 1 <= zz by decide) (fun t ht => by simp at ht; subst ht; show 2 <= zz; decide) (fun i s hs => by
  match i, hs with
  | 0, hs =>
   simp at hs; subst hs
   exact ⟨gt, 0, rfl, h1.cells rfl, fun i x hx => by
    match i, hx with
    | 0, hx => simp at hx; subst hx; exact ⟨gi, 0, rfl, h2.cells rfl⟩
    | 1, hx => simp at hx; subst hx; exact ⟨gi, 0, rfl, h2.cells rfl⟩⟩) (Dp W ⟨by decide, by decide⟩) hp
  ⟨fun i s hs' => by
   match i, hs' with
   | 0, hs' => simp at hs'; subst hs'; exact ⟨gs, 0, rfl, h3.cells rfl, hzi⟩, fun s hs' => by simp at hs'; subst hs'; exact hin, P1 (by simp), by simp⟩
 have e : WU (zh [⟨some ⟨gi, 0, none⟩, [3, 3], 2⟩]) (W0 0) (qS ps pj pe pk) ([⟨some ⟨gz, 0, none⟩, [lk1 g1, lk2 g2], 2⟩].map S.z) = _ := Ud ps pj pe pk; rw [e] at h; refine h.mono ?_; rintro en w' ⟨B, ys, cap, rfl, _, hm, _, hg⟩; have hl : ys.length = 3 := by have := congrArg List.length hm; simpa using this
 rw [hl]; exact ⟨⟨B, cap, rfl⟩, hg⟩
theorem Ey (w : World) : Calls Tryz.prog 21 #[] w fun en w' => en = .returned (.bool true) /\ za w w' := by
 have cl := fun a b W => So a b W
 have cp := PP w; go_enter Tryz.func21, Tryz.ntmps21; go_upto_region 2 with (go_at_call 31; ((with_reducible refine cp.mono ?_); rintro en w1 ⟨ge, gk, gs, gj, rfl, hp, hg⟩)); refine zc (fun X => zb X w1.heap.size 31 (pC (W0 0)) /\ zb X (w1.heap.size + 1) 31 (pC (qS gs gj ge gk)) /\ PX X (qS gs gj ge gk) /\ za w X) ?_ ?_
 ·exact ⟨(zb.new w1 _ _).al _, zb.new' _ _ _ (by simp), hp.grow (((za.refl w1).al _).al _), (hg.al _).al _⟩
 rintro X ⟨B0, B1, P, G⟩; have H0 := Lib.hid B0; have H1 := Lib.hid B1; have HP := Lib.hid P; clear B0 B1 P hp; apply wp_region_calm 16 (by kernel_rfl) (by kernel_rfl)
 case h' =>
  intro Q0 hQ0; simp only [List.take_succ_cons, List.take_zero]; apply calm_fp A7 rfl
  case h1 =>
   intro w1 hw1 hF K hK; go_simp; exact hK _ _ ((za.refl _).al _) ⟨_, rfl, zb.new _ _ _⟩
  intro v11 K hK; go_simp; apply hK; clear hK K; apply calm_fp A6 rfl
  case h1 =>
   intro w1 hw1 hF K hK; obtain ⟨gi, hv, h1⟩ := hF _ (List.mem_cons_self ..) ⟨_, rfl, by decide⟩; subst hv; go_simp; exact hK _ _ ((za.refl _).al _) ⟨_, gi, rfl, zb.new _ _ _, h1.al _⟩
  intro v12 K hK; go_simp; apply hK; clear hK K
  repeat ((first | ((first | apply calm_p rfl | apply zg rfl rfl rfl); case h1 => (intro w1 hw1 hF K hK; obtain ⟨x0, y0⟩ := (H0.out.grow hw1).rules; obtain ⟨x1, y1⟩ := (H1.out.grow hw1).rules; go_simp; first | exact hK _ (za.refl _))) | apply ze rfl rfl rfl rfl); intro K hK; go_simp; apply hK; clear hK K)
  apply calm_fp (A8 [nV 1, nV 2]) rfl
  case h1 =>
   intro w1 hw1 hF K hK; go_simp
   go_at_call 30
   refine (cl _ _ _).mono ?_; rintro en w' ⟨g, rfl, h1, hg'⟩; exact ⟨_, rfl, hK _ _ hg' ⟨g, rfl, h1⟩⟩
  intro v15 K hK; go_simp; apply hK; clear hK K; apply calm_fp (A8 [nV 2, nV 3]) rfl
  case h1 =>
   intro w1 hw1 hF K hK; go_simp
   go_at_call 30
   refine (cl _ _ _).mono ?_; rintro en w' ⟨g, rfl, h1, hg'⟩; exact ⟨_, rfl, hK _ _ hg' ⟨g, rfl, h1⟩⟩
  intro v16 K hK; go_simp; apply hK; clear hK K; apply calm_fp A9 rfl
  case h1 =>
   intro w1 hw1 hF K hK; obtain ⟨g2, hv, h2⟩ := hF _ (List.mem_cons_self ..) ⟨_, rfl, by decide⟩; obtain ⟨g1, hv1, h1⟩ := hF _ (List.mem_cons_of_mem _ (List.mem_cons_self ..)) ⟨_, rfl, by decide⟩; subst hv hv1; go_simp; exact hK _ _ ((za.refl _).al _) ⟨_, g1, g2, rfl, zb.new _ _ _, zb.al h1 _, zb.al h2 _⟩
  intro v17 K hK; go_simp; apply hK; clear hK K; apply calm_fp A5 rfl
  case h1 =>
   intro w1 hw1 hF K hK; obtain ⟨gz, g1, g2, hv, hz, h1, h2⟩ := hF _ (List.mem_cons_self ..) ⟨_, rfl, by decide⟩; subst hv; go_simp; exact hK _ _ ((za.refl _).al _) ⟨_, gz, g1, g2, rfl, zb.new _ _ _, zb.al hz _, zb.al h1 _, zb.al h2 _⟩
  intro v18 K hK; go_simp; apply hK; clear hK K; apply calm_fp A3 rfl
  case h1 =>
   intro w1 hw1 hF K hK; obtain ⟨gs, gz, g1, g2, hv, hs, hz, h1, h2⟩ := hF _ (List.mem_cons_self ..) ⟨_, rfl, by decide⟩; obtain ⟨gt, gi, hv2, ht, hi⟩ := hF _ (List.mem_cons_of_mem _ (List.mem_cons_of_mem _ (List.mem_cons_of_mem _ (List.mem_cons_of_mem _ (List.mem_cons_self ..))))) ⟨_, rfl, by decide⟩; subst hv hv2; go_simp
   go_at_call 17
   refine (E8 ht hi hs hz h1 h2 (HP.out.grow hw1)).mono ?_; rintro en w' ⟨⟨B, cap, rfl⟩, hg'⟩; exact ⟨_, rfl, hK _ _ hg' ⟨B, cap, rfl⟩⟩
  intro v19 K hK; go_simp; apply hK; clear hK K; apply calm_fp A3 rfl
  case h1 =>
   intro w1 hw1 hF K hK; obtain ⟨B, cap, hv⟩ := hF _ (List.mem_cons_self ..) ⟨_, rfl, by decide⟩; subst hv; go_simp; exact hK _ _ (za.refl _) ⟨B, cap, rfl⟩
  intro v10 K hK; go_simp; apply hK; clear hK K; apply calm_fp A4 rfl
  case h1 =>
   intro w1 hw1 hF K hK; obtain ⟨B, cap, hv⟩ := hF _ (List.mem_cons_self ..) ⟨_, rfl, by decide⟩; subst hv; go_simp; exact hK _ _ (za.refl _) ⟨B, cap, rfl⟩
  intro v20 K hK; go_simp; apply hK; clear hK K; apply calm_p rfl
  case h1 =>
   intro w1 hw1 hF K hK; obtain ⟨B, cap, hv⟩ := hF _ (List.mem_cons_of_mem _ (List.mem_cons_self ..)) ⟨_, rfl, by decide⟩; subst hv; go_simp; exact hK _ (za.refl _)
  intro K hK; go_simp; apply hK; clear hK K; apply calm_p rfl
  case h1 =>
   intro w1 hw1 hF K hK; obtain ⟨B, cap, hv⟩ := hF _ (List.mem_cons_of_mem _ (List.mem_cons_self ..)) ⟨_, rfl, by decide⟩; subst hv; go_simp; exact hK _ (za.refl _)
  intro K hK; go_simp; apply hK; clear hK K; apply calm_fp A4 rfl
  case h1 =>
   intro w1 hw1 hF K hK; obtain ⟨B, cap, hv⟩ := hF _ (List.mem_cons_self ..) ⟨_, rfl, by decide⟩; subst hv; go_simp; exact hK _ _ (za.refl _) ⟨B, cap, rfl⟩
  intro v3 K hK; go_simp; apply hK; clear hK K
  repeat ((first | ((first | apply calm_p rfl | apply zg rfl rfl rfl); case h1 => (intro w1 hw1 hF K hK; go_simp; first | exact hK _ (za.refl _))) | apply ze rfl rfl rfl rfl); intro K hK; go_simp; apply hK; clear hK K)
  refine calm_nil ?_; intro w1 hw1 hF; apply hQ0; clear hQ0; simp only [List.drop_succ_cons, List.drop_zero]; obtain ⟨B, cap, hv⟩ := hF _ (List.mem_cons_self ..); subst hv; clear hF; go_wp2; refine bodyPost_ret (by simp [results, Tryz.results21, go_sem] <;> rfl) rfl ?_; exact ⟨rfl, G.trans hw1⟩
 case hp' => exact ⟨A7.pers, A6.pers, A8.pers _, A8.pers _, A9.pers, A5.pers, A3.pers, A3.pers, A4.pers, A4.pers, trivial⟩
theorem BL {ts : List (List Int)} {p q : PL} {data : List (List Z)} {z : List Z} {m : Int} (h : WU ts p q data = (z, m, 0)) : D1 z := by
 obtain ⟨_, f, g, _, h2, h3⟩ := R5 h; obtain ⟨_, hz, _⟩ := YM 50 1 g (XY h2).1 h3; exact hz
theorem za5 : zae 32 38 := ⟨Tryz.underlying32, JQ⟩
def fTZ (c z : Value) (t : TypeId) : Value := if t = 33 then c else z
theorem zaB (c z : Value) : fTZ c z 33 = c := by unfold fTZ; rw [if_pos rfl]
theorem zaC (c z : Value) : fTZ c z 38 = z := by unfold fTZ; rw [if_neg (by decide)]
def E0w (t : TypeId) (base : Nat) (v : Value) (W : World) : Prop := ∃ g : Nat, v = .slice (some ⟨g, 0, none⟩) 0 0 /\ base <= g /\ zb W g t #[]
def zbU (t : TypeId) (y v : Value) (W : World) : Prop := ∃ g : Nat, v = .slice (some ⟨g, 0, none⟩) 1 1 /\ zb W g t #[y]
section
variable {base n : Nat} {f : TypeId -> Value} {w w' : World}
theorem E0w.keep {t : TypeId} {v : Value} (h : E0w t base v w) (hg : GM base (MR9 n f) w w') : E0w t base v w' := by
 obtain ⟨g, e, hl, hb⟩ := h; obtain ⟨o', h1, h2⟩ := hg.blk g _ hb; rcases h2 with rfl | ⟨t2, cs2, ds, e1, rfl, k1, k2, k3, k4, k5⟩
 ·exact ⟨g, e, hl, h1⟩
 ·simp only [Obj.cells.injEq] at e1; obtain ⟨e2, rfl, _⟩ := e1; obtain rfl : cs2 = [] := by have := congrArg Array.toList e2; simpa using this.symm
  obtain rfl : ds = [] := List.length_eq_zero_iff.1 k3; exact ⟨g, e, hl, h1⟩
theorem zbU.keep {t : TypeId} {v : Value} (h : zbU t (f t) v w) (hg : GM base (MR9 n f) w w') : zbU t (f t) v w' := by
 obtain ⟨g, e, hb⟩ := h; exact ⟨g, e, hg.one hb⟩
theorem GT.keep {r : List Z × Int} {v : Value} (h : GT r v w) (hg : GM base (MR9 n f) w w') : GT r v w' := by
 obtain ⟨B, ys, cap, e, hz, m, k⟩ := h; exact ⟨B, ys, cap, e, hg.zin hz, m, k⟩
theorem GS.keep {r : List Z × Int} {v : Value} (h : GS r v w) (hg : GM base (MR9 n f) w w') : GS r v w' := by
 obtain ⟨B, ys, cap, e, hz, m, k⟩ := h; exact ⟨B, ys, cap, e, hg.zin hz, m, k⟩
end
theorem zcb {ts : List (L2 Int)} {At : Option Addr} {W : World} (h : Nr W At ts) (nt : Nat) : (∃ c, Value.slice At ts.length nt = .slice none 0 c /\ ts.map vL = []) \/ ∃ ad c, Value.slice At ts.length nt = .slice (some ad) (ts.map vL).length c /\ ∀ (j : Nat) u, (ts.map vL)[j]? = some u -> W.cell? (ad.add j) = some u := by
 cases At with
 | none =>
  have : ts = [] := by
   match ts, h with
   | [], _ => rfl
   | t :: ts, h => exact absurd (h 0 t rfl) (by rintro ⟨_, _, e, _⟩; cases e)
  subst this; exact .inl ⟨nt, rfl, rfl⟩
 | some ad =>
  refine .inr ⟨ad, nt, by simp, fun j u hj => ?_⟩; rw [List.getElem?_map, Option.map_eq_some_iff] at hj; obtain ⟨s, hs, rfl⟩ := hj; obtain ⟨g, o, e, c, _⟩ := h j s hs; cases e; rw [yn]; exact c
theorem zca {ds : List S} {Ad : Option Addr} {W : World} (h : VH W Ad ds) (nd : Nat) : (∃ c, Value.slice Ad ds.length nd = .slice none 0 c /\ ds.map S.v' = []) \/ ∃ ad c, Value.slice Ad ds.length nd = .slice (some ad) (ds.map S.v').length c /\ ∀ (j : Nat) u, (ds.map S.v')[j]? = some u -> W.cell? (ad.add j) = some u := by
 cases Ad with
 | none =>
  have : ds = [] := by
   match ds, h with
   | [], _ => rfl
   | t :: ts, h => exact absurd (h 0 t rfl) (by rintro ⟨_, _, e, _⟩; cases e)
  subst this; exact .inl ⟨nd, rfl, rfl⟩
 | some ad =>
  refine .inr ⟨ad, nd, by simp, fun j u hj => ?_⟩; rw [List.getElem?_map, Option.map_eq_some_iff] at hj; obtain ⟨s, hs, rfl⟩ := hj; obtain ⟨g, o, e, c, _⟩ := h j s hs; cases e; rw [yn]; exact c
theorem zcs {t : TypeId} {α : Type} {base : Nat} {L : List α} {F : α -> Value} {g : Nat} {cs : List Value} {W : World} (hB : zb W g t cs.toArray) (hc : ∀ i, i < (L.map F).length -> cs[i]? = (L.map F)[i]?) {i : Nat} {s : α} (hs : L[i]? = some s) : W.cell? ⟨g, 0 + i, none⟩ = some (F s) := by
 have hi : i < (L.map F).length := by have := (List.getElem?_eq_some_iff.1 hs).1; simpa using this
 rw [Nat.zero_add, hB.cell, List.getElem?_toArray, hc i hi, List.getElem?_map, hs]; rfl
theorem zb6 (ts : List (L2 Int)) (c : L2 Int) (q : PL) (ds : List S) (z : S) (W : World) {base : Nat} (hlt : ts.length <= 8) (hl : ∀ t ∈ ts ++ [c], t.xs.length <= zz /\ xe W t.A t.xs) (hq : PX W q) (hdl : ds.length <= 8) (hz : ∀ s ∈ ds ++ [z], In W s) {TL DL9 : List Value} (hTL : TL = (ts ++ [c]).map vL) (hDL : DL9 = (ds ++ [z]).map S.v') {v u : Value} (hv : PRw 33 base TL v W) (hu : PRw 38 base DL9 u W) :
  Calls Tryz.prog 14 #[v, q.val, u] W fun en w' => yu W w' en (yS (zh (ts ++ [c])) q ((ds ++ [z]).map S.z)) := by
 obtain ⟨g, cs, rfl, _, hB, _, hle, _, hc⟩ := hv; obtain ⟨g', cs', rfl, _, hB', _, hle', hmx, hc'⟩ := hu; have e1 : TL.length = (ts ++ [c]).length := by rw [hTL]; simp
 have e2 : DL9.length = (ds ++ [z]).length := by rw [hDL]; simp
 rw [e2] at hle'; rw [e1, e2]; subst hTL hDL
 exact YQ (ts ++ [c]) (some ⟨g, 0, none⟩) cs.length q (ds ++ [z]) (some ⟨g', 0, none⟩) cs'.length W (by unfold zz; simp; omega) (fun t ht => (hl t ht).1) (fun i s hs => ⟨g, 0, rfl, zcs (base := base) (F := vL) hB hc hs, (hl s (List.mem_of_getElem? hs)).2⟩) hq
  ⟨fun i s hs => ⟨g', 0, rfl, zcs (base := base) (F := S.v') hB' hc' hs, (hz s (List.mem_of_getElem? hs)).z⟩, hz, ⟨hle', fun e => by cases e⟩, by simp; omega⟩
end Go.Proofs.YtcaedcpjdmlilaaGreat

