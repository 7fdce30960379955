/-
 A text of the proof of the law QueryPlaces; no condition beside the row's own.
-/
import Derived.Test.YtifpomonpneanaaGreatHLawQ0
import Derived.Test.YtifpomonpneanaaGreatGWb
import Derived.Test.YtifpomonpneanaaGreatGKa
namespace Go.Proofs.YtifpomonpneanaaGreat
open Go.RowKit Go.Calm
set_option linter.unusedSimpArgs false
set_option linter.unusedVariables false
/-! speaks -/
theorem speaksP_mk (t k n : Int) (x : E) (xs : XsS) (ag : AgS) (A : Option Addr) (m cap : Nat) (kid : Nat → PL) : speaksP t (.mk k n x xs ag A m cap kid) = if k = 1 then decide (n = t) else (List.range m).any (fun i => speaksP t (kid i)) := by rw [speaksP]
set_option maxRecDepth 100000 in
set_option maxHeartbeats 4000000 in
theorem speaks_node (t : Int) (p : PL) (w : World) (hm : p.m ≤ reachN) (hk : ∀ i, i < p.m → (∃ g o, p.A = some ⟨g, o, none⟩ ∧ PCells w g (o + i * 11) (p.kid i)) ∧ PX w (p.kid i)) (ih : ∀ i, i < p.m → ∀ w, PX w (p.kid i) → Calls Tryz.prog 21 #[(p.kid i).val, .int .i64 t] w fun en w' => en = .returned (.bool (speaksP t (p.kid i))) ∧ Grow w w') (R : Bool) (hR : (if p.k = 1 then decide (p.n = t) else (List.range p.m).any (fun i => speaksP t (p.kid i))) = R) :
  Calls Tryz.prog 21 #[p.val, .int .i64 t] w fun en w' => en = .returned (.bool R) ∧ Grow w w' := by
 have HK := Lib.hid hk
 have IH := Lib.hid ih
 have HR := Lib.hid hR
 have hm' : p.m ≤ 140737488355328 := hm
 unfold PL.val
 clear hk ih hR hm
 go_enter Tryz.func21, Tryz.ntmps21
 go_upto_region 1 with fail
 refine wp_forget (fun X => Blk X w.heap.size 31 (pC p) ∧ Grow w X) ⟨Blk.new _ _ _, (Grow.refl w).al _⟩ ?_
 rintro X ⟨BX0, G⟩
 have BX := Lib.hid BX0
 obtain ⟨bx, fx⟩ := BX0.rules
 have lx := BX0.lt
 clear BX0
 generalize w.heap.size = gx at *
 by_cases hk1 : p.k = 1
 ·have dk : (p.k == 1) = true := by simpa using hk1
  have fin : R = (p.n == t) := by rw [← HR.out, if_pos hk1]; by_cases h : p.n = t <;> simp [h]
  have Fin := Lib.hid fin
  clear hk1 fin
  go_wp2
  exact bodyPost_ret (v := .bool (p.n == t)) (by simp [results, Tryz.results21, go_sem]) rfl ⟨by rw [Fin.out], G⟩
 ·have dk : (p.k == 1) = false := by simpa using hk1
  have inv0 : (List.range p.m).any (fun i => speaksP t (p.kid i)) = R := by rw [← HR.out, if_neg hk1]
  have Inv0 := Lib.hid inv0
  clear hk1 inv0
  go_wp2
  go_loopw [17] (fun i wr => ∃ k : Nat, k ≤ p.m ∧ i = .int .i64 k ∧ (∀ i, i < k → speaksP t (p.kid i) = false) ∧ Grow X wr) (fun i _ => p.m - (intOf i).toNat)
  case atStart => exact ⟨0, Nat.zero_le _, rfl, (fun i hi => absurd hi (Nat.not_lt_zero i)), Grow.refl _⟩
  case round =>
   obtain ⟨k, hk, rfl, hall, hg⟩ := hrel
   have All := Lib.hid hall
   clear hall
   by_cases hlt : k < p.m
   ·obtain ⟨⟨g, o, hA, hc⟩, hpx⟩ := HK.out k hlt
    obtain ⟨k0, k1, k2, k3, k4, k5, k6, k7, k8, k9, k10⟩ := hc.grow (G.trans hg)
    have cs := fun W (h : Grow w W) => IH.out k hlt W (hpx.grow h)
    unfold PL.val at cs
    obtain ⟨b, hb⟩ : ∃ b, speaksP t (p.kid k) = b := ⟨_, rfl⟩
    rw [hb] at cs
    have CS := Lib.hid cs
    have HB := Lib.hid hb
    clear cs hb hc hpx
    rw [hA]
    have Gw := G.trans hg
    cases b with
    | true =>
     have fin : R = true := by rw [← Inv0.out]; exact List.any_eq_true.2 ⟨k, List.mem_range.2 hlt, HB.out⟩
     have Fin := Lib.hid fin
     clear fin
     go_wp2_with (go_at_call 21; ((with_reducible refine (CS.out _ (by repeat (first | (with_reducible exact Grow.refl _) | (with_reducible assumption) | (with_reducible refine Grow.set ?_ (by first | (simp; done) | (simp; omega)) _) | (with_reducible refine Grow.al ?_ _) | (with_reducible refine Grow.drew ?_) | (with_reducible refine Grow.drewN ?_ _) | (with_reducible refine Grow.trans ?_ (by assumption))))).mono ?_); rintro e w6 ⟨rfl, hg6⟩))
     exact bodyPost_ret (v := .bool true) (by simp [results, Tryz.results21, go_sem]) rfl ⟨by rw [Fin.out], Grow.trans (by repeat (first | (with_reducible exact Grow.refl _) | (with_reducible assumption) | (with_reducible refine Grow.set ?_ (by first | (simp; done) | (simp; omega)) _) | (with_reducible refine Grow.al ?_ _) | (with_reducible refine Grow.drew ?_) | (with_reducible refine Grow.drewN ?_ _) | (with_reducible refine Grow.trans ?_ (by assumption)))) hg6⟩
    | false =>
     go_wp2_with (go_at_call 21; ((with_reducible refine (CS.out _ (by repeat (first | (with_reducible exact Grow.refl _) | (with_reducible assumption) | (with_reducible refine Grow.set ?_ (by first | (simp; done) | (simp; omega)) _) | (with_reducible refine Grow.al ?_ _) | (with_reducible refine Grow.drew ?_) | (with_reducible refine Grow.drewN ?_ _) | (with_reducible refine Grow.trans ?_ (by assumption))))).mono ?_); rintro e w6 ⟨rfl, hg6⟩))
     go_roundw
     case rel => exact ⟨k + 1, by omega, by go_num, (fun i hi => by
      rcases Nat.lt_succ_iff_lt_or_eq.1 hi with h | rfl
      ·exact All.out i h
      ·exact HB.out), hg.trans (Grow.trans (by repeat (first | (with_reducible exact Grow.refl _) | (with_reducible assumption) | (with_reducible refine Grow.set ?_ (by first | (simp; done) | (simp; omega)) _) | (with_reducible refine Grow.al ?_ _) | (with_reducible refine Grow.drew ?_) | (with_reducible refine Grow.drewN ?_ _) | (with_reducible refine Grow.trans ?_ (by assumption)))) hg6)⟩
     case measure => simp [intOf]; omega
   ·obtain rfl : k = p.m := by omega
    have fin : R = false := by rw [← Inv0.out]; exact List.any_eq_false.2 (fun i hi => by simp [All.out i (List.mem_range.1 hi)])
    have Fin := Lib.hid fin
    clear fin
    go_wp2
    exact bodyPost_ret (v := .bool false) (by simp [results, Tryz.results21, go_sem]) rfl ⟨by rw [Fin.out], G.trans hg⟩
theorem speaks5_any (t : Int) (p : PL) : ∀ w, PX w p → Calls Tryz.prog 21 #[p.val, .int .i64 t] w fun en w' => en = .returned (.bool (speaksP t p)) ∧ Grow w w' := by
 induction p with
 | leaf => intro w hp; exact speaks_node t .leaf w (Nat.zero_le _) (fun i hi => absurd hi (Nat.not_lt_zero i)) (fun i hi => absurd hi (Nat.not_lt_zero i)) _ rfl
 | mk k n x xs ag A m cap kid ih =>
  intro w hp
  cases hp with
  | mk hm hc hk hx hs ha hl hi => exact speaks_node t (.mk k n x xs ag A m cap kid) w hm (fun i hi => ⟨hc i hi, hk i hi⟩) (fun i hi w hp => ih i w hp) _ (speaksP_mk t k n x xs ag A m cap kid).symm
/-! the law -/
theorem elT_zrs : ElT 32 38 1 24 (.slice none 0 0) := ⟨Tryz.underlying32, by
 obtain ⟨ti, h1, h2, h3, h4⟩ := info_zrs
 exact ⟨ti, h1, h2, h3, h4⟩, rfl, by decide⟩
theorem places_same {ts : List (List Int)} {data : List (List Z)} {p : PL} {a b z : List Z} {k : Nat} (h : evalZ ts p data = (a, 0)) (hs : speaksP (k : Int) p = false) (h2 : evalZ ts p (data.set k z) = (b, 0)) : a = b := by
 obtain ⟨h3, _, h5⟩ := ev_ok h
 obtain ⟨_, _, h8⟩ := ev_ok h2
 rw [play_places p (colsE_tab h3) hs, h5] at h8
 exact (Prod.mk.inj h8).1
theorem srcG_sets {w : World} {A : Option Addr} {ds : List S} {c : Nat} (h : InS w A ds c) (hpos : 0 < ds.length) : ∃ g o, A = some ⟨g, o, none⟩ ∧ SrcG w 1 (.slice (some ⟨g, o, none⟩) ds.length c) ds.length (flatS ds) := by
 obtain ⟨s, hs⟩ : ∃ s, ds[0]? = some s := ⟨_, List.getElem?_eq_getElem hpos⟩
 obtain ⟨g, o, rfl, _⟩ := h.s 0 s hs
 refine ⟨g, o, rfl, by simp [flatS], fun u hu => by obtain ⟨s, _, rfl⟩ := List.mem_map.1 hu; rfl, .inr ⟨_, _, rfl, fun j u hj => ?_⟩⟩
 simp only [flatS, List.getElem?_map, Option.map_eq_some_iff] at hj
 obtain ⟨s, h1, rfl⟩ := hj
 obtain ⟨g', o', e, c1, _⟩ := h.s j s h1
 cases e
 rw [addr_add]
 exact c1
theorem ins_put {w w7 : World} {base k : Nat} {ds : List S} {s : S} {v : Value} (hg : Grow w w7) (hb : w.heap.size ≤ base) (hs : ∀ s ∈ ds, In w s) (h1 : In w s) (own : w7.ownsRow base 38 1 v ds.length (flatS ds)) (hk : k < ds.length) :
  ∃ g cap, v = .slice (some ⟨g, 0, none⟩) ds.length cap ∧ base ≤ g ∧ (∀ i, w7.frozen? ⟨g, i, none⟩ = false) ∧ (∃ u, w7.cell? ⟨g, k, none⟩ = some u) ∧ Grow w (w7.setCell ⟨g, k, none⟩ s.v') ∧ InS (w7.setCell ⟨g, k, none⟩ s.v') (some ⟨g, 0, none⟩) (ds.set k s) cap := by
 rcases own.2 with ⟨_, h0⟩ | ⟨g, cap, cur, rfl, hB, hgb, hle2, hmx, hcs, htk⟩
 ·omega
 ·have hbk : Blk w7 g 38 cur := hgb
  have hsz : ds.length ≤ cur.size := by omega
  have G : Grow w (w7.setCell ⟨g, k, none⟩ s.v') := Grow.set hg (Nat.le_trans hb hB) _
  have hb2 := hbk.set k s.v'
  refine ⟨g, cap, rfl, hB, hbk.frozen, ⟨_, hbk.cells (by rw [← Array.getElem?_toList]; exact List.getElem?_eq_getElem (by simpa using Nat.lt_of_lt_of_le hk hsz))⟩, G, ⟨fun i x hx => ?_, fun x hx => ?_, ⟨by simpa using hle2, fun e => by cases e⟩, by simp; unfold maxLen at hmx; omega⟩⟩
  ·refine ⟨g, 0, rfl, ?_, ?_⟩
   ·rw [Nat.zero_add, hb2.cell]
    have hi : i < ds.length := by have := (List.getElem?_eq_some_iff.1 hx).1; simpa using this
    by_cases he : k = i
    ·subst he
     rw [List.getElem?_set_self hk] at hx
     cases hx
     rw [Array.getElem?_setIfInBounds]
     simp [S.v']
     omega
    ·rw [List.getElem?_set_ne he] at hx
     rw [Array.getElem?_setIfInBounds, if_neg he]
     have e : (flatS ds)[i]? = some x.v' := by simp [flatS, hx]
     rw [← htk, List.getElem?_take, if_pos (by omega)] at e
     simpa [S.v'] using e
   ·have hm := List.mem_of_getElem? hx
    rcases List.mem_or_eq_of_mem_set hm with h | rfl
    ·exact (hs x h).z.grow G
    ·exact h1.z.grow G
  ·rcases List.mem_or_eq_of_mem_set hx with h | rfl
   ·exact (hs x h).grow G
   ·exact h1.grow G
set_option maxRecDepth 100000 in
set_option maxHeartbeats 4000000 in
theorem law_qplaces (ts : List (L2 Int)) (At : Option Addr) (nt : Nat) (p : PL) (ds : List S) (Ad : Option Addr) (nd : Nat) (k : Int) (s : S) (w : World) (hlt : ts.length ≤ reachN) (hl : ∀ t ∈ ts, t.xs.length ≤ reachN) (hts : TSl w At ts) (hp : PX w p) (hds : InS w Ad ds nd) (hs : In w s) :
  Calls Tryz.prog 5 #[.slice At ts.length nt, p.val, .slice Ad ds.length nd, .int .i64 k, .slice s.A s.xs.length s.cap] w fun en w' => en = .returned (.bool true) ∧ Grow w w' := by
 have HTS := Lib.hid hts
 have HPX := Lib.hid hp
 have HDS := Lib.hid hds
 have HSI := Lib.hid hs
 have HL := Lib.hid (And.intro hlt hl)
 have hdl := hds.len
 obtain ⟨a1, e1, hE1⟩ : ∃ a e, evalZ (tabs ts) p (ds.map S.z) = (a, e) := ⟨_, _, rfl⟩
 obtain ⟨sp, hsp⟩ : ∃ b, speaksP k p = b := ⟨_, rfl⟩
 have c2 := fun W (h : Grow w W) => qeval_any ts At nt p ds Ad nd W hlt hl (hts.grow h) (hp.grow h) (hds.grow h)
 have c3 := fun W (h : Grow w W) => speaks5_any k p W (hp.grow h)
 unfold Gives at c2
 rw [hE1] at c2
 rw [hsp] at c3
 simp only at c2
 unfold PL.val at c2 c3
 have C2 := Lib.hid c2
 have C3 := Lib.hid c3
 have HE1 := Lib.hid hE1
 have HSP := Lib.hid hsp
 unfold PL.val
 clear c2 c3 hts hp hds hs hlt hl hE1 hsp
 go_enter Tryz.func5, Tryz.ntmps5
 go_upto_region 3 with (go_at_call 18; ((with_reducible refine (alive5 _).mono ?_); rintro e w2 ⟨rfl, hg2⟩))
 refine wp_forget (fun X => Blk X w.heap.size 31 (pC p) ∧ Grow w X) ⟨(Blk.new w _ _).grow hg2, Grow.trans (by repeat (first | (with_reducible exact Grow.refl _) | (with_reducible assumption) | (with_reducible refine Grow.set ?_ (by first | (simp; done) | (simp; omega)) _) | (with_reducible refine Grow.al ?_ _) | (with_reducible refine Grow.drew ?_) | (with_reducible refine Grow.drewN ?_ _) | (with_reducible refine Grow.trans ?_ (by assumption)))) hg2⟩ ?_
 rintro X ⟨BX0, G⟩
 have BX := Lib.hid BX0
 obtain ⟨bx, fx⟩ := BX0.rules
 have lx := BX0.lt
 clear BX0 hg2
 generalize w.heap.size = gx at *
 go_upto_region 4 with (go_at_call 15; ((refine (C2.out _ G).mono ?_); rintro en w4 ⟨B4, ys4, cap4, rfl, hz4, hm4, hk4, hg4⟩))
 have O4 := Lib.hid (And.intro hz4 (And.intro hm4 hk4))
 clear bx fx lx hz4 hm4 hk4
 have G4 := G.trans hg4
 obtain ⟨bx, fx⟩ := (BX.out.grow hg4).rules
 have lx := (BX.out.grow hg4).lt
 by_cases q1 : e1 = 0
 ·subst q1
  by_cases q2 : k < 0
  ·have d2 : decide (k < 0) = true := decide_eq_true q2
   clear q2
   go_wp2
   exact bodyPost_ret (v := .bool true) (by simp [results, Tryz.results5, go_sem]) rfl ⟨rfl, G4⟩
  ·have d2 : decide (k < 0) = false := decide_eq_false q2
   obtain ⟨kk, rfl⟩ : ∃ kk : Nat, k = (kk : Int) := ⟨k.toNat, by omega⟩
   by_cases q3 : ds.length ≤ kk
   ·have d3 : decide ((ds.length : Int) ≤ (kk : Int)) = true := decide_eq_true (by omega)
    clear q2
    go_wp2
    exact bodyPost_ret (v := .bool true) (by simp [results, Tryz.results5, go_sem]) rfl ⟨rfl, G4⟩
   ·have d3 : decide ((ds.length : Int) ≤ (kk : Int)) = false := decide_eq_false (by omega)
    have q3' : kk < ds.length := by omega
    clear q2 q3
    cases sp with
    | true =>
     go_wp2_with (go_at_call 21; ((refine (C3.out _ G4).mono ?_); rintro en w5 ⟨rfl, hg5⟩))
     exact bodyPost_ret (v := .bool true) (by simp [results, Tryz.results5, go_sem]) rfl ⟨rfl, G4.trans hg5⟩
    | false =>
     have hd8 : ds.length ≤ 8 := by
      obtain ⟨h3, h4, _⟩ := ev_ok HE1.out
      have e1 : (ds.map S.z).length = (tabs ts).length := by
       unfold dataE at h4
       split at h4
       ·simp at h4
       ·rename_i h5; simpa using h5
      have e2 : (tabs ts).length ≤ 8 := by
       unfold colsE at h3
       split at h3
       ·simp at h3
       ·omega
      simp at e1 e2
      omega
     obtain ⟨gd, od, hAd, _⟩ := srcG_sets HDS.out (by omega)
     subst hAd
     have hsrc : ∀ W, Grow w4 W → SrcG W 1 (.slice (some ⟨gd, od, none⟩) ds.length nd) ds.length (flatS ds) := fun W h => by
      obtain ⟨g2, o2, e2, h2⟩ := srcG_sets (HDS.out.grow (G4.trans h)) (by omega)
      cases e2
      exact h2
     have Src := Lib.hid hsrc
     clear hsrc
     go_upto_region 6 with (go_at_call 21; ((refine (C3.out _ G4).mono ?_); rintro en w5 ⟨rfl, hg5⟩))
     have Own := Lib.hid (own_emptyG 38 1 w5)
     have hs5 := (G4.trans hg5).size
     go_upto_region 7 with (at_builtin; refine wpList_append_gen elT_zrs rfl _ _ rfl w5.heap.size _ _ _ rfl Own.out _ ds.length _ rfl (Src.out _ (hg5.al _)) (by unfold maxLen; omega) (by omega) (by simp) ?_; intro v7 w7 own7 gr7)
     have G7 : Grow w5 w7 := Grow.own ((Grow.refl w5).al _) gr7 (fun i hi => by
      rcases Nat.lt_or_ge i w5.heap.size with h | h
      ·exact absurd hi.symm (own_ge Own.out h)
      ·exact h)
     have GA : Grow w w7 := G4.trans (hg5.trans G7)
     obtain ⟨g7, cap7, rfl, hb7, fz7, ⟨u7, hu7⟩, GP, IP⟩ := ins_put (k := kk) (s := s) GA (G4.trans hg5).size HDS.out.each HSI.out (by simpa using own7) q3'
     obtain ⟨a2, e2, hE2⟩ : ∃ a e, evalZ (tabs ts) p ((ds.set kk s).map S.z) = (a, e) := ⟨_, _, rfl⟩
     have hab : e2 = 0 → a1 = a2 := fun q => by
      subst q
      rw [List.map_set] at hE2
      exact places_same HE1.out HSP.out hE2
     have c3 := fun W (h : Grow (w7.setCell ⟨g7, kk, none⟩ s.v') W) => qeval_any ts At nt p (ds.set kk s) (some ⟨g7, 0, none⟩) cap7 W HL.out.1 HL.out.2 (HTS.out.grow (GP.trans h)) (HPX.out.grow (GP.trans h)) (IP.grow h)
     unfold Gives at c3
     rw [hE2] at c3
     simp only [List.length_set] at c3
     unfold PL.val at c3
     have C5 := Lib.hid c3
     have HAB := Lib.hid hab
     have HE2 := Lib.hid hE2
     have GPH := Lib.hid GP
     have k1 : (0 : Int) ≤ (kk : Int) := by omega
     have k2 : (kk : Int) < (ds.length : Int) := by omega
     try simp only [Nat.zero_add]
     have BX7 := Lib.hid (BX.out.grow (hg4.trans (hg5.trans G7)))
     have hgx7 : gx ≠ g7 := fun e => by
      have h1 := (BX.out.grow (hg4.trans hg5)).lt
      omega
     have HG7 := Lib.hid (Nat.le_trans hg5.size hb7)
     have HGX := Lib.hid hgx7
     clear c3 hab hE2 GP IP own7 gr7 bx fx lx hs5 hd8 hb7 hgx7
     go_upto_region 8 with fail
     refine wp_forget (fun Y => Blk Y gx 31 (pC p) ∧ Grow (w7.setCell ⟨g7, kk, none⟩ s.v') Y ∧ ZIn Y B4 ys4) ⟨Blk.other BX7.out (Ne.symm HGX.out) _ _, Grow.refl _, ?_⟩ ?_
     ·exact O4.out.1.grow (Grow.set (hg5.trans G7) HG7.out _)
     rintro Y ⟨BY0, GY, hzY⟩
     have BY := Lib.hid BY0
     obtain ⟨bx, fx⟩ := BY0.rules
     have lx := BY0.lt
     have HZY := Lib.hid hzY
     clear BY0 hzY
     go_upto_region 9 with (go_at_call 15; ((refine (C5.out _ GY).mono ?_); rintro en w9 ⟨B9, ys9, cap9, rfl, hz9, hm9, hk9, hg9⟩))
     have O9 := Lib.hid (And.intro hz9 (And.intro hm9 hk9))
     clear bx fx lx hz9 hm9 hk9
     have G9 := GPH.out.trans (GY.trans hg9)
     by_cases q2 : e2 = 0
     ·have cs := same_in ⟨B4, ys4, cap4⟩ ⟨B9, ys9, cap9⟩ w9 (ev_in HE1.out rfl (HZY.out.grow hg9) O4.out.2.1 O4.out.2.2) (ev_in HE2.out q2 O9.out.1 O9.out.2.1 O9.out.2.2) (by
       show ys4.map zOf = ys9.map zOf
       rw [O4.out.2.1, O9.out.2.1]
       exact HAB.out q2)
      have CS := Lib.hid cs
      subst q2
      clear cs
      go_wp2_with (go_at_call 17; ((with_reducible refine CS.out.mono ?_); rintro en w10 ⟨rfl, hg10⟩))
      exact bodyPost_ret (v := .bool true) (by simp [results, Tryz.results5, go_sem]) rfl ⟨rfl, G9.trans hg10⟩
     ·have d2' : (e2 != 0) = true := by simpa using q2
      go_wp2
      exact bodyPost_ret (v := .bool true) (by simp [results, Tryz.results5, go_sem]) rfl ⟨rfl, G9⟩
 ·have d1 : (e1 != 0) = true := by simpa using q1
  go_wp2
  exact bodyPost_ret (v := .bool true) (by simp [results, Tryz.results5, go_sem]) rfl ⟨rfl, G4⟩
end Go.Proofs.YtifpomonpneanaaGreat
