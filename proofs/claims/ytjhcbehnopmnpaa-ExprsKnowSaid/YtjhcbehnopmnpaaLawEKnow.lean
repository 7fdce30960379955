/-
  The law ExprsKnow: its walk.
-/
import Derived.Test.YtjhcbehnopmnpaaEvO
namespace Go.Proofs.Ytjhcbehnopmnpaa
open Go.RowKit Go.Calm
set_option linter.unusedSimpArgs false
set_option linter.unusedVariables false

set_option maxRecDepth 100000 in
set_option maxHeartbeats 8000000 in
theorem law_eknow (cols : List Int) (row : List V) (Ac Ar : Option Addr) (cc cr : Nat) (e : E) (k : Int) (v : V) (w : World) (hlc : cols.length ≤ 9223372036854775807) (hlr : row.length ≤ 9223372036854775807) (hc : ISl w Ac cols) (hr : VSl w Ar row) (hE : EX w e) :
    Calls Try.prog 13 #[.slice Ac cols.length cc, e.val, .slice Ar row.length cr, .int .i64 k, v.val] w fun en w' => en = .returned (.bool true) ∧ Grow w w' := by
  have heq := run_eqlV
  obtain ⟨R, ER, hR⟩ : ∃ R ER, evalE cols row e = (R, ER) := ⟨_, _, rfl⟩
  have ev := fun W (hg : Grow w W) => eval_of cols row Ac Ar cc cr w hlc hlr hc hr e R ER hR W hg (hE.grow hg)
  have HR := Lib.hid hR
  clear hR
  obtain ⟨up, hup⟩ : ∃ u, plainB e = u := ⟨_, rfl⟩
  have uv := fun W (hg : Grow w W) => plain_any e w W hE hg
  rw [hup] at uv
  have HU := Lib.hid hup
  clear hup
  unfold E.val
  go_enter Try.func13, Try.ntmps13
  go_upto_region 1 with fail
  refine wp_forget (fun X => EB X w.heap.size e ∧ VB3 X (w.heap.size + 1) v ∧ Grow w X) ⟨(Blk.new _ _ _).al _, Blk.new' _ _ _ (by simp), (by repeat (first | (with_reducible exact Grow.refl _) | (with_reducible assumption) | (with_reducible refine Grow.set ?_ (by first | (simp; done) | (simp; omega)) _) | (with_reducible refine Grow.al ?_ _) | (with_reducible refine Grow.drew ?_) | (with_reducible refine Grow.drewN ?_ _) | (with_reducible refine Grow.trans ?_ (by assumption))))⟩ ?_
  rintro W0 ⟨Be, Bv, G⟩
  go_upto_region 3 with (go_at_call 60; ((with_reducible refine (alive3 _).mono ?_); rintro en w1 ⟨rfl, hg1⟩; replace Be := Be.grow hg1; replace Bv := Bv.grow hg1; replace G := G.trans hg1; clear hg1))
  obtain ⟨ce, fe⟩ := Be.rules
  go_upto_region 4 with (go_at_call 58; ((with_reducible refine (ev _ G).mono ?_); rintro en w2 ⟨rfl, hg2⟩; replace Be := Be.grow hg2; replace Bv := Bv.grow hg2; replace G := G.trans hg2; clear hg2 ce fe))
  refine wp_forget (fun X => EB X w.heap.size e ∧ VB3 X (w.heap.size + 1) v ∧ VB3 X w2.heap.size R ∧ Grow w X) ⟨(Be.grow (by repeat (first | (with_reducible exact Grow.refl _) | (with_reducible assumption) | (with_reducible refine Grow.set ?_ (by first | (simp; done) | (simp; omega)) _) | (with_reducible refine Grow.al ?_ _) | (with_reducible refine Grow.drew ?_) | (with_reducible refine Grow.drewN ?_ _) | (with_reducible refine Grow.trans ?_ (by assumption))))), (Bv.grow (by repeat (first | (with_reducible exact Grow.refl _) | (with_reducible assumption) | (with_reducible refine Grow.set ?_ (by first | (simp; done) | (simp; omega)) _) | (with_reducible refine Grow.al ?_ _) | (with_reducible refine Grow.drew ?_) | (with_reducible refine Grow.drewN ?_ _) | (with_reducible refine Grow.trans ?_ (by assumption))))), Blk.new _ _ _, (G.trans (by repeat (first | (with_reducible exact Grow.refl _) | (with_reducible assumption) | (with_reducible refine Grow.set ?_ (by first | (simp; done) | (simp; omega)) _) | (with_reducible refine Grow.al ?_ _) | (with_reducible refine Grow.drew ?_) | (with_reducible refine Grow.drewN ?_ _) | (with_reducible refine Grow.trans ?_ (by assumption)))))⟩ ?_
  generalize w2.heap.size = q1
  clear Be Bv G ev
  rintro W ⟨Be, Bv, BR, G⟩
  obtain ⟨ce, fe⟩ := Be.rules
  have lR := BR.lt
  have lv := Bv.lt
  have le' := Be.lt
  by_cases h1 : ER = 0
  case neg =>
    have d1 : (ER != 0) = true := by simpa using h1
    clear h1
    go_wp2
    go_ret
    exact ⟨rfl, G⟩
  subst h1
  by_cases h2 : k < 0
  case pos =>
    have d2 : decide (k < 0) = true := by simpa using h2
    clear h2
    go_wp2
    go_ret
    exact ⟨rfl, G⟩
  have d2 : decide (k < 0) = false := by simpa using h2
  by_cases h3 : (row.length : Int) ≤ k
  case pos =>
    have d3 : decide ((row.length : Int) ≤ k) = true := by simpa using h3
    clear h2 h3
    go_wp2
    go_ret
    exact ⟨rfl, G⟩
  have d3 : decide ((row.length : Int) ≤ k) = false := by simpa using h3
  obtain ⟨j, rfl⟩ : ∃ j : Nat, k = j := ⟨k.toNat, by omega⟩
  have hj : j < row.length := by omega
  have hj' : ¬ row.length ≤ j := by omega
  obtain ⟨x, hx⟩ : ∃ x, row[j]? = some x := ⟨_, List.getElem?_eq_getElem hj⟩
  obtain ⟨ga, oa, rfl, hv1, hv2, hv3⟩ := hr j x hx
  have cx := G.cell hv1
  have Hx := Lib.hid hx
  have Hr := Lib.hid hr
  clear h2 h3 hx hr hv2 hv3
  by_cases h4 : x.k = 1
  case neg =>
    have d4 : (x.k != 1) = true := by simpa using h4
    clear h4
    go_wp2
    go_ret
    exact ⟨rfl, G⟩
  have d4 : (x.k != 1) = false := by simpa using h4
  have H4 := Lib.hid h4
  clear h4
  cases up
  case false =>
    go_wp2_with (go_at_call 65; ((with_reducible refine (uv _ G).mono ?_); rintro en w3 ⟨rfl, hg2⟩; replace Be := Be.grow hg2; replace Bv := Bv.grow hg2; replace BR := BR.grow hg2; replace G := G.trans hg2; clear hg2 ce fe))
    go_ret
    exact ⟨rfl, G⟩
  obtain ⟨⟨T, hT⟩, hF, hEv⟩ := eval_ok (by rw [HR.out] : (evalE cols row e).2 = 0)
  have h16 : row.length ≤ 16 := by rw [hF.1]; exact hT.len
  go_upto_region 6 with (go_at_call 65; ((with_reducible refine (uv _ G).mono ?_); rintro en w3 ⟨rfl, hg2⟩; replace Be := Be.grow hg2; replace Bv := Bv.grow hg2; replace BR := BR.grow hg2; replace G := G.trans hg2; clear hg2 ce fe))
  have Ti := info_val'
  obtain ⟨ti, hi, hz0, hz1, hz2⟩ := Ti
  have lw := G.size
  have lw3 : w.heap.size < w3.heap.size ∧ q1 < w3.heap.size := ⟨Be.lt, BR.lt⟩
  go_upto_region 7 with (at_builtin; refine wpList_append_own _ rfl _ _ 22 rfl w3.heap.size 29 ti (.agg #[.int .i64 0, .int .i64 0, .string ⟨#[]⟩]) 3 32 Try.underlying22 hi hz0 hz1 hz2 rfl (by decide) _ _ _ rfl (World.ownsRow_made w3 #[] 0 (Nat.le_refl _) (Nat.zero_le _) rfl) ⟨ga, oa, none⟩ row.length cr (flatV row) rfl (flatV_len row) ?c1 (flatV_one row) ?c4 ?c5 ?c6 ?_)
  case c1 =>
    intro i u hu
    rw [add_flat]
    exact flatV_cell (Hr.out.grow (G.trans ((Grow.refl _).al _))) i u hu
  case c4 => unfold maxLen; omega
  case c5 => omega
  case c6 => first | (simp; done) | (simp; omega)
  intro v' w4 hown hgrow hnil
  obtain ⟨g, cap, rfl, Ow⟩ := own_v (by omega : 0 + row.length = row.length) (by intro h; subst h; simp at hj) (by simpa using hown)
  have GG : Grow w3 w4 := ⟨⟨hgrow.os, hgrow.tape, hgrow.output, by have := hgrow.size; simp at this; omega, fun i hi => by
    rw [hgrow.block i (by simp; omega) (by simp [Value.ownBlock]; omega)]
    exact Below.heap_alloc _ _ _ hi⟩⟩
  replace Be := Be.grow GG
  replace Bv := Bv.grow GG
  replace BR := BR.grow GG
  replace G := G.trans GG
  clear hown hgrow hnil GG cx
  have hge := Ow.ge
  have hOx := Hx.out
  obtain ⟨o1, o2, o3⟩ := Ow.at hOx
  have of' := Ow.frozen
  have ol := Ow.lt
  obtain ⟨cv, fv⟩ := Bv.rules
  clear hOx lR lv le'
  have lb := Be.lt
  have lq := BR.lt
  have n1 : w.heap.size ≠ g := by omega
  have n2 : q1 ≠ g := by omega
  have lwg : w.heap.size ≤ g := by omega
  go_upto_region 8 with fail
  refine wp_forget (fun X => EB X w.heap.size e ∧ VB3 X q1 R ∧ VSl X (some ⟨g, 0, none⟩) (row.set j v) ∧ Grow w X) ⟨((Blk.far Be n1 _).far n1 _).far n1 _, ((Blk.far BR n2 _).far n2 _).far n2 _, Ow.set hj v, Grow.set (Grow.set (Grow.set G lwg _) lwg _) lwg _⟩ ?_
  clear Be BR Bv Ow G o1 o2 o3 of' ol cv fv lb lq
  rintro X ⟨Be, BR, hr2, G⟩
  have hl2 : (row.set j v).length = row.length := by simp
  obtain ⟨row2, hrow2⟩ : ∃ r, row.set j v = r := ⟨_, rfl⟩
  rw [hrow2] at hr2 hl2
  obtain ⟨F2, hF2⟩ : ∃ F, fitsE cols row2 = F := ⟨_, rfl⟩
  obtain ⟨R2, E2, hR2⟩ : ∃ R E, evalE cols row2 e = (R, E) := ⟨_, _, rfl⟩
  have cf := fun W (h : Grow X W) => fits_any cols row2 Ac (some ⟨g, 0, none⟩) cc cap W hlc (by omega) (hc.grow (G.trans h)) (hr2.grow h) F2 hF2
  have cv := fun W (h : Grow X W) => eval_of cols row2 Ac (some ⟨g, 0, none⟩) cc cap X hlc (by omega) (hc.grow G) hr2 e R2 E2 hR2 W h (hE.grow (G.trans h))
  rw [hl2] at cf cv
  have key : F2 = 0 → E2 = 0 ∧ ((R.k == 1) = true ∨ (R.k == 1) = false ∧ R = R2) := by
    rintro rfl
    have h0 := hT.eval row2 hF2
    have e1 : ofE row e = R := by simpa using hEv.symm.trans HR.out
    have e2 : ofE row2 e = R2 ∧ 0 = E2 := by simpa using h0.symm.trans hR2
    have hre : RE row.length e := by rw [hF.1]; exact wt_re e hT.ty
    refine ⟨e2.2.symm, ?_⟩
    have hfr := (fits_iff cols row2).1 hF2
    have hk := of_know row j v hF.rv (by rw [hrow2]; exact hfr.rv) (fun y hy => by rw [Hx.out] at hy; cases hy; exact H4.out) e hre HU.out
    rw [hrow2, e1, e2.1] at hk
    by_cases hk1 : R.k = 1
    · left; simpa using hk1
    · right; exact ⟨by simpa using hk1, hk.resolve_left hk1⟩
  have Key := Lib.hid key
  clear key hF2 hR2 hEv hr2
  have GX' := Grow.refl X
  obtain ⟨ce, fe⟩ := Be.rules
  by_cases hf0 : F2 = 0
  case neg =>
    have df : (F2 != 0) = true := by simpa using hf0
    clear hf0
    go_wp2_with (go_at_call 56; ((with_reducible refine (cf _ GX').mono ?_); rintro en w5 ⟨rfl, hg2⟩; replace G := G.trans hg2; clear hg2 ce fe))
    go_ret
    exact ⟨rfl, G⟩
  obtain ⟨rfl, hk⟩ := Key.out hf0
  subst hf0
  go_upto_region 11 with (first | (go_at_call 56; ((with_reducible refine (cf _ GX').mono ?_); rintro en w5 ⟨rfl, hg2⟩; replace G := G.trans hg2; replace GX' := GX'.trans hg2; replace Be := Be.grow hg2; replace BR := BR.grow hg2; clear hg2 ce fe; obtain ⟨ce, fe⟩ := Be.rules)) | (go_at_call 58; ((with_reducible refine (cv _ GX').mono ?_); rintro en w6 ⟨rfl, hg2⟩; replace G := G.trans hg2; replace BR := BR.grow hg2; clear hg2 ce fe)))
  refine wp_forget (fun X => VB3 X q1 R ∧ VB3 X w6.heap.size R2 ∧ Grow w X) ⟨(BR.grow (by repeat (first | (with_reducible exact Grow.refl _) | (with_reducible assumption) | (with_reducible refine Grow.set ?_ (by first | (simp; done) | (simp; omega)) _) | (with_reducible refine Grow.al ?_ _) | (with_reducible refine Grow.drew ?_) | (with_reducible refine Grow.drewN ?_ _) | (with_reducible refine Grow.trans ?_ (by assumption))))), Blk.new _ _ _, (G.trans (by repeat (first | (with_reducible exact Grow.refl _) | (with_reducible assumption) | (with_reducible refine Grow.set ?_ (by first | (simp; done) | (simp; omega)) _) | (with_reducible refine Grow.al ?_ _) | (with_reducible refine Grow.drew ?_) | (with_reducible refine Grow.drewN ?_ _) | (with_reducible refine Grow.trans ?_ (by assumption)))))⟩ ?_
  generalize w6.heap.size = q2
  clear Be BR G GX' cf cv
  rintro Y ⟨BR, B2, G⟩
  obtain ⟨cR, fR⟩ := BR.rules
  obtain ⟨c2, f2⟩ := B2.rules
  rcases hk with hk | ⟨hk, rfl⟩
  · go_wp2
    go_ret
    exact ⟨rfl, G⟩
  · go_wp2
    go_ret
    exact ⟨rfl, G⟩
end Go.Proofs.Ytjhcbehnopmnpaa
