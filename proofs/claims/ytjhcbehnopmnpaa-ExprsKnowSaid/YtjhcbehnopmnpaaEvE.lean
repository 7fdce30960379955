/-
  Eval, of both.
-/
import Derived.Test.YtjhcbehnopmnpaaEvR
import Derived.Test.YtjhcbehnopmnpaaEvY
import Derived.Test.YtjhcbehnopmnpaaEvF
import Derived.Test.YtjhcbehnopmnpaaEvT
import Derived.Test.YtjhcbehnopmnpaaEx13
namespace Go.Proofs.Ytjhcbehnopmnpaa
open Go.RowKit Go.Calm
set_option linter.unusedSimpArgs false
set_option linter.unusedVariables false

/-- what the reference's Of answers -/
def ROfC (row : List V) (A : Option Addr) (cr : Nat) (e : E) : Prop := ∀ (w0 w : World), EX w0 e → VSl w0 A row → Grow w0 w →
  Calls Try.prog 112 #[e.val, .slice A row.length cr] w fun en w' => en = .returned (ofE row e).val ∧ Grow w w'

theorem rof_any (cols : List Int) (row : List V) (A : Option Addr) (cr : Nat) (hlen : row.length ≤ 9223372036854775807) (hf : FitR cols row) (e : E) : ∀ {T : Int}, wt cols e T → ROfC row A cr e := by
  induction e with
  | leaf => intro T h; exact h.elim
  | mk k v c Ak n cap kid ih =>
    intro T h w0 w hE hrow hg
    have hre := wt_re _ h
    have hrv := hf.rv
    have hty := fun (i : Nat) (t : Int) (h : wt cols (kid i) t) => of_ty hf (kid i) h
    have hRE : ∀ i, i < n → RE row.length (kid i) := fun i hi => by
      rw [hf.1]
      cases hre with
      | mk h0 hn hv hc hk => exact hk i hi
    simp only [wt] at h
    obtain ⟨h0, hn, ts, hl, hw, ht⟩ := h
    have e0 : ofE row (.mk k v c Ak n cap kid) = if k = 1 then bare v else if k = 2 then bare (row.getD c.toNat nullV') else opV k (ofE row (kid 0)) (ofE row (kid 1)) (ofE row (kid 2)) := rfl
    rw [e0]; clear e0
    have rv : ∀ i, i < n → RV (ofE row (kid i)) := fun i hi => rv_of row hrv _ (hRE i hi)
    by_cases hk1 : k = 1
    · rw [if_pos hk1]
      have hv : RV v := by
        unfold tyK at ht
        rw [if_pos hk1] at ht
        exact (RV.of v).1 ht.1
      exact rof_lit _ k v c Ak n cap kid w hk1 hv
    · rw [if_neg hk1]
      by_cases hk2 : k = 2
      · rw [if_pos hk2]
        unfold tyK at ht
        rw [if_neg hk1, if_pos hk2] at ht
        obtain ⟨c0, c1, _⟩ := ht
        have hlt : c.toNat < row.length := by have := hf.1; omega
        rw [List.getD_eq_getElem?_getD, List.getElem?_eq_getElem hlt]
        exact rof_col row A cr hlen k v c Ak n cap kid w (hrow.grow hg) hk2 c.toNat (by omega) _ (List.getElem?_eq_getElem hlt) (hrv _ (List.getElem_mem hlt))
      · rw [if_neg hk2]
        have hz : kidsN k ≠ 0 := fun hz => by rcases kids_zero hz with h8 | h8 <;> contradiction
        have hk : ∀ i, i < n → EX w0 (kid i) := fun i hi => by
          cases hE with
          | mk hn' hc hk hv hi' => exact hk i hi
        refine rof_kids row A cr k v c Ak n cap kid w0 w hE hg (by omega) hn (ofE row (kid 0)) (ofE row (kid 1)) (ofE row (kid 2)) (rv 0 (by omega)) (fun h2 => rv 1 (by omega)) (fun W hW => ?_) (fun h2 W hW => ?_) (fun h3 W hW => ?_) (fun h6 ha hb => ?_) _ rfl
        · exact ih 0 (hw 0 (by omega)) w0 W (hk 0 (by omega)) hrow hW
        · exact ih 1 (hw 1 (by omega)) w0 W (hk 1 (by omega)) hrow hW
        · exact ih 2 (hw 2 (by omega)) w0 W (hk 2 (by omega)) hrow hW
        · have hn2 : n = 2 := by have := kids_cmp h6; omega
          subst hn2
          have a0 := hty 0 _ (hw 0 (by omega))
          have b0 := hty 1 _ (hw 1 (by omega))
          match ts, hl with
          | [t, u], _ =>
            rw [ty_ne (by omega) (by omega), kind_cmp h6] at ht
            simp only [List.getD_cons_zero, List.getD_cons_succ] at a0 b0
            cases h1 : oneB t u
            · rw [h1] at ht; simp at ht
            · simp only [oneB, Bool.or_eq_true, decide_eq_true_eq] at h1
              omega

set_option maxRecDepth 100000 in
set_option maxHeartbeats 4000000 in
theorem eval_any (cols : List Int) (row : List V) (Ac Ar : Option Addr) (cc cr : Nat) (e : E) (w : World) (hlc : cols.length ≤ 9223372036854775807) (hlr : row.length ≤ 9223372036854775807) (hc : ISl w Ac cols) (hr : VSl w Ar row) (hE : EX w e) (R : V) (ER : Int) (hR : evalE cols row e = (R, ER)) :
    Calls Try.prog 58 #[.slice Ac cols.length cc, e.val, .slice Ar row.length cr] w fun en w' => en = .returned (.tuple #[R.val, .int .i64 ER]) ∧ Grow w w' := by
  obtain ⟨T, te, hte⟩ : ∃ T te, typeE cols e = (T, te) := ⟨_, _, rfl⟩
  have ct := fun W (h : Grow w W) => type_any cols Ac cc e W hlc (hc.grow h) (hE.grow h)
  rw [hte] at ct
  simp only at ct
  by_cases h1 : te = 0
  · subst h1
    obtain ⟨fe, hfe⟩ : ∃ fe, fitsE cols row = fe := ⟨_, rfl⟩
    have cf := fun W (h : Grow w W) => fits_any cols row Ac Ar cc cr W hlc hlr (hc.grow h) (hr.grow h) fe hfe
    by_cases h2 : fe = 0
    · subst h2
      have e1 : evalE cols row e = (ofE row e, 0) := by simp [evalE, hte, hfe]
      obtain ⟨rfl, rfl⟩ : R = ofE row e ∧ ER = 0 := by simpa using hR.symm.trans e1
      have hok := okay_iff.1 hte
      have hF := (fits_iff cols row).1 hfe
      have hre : RE row.length e := by rw [hF.1]; exact wt_re e hok.ty
      have co := fun W (h : Grow w W) (g : Nat) (hx : ECells W g 0 e) => of_any row Ar cr hlr hF.rv e hre g 0 W W (hE.grow h) hx (hr.grow h) (Grow.refl _)
      generalize ofE row e = R at *
      clear hR e1 hte hfe hok hF hre hc hr hE
      unfold E.val
      go_enter Try.func58, Try.ntmps58
      go_upto_region 1 with fail
      refine wp_forget (fun W => Blk W w.heap.size 47 #[.int .i64 e.kind, .int .i64 e.v.k, .int .i64 e.v.n, .string e.v.s, .int .i64 e.col, .slice e.A e.n e.cap] ∧ Blk W (w.heap.size + 1) 29 #[.int .i64 0, .int .i64 0, .string es] ∧ Grow w W) ⟨(Blk.new _ _ _).al _, Blk.new' _ _ _ (by simp), (by repeat (first | (with_reducible exact Grow.refl _) | (with_reducible assumption) | (with_reducible refine Grow.set ?_ (by first | (simp; done) | (simp; omega)) _) | (with_reducible refine Grow.al ?_ _) | (with_reducible refine Grow.drew ?_) | (with_reducible refine Grow.drewN ?_ _) | (with_reducible refine Grow.trans ?_ (by assumption))))⟩ ?_
      rintro W ⟨B, B2, G⟩
      obtain ⟨cb, fb⟩ := B.rules
      go_wp2_with (first | (go_at_call 54; ((with_reducible refine (ct _ G).mono ?_); rintro en w2 ⟨rfl, hg2⟩; replace B := B.grow hg2; replace B2 := B2.grow hg2; replace G := G.trans hg2; clear hg2 cb fb)) | (go_at_call 56; ((with_reducible refine (cf _ G).mono ?_); rintro en w3 ⟨rfl, hg2⟩; replace B := B.grow hg2; replace B2 := B2.grow hg2; replace G := G.trans hg2; clear hg2)) | (go_at_call 111; ((with_reducible refine (co _ G _ ⟨B.cells rfl, B.cells rfl, B.cells rfl, B.cells rfl, B.cells rfl, B.cells rfl⟩).mono ?_); rintro en w4 ⟨rfl, hg2⟩; replace B2 := B2.grow hg2; replace G := G.trans hg2; clear hg2; obtain ⟨cb, fb⟩ := B2.rules)))
      exact bodyPost_ret (by simp [results, Try.results58, go_sem, cb, zV]) rfl ⟨rfl, (by repeat (first | (with_reducible exact Grow.refl _) | (with_reducible assumption) | (with_reducible refine Grow.set ?_ (by first | (simp; done) | (simp; omega)) _) | (with_reducible refine Grow.al ?_ _) | (with_reducible refine Grow.drew ?_) | (with_reducible refine Grow.drewN ?_ _) | (with_reducible refine Grow.trans ?_ (by assumption))))⟩
    · have e1 : evalE cols row e = (zV, fe) := by simp [evalE, hte, hfe, h2, zV]
      obtain ⟨rfl, rfl⟩ : R = zV ∧ ER = fe := by simpa using hR.symm.trans e1
      have d : (ER != 0) = true := by simpa using h2
      clear hR e1 hte hfe h2 hc hr hE
      unfold E.val
      go_enter Try.func58, Try.ntmps58
      go_upto_region 1 with fail
      refine wp_forget (fun W => Blk W w.heap.size 47 #[.int .i64 e.kind, .int .i64 e.v.k, .int .i64 e.v.n, .string e.v.s, .int .i64 e.col, .slice e.A e.n e.cap] ∧ Blk W (w.heap.size + 1) 29 #[.int .i64 0, .int .i64 0, .string es] ∧ Grow w W) ⟨(Blk.new _ _ _).al _, Blk.new' _ _ _ (by simp), (by repeat (first | (with_reducible exact Grow.refl _) | (with_reducible assumption) | (with_reducible refine Grow.set ?_ (by first | (simp; done) | (simp; omega)) _) | (with_reducible refine Grow.al ?_ _) | (with_reducible refine Grow.drew ?_) | (with_reducible refine Grow.drewN ?_ _) | (with_reducible refine Grow.trans ?_ (by assumption))))⟩ ?_
      rintro W ⟨B, B2, G⟩
      obtain ⟨cb, fb⟩ := B.rules
      go_wp2_with (first | (go_at_call 54; ((with_reducible refine (ct _ G).mono ?_); rintro en w2 ⟨rfl, hg2⟩; replace B2 := B2.grow hg2; replace G := G.trans hg2; clear hg2 cb fb)) | (go_at_call 56; ((with_reducible refine (cf _ G).mono ?_); rintro en w3 ⟨rfl, hg2⟩; replace B2 := B2.grow hg2; replace G := G.trans hg2; clear hg2; obtain ⟨cb, fb⟩ := B2.rules)))
      exact bodyPost_ret (by simp [results, Try.results58, go_sem, cb, zV]) rfl ⟨rfl, (by repeat (first | (with_reducible exact Grow.refl _) | (with_reducible assumption) | (with_reducible refine Grow.set ?_ (by first | (simp; done) | (simp; omega)) _) | (with_reducible refine Grow.al ?_ _) | (with_reducible refine Grow.drew ?_) | (with_reducible refine Grow.drewN ?_ _) | (with_reducible refine Grow.trans ?_ (by assumption))))⟩
  · have e1 : evalE cols row e = (zV, te) := by simp [evalE, hte, h1, zV]
    obtain ⟨rfl, rfl⟩ : R = zV ∧ ER = te := by simpa using hR.symm.trans e1
    have d : (ER != 0) = true := by simpa using h1
    clear hR e1 hte h1 hc hr hE
    unfold E.val
    go_enter Try.func58, Try.ntmps58
    go_upto_region 1 with fail
    refine wp_forget (fun W => Blk W w.heap.size 47 #[.int .i64 e.kind, .int .i64 e.v.k, .int .i64 e.v.n, .string e.v.s, .int .i64 e.col, .slice e.A e.n e.cap] ∧ Blk W (w.heap.size + 1) 29 #[.int .i64 0, .int .i64 0, .string es] ∧ Grow w W) ⟨(Blk.new _ _ _).al _, Blk.new' _ _ _ (by simp), (by repeat (first | (with_reducible exact Grow.refl _) | (with_reducible assumption) | (with_reducible refine Grow.set ?_ (by first | (simp; done) | (simp; omega)) _) | (with_reducible refine Grow.al ?_ _) | (with_reducible refine Grow.drew ?_) | (with_reducible refine Grow.drewN ?_ _) | (with_reducible refine Grow.trans ?_ (by assumption))))⟩ ?_
    rintro W ⟨B, B2, G⟩
    obtain ⟨cb, fb⟩ := B.rules
    go_wp2_with (go_at_call 54; ((with_reducible refine (ct _ G).mono ?_); rintro en w2 ⟨rfl, hg2⟩; replace B2 := B2.grow hg2; replace G := G.trans hg2; clear hg2 cb fb; obtain ⟨cb, fb⟩ := B2.rules))
    exact bodyPost_ret (by simp [results, Try.results58, go_sem, cb, zV]) rfl ⟨rfl, (by repeat (first | (with_reducible exact Grow.refl _) | (with_reducible assumption) | (with_reducible refine Grow.set ?_ (by first | (simp; done) | (simp; omega)) _) | (with_reducible refine Grow.al ?_ _) | (with_reducible refine Grow.drew ?_) | (with_reducible refine Grow.drewN ?_ _) | (with_reducible refine Grow.trans ?_ (by assumption))))⟩

set_option maxRecDepth 100000 in
set_option maxHeartbeats 4000000 in
theorem reval_any (cols : List Int) (row : List V) (Ac Ar : Option Addr) (cc cr : Nat) (e : E) (w : World) (hlc : cols.length ≤ 9223372036854775807) (hlr : row.length ≤ 9223372036854775807) (hc : ISl w Ac cols) (hr : VSl w Ar row) (hE : EX w e) (R : V) (ER : Int) (hR : evalE cols row e = (R, ER)) :
    Calls Try.prog 59 #[.slice Ac cols.length cc, e.val, .slice Ar row.length cr] w fun en w' => en = .returned (.tuple #[R.val, .int .i64 ER]) ∧ Grow w w' := by
  obtain ⟨T, te, hte⟩ : ∃ T te, typeE cols e = (T, te) := ⟨_, _, rfl⟩
  have ct := fun W (h : Grow w W) => typeof_any cols Ac cc e W hlc (hc.grow h) (hE.grow h)
  rw [hte] at ct
  simp only at ct
  by_cases h1 : te = 0
  · subst h1
    obtain ⟨fe, hfe⟩ : ∃ fe, fitsE cols row = fe := ⟨_, rfl⟩
    have cf := fun W (h : Grow w W) => rfits_any cols row Ac Ar cc cr W hlc hlr (hc.grow h) (hr.grow h) fe hfe
    by_cases h2 : fe = 0
    · subst h2
      have e1 : evalE cols row e = (ofE row e, 0) := by simp [evalE, hte, hfe]
      obtain ⟨rfl, rfl⟩ : R = ofE row e ∧ ER = 0 := by simpa using hR.symm.trans e1
      have hok := okay_iff.1 hte
      have hF := (fits_iff cols row).1 hfe
      have hre : RE row.length e := by rw [hF.1]; exact wt_re e hok.ty
      have co := fun W (h : Grow w W) => rof_any cols row Ar cr hlr hF e hok.ty W W (hE.grow h) (hr.grow h) (Grow.refl _)
      generalize ofE row e = R at *
      clear hR e1 hte hfe hok hF hre hc hr hE
      unfold E.val
      go_enter Try.func59, Try.ntmps59
      go_upto_region 1 with fail
      refine wp_forget (fun W => Blk W w.heap.size 47 #[.int .i64 e.kind, .int .i64 e.v.k, .int .i64 e.v.n, .string e.v.s, .int .i64 e.col, .slice e.A e.n e.cap] ∧ Blk W (w.heap.size + 1) 29 #[.int .i64 0, .int .i64 0, .string es] ∧ Grow w W) ⟨(Blk.new _ _ _).al _, Blk.new' _ _ _ (by simp), (by repeat (first | (with_reducible exact Grow.refl _) | (with_reducible assumption) | (with_reducible refine Grow.set ?_ (by first | (simp; done) | (simp; omega)) _) | (with_reducible refine Grow.al ?_ _) | (with_reducible refine Grow.drew ?_) | (with_reducible refine Grow.drewN ?_ _) | (with_reducible refine Grow.trans ?_ (by assumption))))⟩ ?_
      rintro W ⟨B, B2, G⟩
      obtain ⟨cb, fb⟩ := B.rules
      go_wp2_with (first | (go_at_call 55; ((with_reducible refine (ct _ G).mono ?_); rintro en w2 ⟨rfl, hg2⟩; replace B := B.grow hg2; replace B2 := B2.grow hg2; replace G := G.trans hg2; clear hg2 cb fb)) | (go_at_call 57; ((with_reducible refine (cf _ G).mono ?_); rintro en w3 ⟨rfl, hg2⟩; replace B := B.grow hg2; replace B2 := B2.grow hg2; replace G := G.trans hg2; clear hg2; obtain ⟨cb, fb⟩ := B.rules)) | (go_at_call 112; ((with_reducible refine (co _ G).mono ?_); rintro en w4 ⟨rfl, hg2⟩; clear cb fb; replace B2 := B2.grow hg2; replace G := G.trans hg2; clear hg2; obtain ⟨cb, fb⟩ := B2.rules)))
      exact bodyPost_ret (by simp [results, Try.results59, go_sem, cb, zV]) rfl ⟨rfl, (by repeat (first | (with_reducible exact Grow.refl _) | (with_reducible assumption) | (with_reducible refine Grow.set ?_ (by first | (simp; done) | (simp; omega)) _) | (with_reducible refine Grow.al ?_ _) | (with_reducible refine Grow.drew ?_) | (with_reducible refine Grow.drewN ?_ _) | (with_reducible refine Grow.trans ?_ (by assumption))))⟩
    · have e1 : evalE cols row e = (zV, fe) := by simp [evalE, hte, hfe, h2, zV]
      obtain ⟨rfl, rfl⟩ : R = zV ∧ ER = fe := by simpa using hR.symm.trans e1
      have d : (ER != 0) = true := by simpa using h2
      clear hR e1 hte hfe h2 hc hr hE
      unfold E.val
      go_enter Try.func59, Try.ntmps59
      go_upto_region 1 with fail
      refine wp_forget (fun W => Blk W w.heap.size 47 #[.int .i64 e.kind, .int .i64 e.v.k, .int .i64 e.v.n, .string e.v.s, .int .i64 e.col, .slice e.A e.n e.cap] ∧ Blk W (w.heap.size + 1) 29 #[.int .i64 0, .int .i64 0, .string es] ∧ Grow w W) ⟨(Blk.new _ _ _).al _, Blk.new' _ _ _ (by simp), (by repeat (first | (with_reducible exact Grow.refl _) | (with_reducible assumption) | (with_reducible refine Grow.set ?_ (by first | (simp; done) | (simp; omega)) _) | (with_reducible refine Grow.al ?_ _) | (with_reducible refine Grow.drew ?_) | (with_reducible refine Grow.drewN ?_ _) | (with_reducible refine Grow.trans ?_ (by assumption))))⟩ ?_
      rintro W ⟨B, B2, G⟩
      obtain ⟨cb, fb⟩ := B.rules
      go_wp2_with (first | (go_at_call 55; ((with_reducible refine (ct _ G).mono ?_); rintro en w2 ⟨rfl, hg2⟩; replace B2 := B2.grow hg2; replace G := G.trans hg2; clear hg2 cb fb)) | (go_at_call 57; ((with_reducible refine (cf _ G).mono ?_); rintro en w3 ⟨rfl, hg2⟩; replace B2 := B2.grow hg2; replace G := G.trans hg2; clear hg2; obtain ⟨cb, fb⟩ := B2.rules)))
      exact bodyPost_ret (by simp [results, Try.results59, go_sem, cb, zV]) rfl ⟨rfl, (by repeat (first | (with_reducible exact Grow.refl _) | (with_reducible assumption) | (with_reducible refine Grow.set ?_ (by first | (simp; done) | (simp; omega)) _) | (with_reducible refine Grow.al ?_ _) | (with_reducible refine Grow.drew ?_) | (with_reducible refine Grow.drewN ?_ _) | (with_reducible refine Grow.trans ?_ (by assumption))))⟩
  · have e1 : evalE cols row e = (zV, te) := by simp [evalE, hte, h1, zV]
    obtain ⟨rfl, rfl⟩ : R = zV ∧ ER = te := by simpa using hR.symm.trans e1
    have d : (ER != 0) = true := by simpa using h1
    clear hR e1 hte h1 hc hr hE
    unfold E.val
    go_enter Try.func59, Try.ntmps59
    go_upto_region 1 with fail
    refine wp_forget (fun W => Blk W w.heap.size 47 #[.int .i64 e.kind, .int .i64 e.v.k, .int .i64 e.v.n, .string e.v.s, .int .i64 e.col, .slice e.A e.n e.cap] ∧ Blk W (w.heap.size + 1) 29 #[.int .i64 0, .int .i64 0, .string es] ∧ Grow w W) ⟨(Blk.new _ _ _).al _, Blk.new' _ _ _ (by simp), (by repeat (first | (with_reducible exact Grow.refl _) | (with_reducible assumption) | (with_reducible refine Grow.set ?_ (by first | (simp; done) | (simp; omega)) _) | (with_reducible refine Grow.al ?_ _) | (with_reducible refine Grow.drew ?_) | (with_reducible refine Grow.drewN ?_ _) | (with_reducible refine Grow.trans ?_ (by assumption))))⟩ ?_
    rintro W ⟨B, B2, G⟩
    obtain ⟨cb, fb⟩ := B.rules
    go_wp2_with (go_at_call 55; ((with_reducible refine (ct _ G).mono ?_); rintro en w2 ⟨rfl, hg2⟩; replace B2 := B2.grow hg2; replace G := G.trans hg2; clear hg2 cb fb; obtain ⟨cb, fb⟩ := B2.rules))
    exact bodyPost_ret (by simp [results, Try.results59, go_sem, cb, zV]) rfl ⟨rfl, (by repeat (first | (with_reducible exact Grow.refl _) | (with_reducible assumption) | (with_reducible refine Grow.set ?_ (by first | (simp; done) | (simp; omega)) _) | (with_reducible refine Grow.al ?_ _) | (with_reducible refine Grow.drew ?_) | (with_reducible refine Grow.drewN ?_ _) | (with_reducible refine Grow.trans ?_ (by assumption))))⟩
end Go.Proofs.Ytjhcbehnopmnpaa
