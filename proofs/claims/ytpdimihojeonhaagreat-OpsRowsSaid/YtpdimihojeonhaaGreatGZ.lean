/-
  Joined texts of this claim: EvE, R4a, R4b. What each proves its own head says; no condition beside those that each theorem names.
-/
import Derived.Test.YtpdimihojeonhaaGreatGY
import Derived.Test.YtpdimihojeonhaaGreatGQ
import Derived.Test.YtpdimihojeonhaaGreatGG
import Derived.Test.YtpdimihojeonhaaGreatGX
import Derived.Test.YtpdimihojeonhaaGreatGVc
import Derived.Test.YtpdimihojeonhaaGreatGJ
import Derived.Deep.RegionLaw
namespace Go.Proofs.YtpdimihojeonhaaGreat
open Go.RowKit Go.Calm
set_option linter.unusedSimpArgs false
set_option linter.unusedVariables false

def ROfC (row : List V) (A : Option Addr) (cr : Nat) (e : E) : Prop := ∀ (w0 w : World), EX w0 e → VSl w0 A row → Grow w0 w →
  Calls Tryz.prog 73 #[e.val, .slice A row.length cr] w fun en w' => en = .returned (ofE row e).val ∧ Grow w w'

theorem rof_any (cols : List Int) (row : List V) (A : Option Addr) (cr : Nat) (hlen : row.length ≤ 9223372036854775807) (hf : FitR cols row) (e : E) : ∀ {T : Int}, wt cols e T → ROfC row A cr e := by
  induction e with
  | leaf => intro T h; exact h.elim
  | mk k v c Ak n cap kid ih =>
    intro T h w0 w hE hrow hg
    have hre := wt_re _ h
    have hrv := hf.rv
    have hty := fun (i : Nat) (t : Int) (h : wt cols (kid i) t) => of_ty hf (kid i) h
    have hRE : ∀ i, i < n → RE row.length (kid i) := fun i hi => by
      rw [hf.1]
      cases hre with
      | mk h0 hn hv hc hk => exact hk i hi
    simp only [wt] at h
    obtain ⟨h0, hn, ts, hl, hw, ht⟩ := h
    have e0 : ofE row (.mk k v c Ak n cap kid) = if k = 1 then bare v else if k = 2 then bare (row.getD c.toNat nullV') else opV k (ofE row (kid 0)) (ofE row (kid 1)) (ofE row (kid 2)) := rfl
    rw [e0]; clear e0
    have rv : ∀ i, i < n → RV (ofE row (kid i)) := fun i hi => rv_of row hrv _ (hRE i hi)
    by_cases hk1 : k = 1
    · rw [if_pos hk1]
      have hv : RV v := by
        unfold tyK at ht
        rw [if_pos hk1] at ht
        exact (RV.of v).1 ht.1
      exact rof_lit _ k v c Ak n cap kid w hk1 hv
    · rw [if_neg hk1]
      by_cases hk2 : k = 2
      · rw [if_pos hk2]
        unfold tyK at ht
        rw [if_neg hk1, if_pos hk2] at ht
        obtain ⟨c0, c1, _⟩ := ht
        have hlt : c.toNat < row.length := by have := hf.1; omega
        rw [List.getD_eq_getElem?_getD, List.getElem?_eq_getElem hlt]
        exact rof_col row A cr hlen k v c Ak n cap kid w (hrow.grow hg) hk2 c.toNat (by omega) _ (List.getElem?_eq_getElem hlt) (hrv _ (List.getElem_mem hlt))
      · rw [if_neg hk2]
        have hz : kidsN k ≠ 0 := fun hz => by rcases kids_zero hz with h8 | h8 <;> contradiction
        have hk : ∀ i, i < n → EX w0 (kid i) := fun i hi => by
          cases hE with
          | mk hn' hc hk hv hi' => exact hk i hi
        refine rof_kids row A cr k v c Ak n cap kid w0 w hE hg (by omega) hn (ofE row (kid 0)) (ofE row (kid 1)) (ofE row (kid 2)) (rv 0 (by omega)) (fun h2 => rv 1 (by omega)) (fun W hW => ?_) (fun h2 W hW => ?_) (fun h3 W hW => ?_) (fun h6 ha hb => ?_) _ rfl
        · exact ih 0 (hw 0 (by omega)) w0 W (hk 0 (by omega)) hrow hW
        · exact ih 1 (hw 1 (by omega)) w0 W (hk 1 (by omega)) hrow hW
        · exact ih 2 (hw 2 (by omega)) w0 W (hk 2 (by omega)) hrow hW
        · have hn2 : n = 2 := by have := kids_cmp h6; omega
          subst hn2
          have a0 := hty 0 _ (hw 0 (by omega))
          have b0 := hty 1 _ (hw 1 (by omega))
          match ts, hl with
          | [t, u], _ =>
            rw [ty_ne (by omega) (by omega), kind_cmp h6] at ht
            simp only [List.getD_cons_zero, List.getD_cons_succ] at a0 b0
            cases h1 : oneB t u
            · rw [h1] at ht; simp at ht
            · simp only [oneB, Bool.or_eq_true, decide_eq_true_eq] at h1
              omega

end Go.Proofs.YtpdimihojeonhaaGreat

namespace Go.Proofs.YtpdimihojeonhaaGreat
open Go.RowKit Go.Calm
set_option linter.unusedSimpArgs false
set_option linter.unusedVariables false

set_option maxRecDepth 100000 in
set_option maxHeartbeats 4000000 in
theorem rinput_any (cols : List Int) (Ac : Option Addr) (cc : Nat) (xs : List I) (A : Option Addr) (c : Nat) (w : World) (hlen : cols.length ≤ 9223372036854775807) (hc : ISl w Ac cols) (h : In w ⟨A, xs, c⟩) :
    Calls Tryz.prog 27 #[.slice Ac cols.length cc, .slice A xs.length c] w fun en w' => en = .returned (.int .i64 (inputE cols (xs.map zOf))) ∧ Grow w w' := by
  have hza : ZIn w A xs := h.z
  have l1 : xs.length ≤ 9223372036854775807 := h.ok.1
  have l2 : ∀ x ∈ xs, x.row.length ≤ 9223372036854775807 := h.ok.2
  have Hz := Lib.hid hza
  have Hc := Lib.hid hc
  have L2 := Lib.hid l2
  obtain ⟨R, hR⟩ : ∃ R, inputE cols (xs.map zOf) = R := ⟨_, rfl⟩
  rw [hR]
  have HR := Lib.hid hR
  obtain ⟨E, hE⟩ : ∃ E, wrongZ (xs.map zOf) = E := ⟨_, rfl⟩
  have cw := fun W (h : Grow w W) => rwrongz_any xs A c W l1 (Hz.out.grow h) L2.out E hE
  have HE := Lib.hid hE
  clear h hza l2 hc hR hE
  go_enter Tryz.func27, Tryz.ntmps27
  by_cases h8 : 8 < cols.length
  · have d8 : decide ((8 : Int) < (cols.length : Int)) = true := decide_eq_true (by omega)
    go_wp2
    go_ret
    exact ret_int (by rw [← HR.out]; unfold inputE; rw [if_pos h8]) (Grow.refl _)
  · have d8 : decide ((8 : Int) < (cols.length : Int)) = false := decide_eq_false (by omega)
    by_cases h0 : E = 0
    · subst h0
      have inv0 : fitGo cols ((xs.drop 0).map zOf) = R := by rw [← HR.out]; unfold inputE; rw [if_neg h8, HE.out, if_neg (by simp), List.drop_zero]
      have Inv0 := Lib.hid inv0
      clear inv0
      go_upto_region 6 with (go_at_call 70; ((with_reducible refine (cw _ (Grow.refl _)).mono ?_); rintro e w2 ⟨rfl, hg2⟩))
      go_wp2
      go_loopw [18] (fun i wr => ∃ k : Nat, k ≤ xs.length ∧ i = .int .i64 k ∧ fitGo cols ((xs.drop k).map zOf) = R ∧ Grow w wr) (fun i _ => xs.length - (intOf i).toNat)
      case atStart => exact ⟨0, Nat.zero_le _, rfl, Inv0.out, hg2⟩
      case round =>
        rename World => wr
        obtain ⟨k, hk, rfl, hinv, hg⟩ := hrel
        have Inv := Lib.hid hinv
        clear hinv
        by_cases hlt : k < xs.length
        · obtain ⟨x, hxk⟩ : ∃ x, xs[k]? = some x := ⟨_, List.getElem?_eq_getElem hlt⟩
          obtain ⟨gx, ox, rfl, c1, c2, hxv⟩ := (Hz.out.grow hg) k x hxk
          have hlx := L2.out x (List.mem_of_getElem? hxk)
          have inv2 := (fitGo_at cols hxk).symm.trans Inv.out
          obtain ⟨F, hF⟩ : ∃ F, fitsE cols x.row = F := ⟨_, rfl⟩
          have cf := fun W (h : Grow wr W) => rfits_any cols x.row Ac x.A cc x.cap W hlen hlx (Hc.out.grow (hg.trans h)) (hxv.grow h) F hF
          rw [hF] at inv2
          have Inv2 := Lib.hid inv2
          have b1 : (k : Int) < (xs.length : Int) := by omega
          clear hxk hxv inv2 hF
          by_cases hf0 : F = 0
          · subst hf0
            go_wp2_with (go_at_call 71; ((with_reducible refine (cf _ (Grow.refl _)).mono ?_); rintro e w3 ⟨rfl, hg3⟩))
            go_roundw
            case rel => exact ⟨k + 1, by omega, by go_num, by have := Inv2.out; rw [if_neg (by simp)] at this; exact this, hg.trans hg3⟩
            case measure => simp [intOf]; omega
          · have df : (F != 0) = true := by simpa using hf0
            go_wp2_with (go_at_call 71; ((with_reducible refine (cf _ (Grow.refl _)).mono ?_); rintro e w3 ⟨rfl, hg3⟩))
            go_ret
            exact ret_int (by have := Inv2.out; rw [if_pos hf0] at this; exact this) (hg.trans hg3)
        · obtain rfl : k = xs.length := by omega
          have fin : R = 0 := by have := Inv.out; rw [List.drop_length] at this; exact this.symm
          go_wp2
          go_ret
          exact ret_int fin.symm hg
    · have d0 : (E != 0) = true := by simpa using h0
      go_wp2_with (go_at_call 70; ((with_reducible refine (cw _ (Grow.refl _)).mono ?_); rintro e w2 ⟨rfl, hg2⟩))
      go_ret
      exact ret_int (by rw [← HR.out]; unfold inputE; rw [if_neg h8, HE.out, if_pos h0]) hg2
theorem type_pos {cols : List Int} {x : E} {T : Int} (h : typeE cols x = (T, 0)) : 1 ≤ T := by
  have ok := okay_iff.1 h
  have ty := typE_ty cols ok.all x 1 0
  have h16 := ok.len
  have hall := ok.all
  unfold typeE at h
  rw [if_neg (by omega), if_neg (by rw [hall]; simp)] at h
  split at h
  · rename_i h0; exact absurd (Prod.mk.inj h).2 h0
  · rename_i h0
    rw [← (Prod.mk.inj h).1]
    exact (ty (by simpa using h0)).1
set_option maxRecDepth 100000 in
theorem rcond_any (cols : List Int) (Ac : Option Addr) (cc : Nat) (x : E) (w : World) (hlen : cols.length ≤ 9223372036854775807) (hc : ISl w Ac cols) (hE : EX w x) :
    Calls Tryz.prog 26 #[.slice Ac cols.length cc, x.val] w fun en w' => en = .returned (.int .i64 (condE cols x)) ∧ Grow w w' := by
  obtain ⟨T, e, hT⟩ : ∃ T e, typeE cols x = (T, e) := ⟨_, _, rfl⟩
  have ct := fun W (h : Grow w W) => typeof_any cols Ac cc x W hlen (hc.grow h) (hE.grow h)
  rw [hT] at ct
  simp only at ct
  have hR : condE cols x = if e = 0 ∧ T ≠ 2 ∧ T ≠ 1 then 9 else e := by unfold condE; rw [hT]
  rw [hR]
  have hpos : e = 0 → 1 ≤ T := fun h => type_pos (by rw [hT, h])
  clear hc hE hT hR
  unfold E.val at *
  go_enter Tryz.func26, Tryz.ntmps26
  by_cases h0 : e = 0
  · subst h0
    have hp := hpos rfl
    by_cases h2 : 2 < T
    · have d2 : decide (2 < T) = true := decide_eq_true h2
      go_wp2_with (go_at_call 69; ((with_reducible refine (ct _ (by repeat (first | (with_reducible exact Grow.refl _) | (with_reducible assumption) | (with_reducible refine Grow.set ?_ (by first | (simp; done) | (simp; omega)) _) | (with_reducible refine Grow.al ?_ _) | (with_reducible refine Grow.drew ?_) | (with_reducible refine Grow.drewN ?_ _) | (with_reducible refine Grow.trans ?_ (by assumption))))).mono ?_); rintro en w3 ⟨rfl, hg3⟩))
      go_ret
      exact ret_int (by first | rfl | rw [if_pos ⟨rfl, by omega, by omega⟩]) ((((Grow.refl w).al _).trans hg3))
    · have d2 : decide (2 < T) = false := decide_eq_false h2
      go_wp2_with (go_at_call 69; ((with_reducible refine (ct _ (by repeat (first | (with_reducible exact Grow.refl _) | (with_reducible assumption) | (with_reducible refine Grow.set ?_ (by first | (simp; done) | (simp; omega)) _) | (with_reducible refine Grow.al ?_ _) | (with_reducible refine Grow.drew ?_) | (with_reducible refine Grow.drewN ?_ _) | (with_reducible refine Grow.trans ?_ (by assumption))))).mono ?_); rintro en w3 ⟨rfl, hg3⟩))
      go_ret
      exact ret_int (by first | rfl | rw [if_neg (by omega)]) ((((Grow.refl w).al _).trans hg3))
  · have d0 : (e != 0) = true := by simpa using h0
    go_wp2_with (go_at_call 69; ((with_reducible refine (ct _ (by repeat (first | (with_reducible exact Grow.refl _) | (with_reducible assumption) | (with_reducible refine Grow.set ?_ (by first | (simp; done) | (simp; omega)) _) | (with_reducible refine Grow.al ?_ _) | (with_reducible refine Grow.drew ?_) | (with_reducible refine Grow.drewN ?_ _) | (with_reducible refine Grow.trans ?_ (by assumption))))).mono ?_); rintro en w3 ⟨rfl, hg3⟩))
    go_ret
    exact ret_int (by simp [h0]) ((((Grow.refl w).al _).trans hg3))
theorem own_start4 (w : World) : (w.alloc (.cells #[] 24)).ownsRow w.heap.size 24 3 (.slice (some ⟨w.heap.size, 0, none⟩) 0 0) 0 (flatW []) :=
  ⟨rfl, .inr ⟨w.heap.size, 0, #[], rfl, Nat.le_refl _, heap_alloc_new w _, Nat.le_refl _, by unfold maxLen; omega, rfl, rfl⟩⟩
set_option maxRecDepth 100000 in
set_option maxHeartbeats 2000000 in
theorem both4_any (a b : List V) (A B : Option Addr) (ca cb : Nat) (w : World) (hl : a.length + b.length ≤ 10000) (ha : VSl w A a) (hb : VSl w B b) :
    Calls Tryz.prog 46 #[.slice A a.length ca, .slice B b.length cb] w fun en w' => ∃ (C : Option Addr) (cap : Nat), en = .returned (.slice C (a ++ b).length cap) ∧ w'.ownsRow w.heap.size 24 3 (.slice C (a ++ b).length cap) (a ++ b).length (flatW (a ++ b)) ∧ Grow w w' := by
  have hsa := Lib.hid (srcW_of (c := ca) (ha.grow ((Grow.refl w).al (.cells #[] 24))))
  have Hb := Lib.hid hb
  have Own0 := Lib.hid (own_start4 w)
  clear ha hb
  go_enter Tryz.func46, Tryz.ntmps46
  go_wp2_with (first
    | (at_builtin; refine wpList_append_srcW rfl _ _ rfl w.heap.size _ _ _ rfl Own0.out _ a rfl hsa.out (by omega) (by simp) ?_; intro v5 w5 own5 gr5; obtain ⟨B5, cap5, rfl⟩ := own_slice own5; simp only [Nat.zero_add, List.nil_append] at own5 gr5; have G5 : Grow w w5 := grow_own ((Grow.refl w).al _) gr5 Own0.out; have Own5 := Lib.hid own5; have hsb := Lib.hid (srcW_of (c := cb) (Hb.out.grow G5)); have sz5 := G5.size; clear own5 gr5)
    | (at_builtin; refine wpList_append_srcW rfl _ _ rfl w.heap.size _ _ _ rfl Own5.out _ b rfl hsb.out (by omega) sz5 ?_; intro v6 w6 own6 gr6; obtain ⟨B6, cap6, rfl⟩ := own_slice own6; have G6 : Grow w w6 := grow_own G5 gr6 Own5.out; have Own6 := Lib.hid own6; clear own6 gr6))
  go_ret
  have e : (a ++ b).length = a.length + b.length := by simp
  exact ⟨B6, cap6, by rw [e]; rfl, by have h := Own6.out; rw [e]; simpa using h, G6⟩
theorem is_hold {v : V} (h : RV v) : isB v true = (rankV v == 2) := by
  have hb := h.bool
  unfold isB rankV
  by_cases h2 : v.k = 2
  · rcases hb h2 with h1 | h1 <;> simp [h2, h1]
  · simp [h2]
theorem fitR_app {l r : List Int} {a b : List V} (ha : FitR l a) (hb : FitR r b) : FitR (l ++ r) (a ++ b) := by
  refine ⟨by rw [List.length_append, List.length_append, ha.1, hb.1], fun i v hv => ?_⟩
  rcases Nat.lt_or_ge i a.length with h | h
  · rw [List.getElem?_append_left h] at hv
    have := ha.2 i v hv
    rw [List.getD_eq_getElem?_getD, List.getElem?_append_left (by rw [← ha.1]; exact h), ← List.getD_eq_getElem?_getD]
    exact this
  · rw [List.getElem?_append_right h] at hv
    have := hb.2 _ v hv
    rw [List.getD_eq_getElem?_getD, List.getElem?_append_right (by rw [← ha.1]; exact h), ← List.getD_eq_getElem?_getD, ← ha.1]
    exact this
set_option maxRecDepth 100000 in
theorem rholds_any (cols : List Int) (row : List V) (A : Option Addr) (cr : Nat) (x : E) (T : Int) (w : World) (hlen : row.length ≤ 9223372036854775807) (hf : FitR cols row) (ht : wt cols x T) (hx : EX w x) (hr : VSl w A row) :
    Calls Tryz.prog 28 #[x.val, .slice A row.length cr] w fun en w' => en = .returned (.bool (holdB x row)) ∧ Grow w w' := by
  have hre : RE row.length x := by rw [hf.1]; exact wt_re x ht
  have rv := rv_of row hf.rv x hre
  have co := fun W (h : Grow w W) => rof_any cols row A cr hlen hf x ht W W (hx.grow h) (hr.grow h) (Grow.refl W)
  have ci := fun W => is_any (ofE row x) true W
  rw [is_hold rv, show (rankV (ofE row x) == 2) = holdB x row from rfl] at ci
  generalize ofE row x = v9 at co ci
  generalize holdB x row = hb at *
  clear hre rv hf ht hx hr
  unfold E.val at *
  unfold V.val at co ci
  go_enter Tryz.func28, Tryz.ntmps28
  go_wp2_with (first
    | (go_at_call 73; ((with_reducible refine (co _ (by repeat (first | (with_reducible exact Grow.refl _) | (with_reducible assumption) | (with_reducible refine Grow.set ?_ (by first | (simp; done) | (simp; omega)) _) | (with_reducible refine Grow.al ?_ _) | (with_reducible refine Grow.drew ?_) | (with_reducible refine Grow.drewN ?_ _) | (with_reducible refine Grow.trans ?_ (by assumption))))).mono ?_); rintro e w5 ⟨rfl, hg5⟩))
    | (go_at_call 72; ((with_reducible refine (ci _).mono ?_); rintro e w6 ⟨rfl, hg6⟩)))
  go_ret
  exact ret_bool rfl ((((Grow.refl w).al _).trans hg5).trans hg6)
end Go.Proofs.YtpdimihojeonhaaGreat

namespace Go.Proofs.YtpdimihojeonhaaGreat
open Go.RowKit Go.Calm
set_option linter.unusedSimpArgs false
set_option linter.unusedVariables false

abbrev exC (x : E) : Array Value := #[.int .i64 x.kind, .int .i64 x.v.k, .int .i64 x.v.n, .string x.v.s, .int .i64 x.col, .slice x.A x.n x.cap]
theorem wp_append_srcN {w : World} {o : Oper} {a : Act} {K : Act → World → Prop} {Q : Exit → Act → World → Prop} (s x : Operand)
    (ho : o.op = .call { callee := .builtin .append, args := #[s, x], argTypes := #[22, 22] })
    (base : Nat) (v : Value) (n : Nat) (xs : List Int) (hs : a.eval s = v) (hown : w.ownsRow base 3 1 v n (flatN xs)) (src : Value) (L : List Int) (hx : a.eval x = src) (hsrc : SrcN w src L) (hB : n + L.length ≤ 1000000) (hbase : base ≤ w.heap.size)
    (h : ∀ B cap w', w'.ownsRow base 3 1 (.slice B (n + L.length) cap) (n + L.length) (flatN (xs ++ L)) → w.grownBy w' v.ownBlock → K (a.put o.dst (.slice B (n + L.length) cap)) w') : Oper.wp Tryz.prog o a w K Q := by
  obtain ⟨ti, hti, hz0, hz1, hz2⟩ := info_int'
  rcases hsrc with ⟨c, rfl, rfl⟩ | ⟨ad, c, rfl, hc⟩
  · have hrun := run_append_none_c (P := Tryz.prog) (w := w) base 22 o.type 3 ti 1 Tryz.underlying22 hti v n (flatN xs) hown c
    obtain ⟨B, cap, rfl⟩ := own_slice hown
    unfold Oper.wp
    simp [execOp, ho, resolve, invoke, builtin, hs, hx, hrun, Result.andThen]
    have := h B cap w (by simpa using hown) ⟨rfl, rfl, rfl, Nat.le_refl _, fun _ _ _ => rfl⟩
    rw [Oper.upon_value]
    simpa using this
  · refine wp_append_own w s x _ ho base 3 ti (.int .i64 0) 1 8 Tryz.underlying22 hti hz0 hz1 hz2 rfl (by decide) v n (flatN xs) hs hown ad L.length c (flatN L) hx (by rw [flatN_len]) hc (flatN_ones _) (by unfold maxLen; omega) (by omega) hbase ?_
    intro v' w' h1 h2 _
    obtain ⟨B, cap, rfl⟩ := own_slice h1
    exact h B cap w' (by rw [flatN_app]; exact h1) h2
theorem step_append_srcN {ops : Array Oper} {w : World} {o : Oper} {a : Act} {K : Act → World → Prop} {Q : Exit → Act → World → Prop} {E : Prop} (hgd : o.guard = none) (s x : Operand)
    (ho : o.op = .call { callee := .builtin .append, args := #[s, x], argTypes := #[22, 22] })
    (base : Nat) (v : Value) (n : Nat) (xs : List Int) (hs : a.eval s = v) (hown : w.ownsRow base 3 1 v n (flatN xs)) (src : Value) (L : List Int) (hx : a.eval x = src) (hsrc : SrcN w src L) (hB : n + L.length ≤ 1000000) (hbase : base ≤ w.heap.size)
    (h : ∀ B cap w', w'.ownsRow base 3 1 (.slice B (n + L.length) cap) (n + L.length) (flatN (xs ++ L)) → w.grownBy w' v.ownBlock → K (a.put o.dst (.slice B (n + L.length) cap)) w') :
    if Region.wanted o (yielded ops a.tmps) = true then Oper.wp Tryz.prog o a w K Q else E := by
  have hw : Region.wanted o (yielded ops a.tmps) = true := by simp [Region.wanted, hgd]
  rw [if_pos hw]
  exact wp_append_srcN s x ho base v n xs hs hown src L hx hsrc hB hbase h
theorem own_startN (w : World) : (w.alloc (.cells #[] 3)).ownsRow w.heap.size 3 1 (.slice (some ⟨w.heap.size, 0, none⟩) 0 0) 0 (flatN []) :=
  ⟨rfl, .inr ⟨w.heap.size, 0, #[], rfl, Nat.le_refl _, heap_alloc_new w _, Nat.le_refl _, by unfold maxLen; omega, rfl, rfl⟩⟩
def PR (r : List V) (v : Value) (W : World) : Prop := ∃ (B : Option Addr) (cap : Nat), v = .slice B r.length cap ∧ VSl W B r
set_option maxRecDepth 100000 in
set_option maxHeartbeats 4000000 in
theorem partner_any (cols : List Int) (x : E) (T : Int) (row : List V) (Ar : Option Addr) (cr : Nat) (b : S) (w : World) (hlb : b.xs.length ≤ 400) (hfit : ∀ z ∈ b.xs, FitR cols (row ++ z.row)) (ht : wt cols x T) (hl8 : ∀ z ∈ b.xs, (row ++ z.row).length ≤ 8) (hx : EX w x) (hr : VSl w Ar row) (hb : ZIn w b.A b.xs) :
    Calls Tryz.prog 47 #[x.val, .slice Ar row.length cr, .slice b.A b.xs.length b.cap] w fun en w' => en = .returned (.bool (metR x b.z row)) ∧ Grow w w' := by
  obtain ⟨Ab, bs1, cb⟩ := b
  simp only at hlb hfit hl8 hb ⊢
  have HX := Lib.hid hx
  have HR := Lib.hid hr
  have Hb := Lib.hid hb
  have HF := Lib.hid hfit
  have L8 := Lib.hid hl8
  have HT := Lib.hid ht
  clear hfit ht hl8 hx hr hb
  obtain ⟨M, hM⟩ : ∃ M, metR x (S.z ⟨Ab, bs1, cb⟩) row = M := ⟨_, rfl⟩
  rw [hM]
  have HM := Lib.hid hM
  clear hM
  unfold E.val
  go_enter Tryz.func47, Tryz.ntmps47
  go_upto_region 1 with fail
  refine wp_forget (fun X => Blk X w.heap.size 27 (exC x) ∧ Grow w X) ⟨Blk.new _ _ _, (Grow.refl _).al _⟩ ?_
  generalize w.heap.size = g1
  rintro X ⟨B1, G⟩
  have BB := Lib.hid B1
  clear B1
  go_wp2
  go_loopw [11] (fun i wr => ∃ k : Nat, k ≤ bs1.length ∧ i = .int .i64 k ∧ ((bs1.take k).map zOf).any (fun q => holdB x (row ++ q.1) && decide (0 < q.2)) = false ∧ Grow X wr) (fun i _ => bs1.length - (intOf i).toNat)
  case atStart => exact ⟨0, Nat.zero_le _, rfl, rfl, Grow.refl _⟩
  case round =>
    rename World => wr
    obtain ⟨k, hk, rfl, hno, hg⟩ := hrel
    have No := Lib.hid hno
    clear hno
    by_cases hlt : k < bs1.length
    · obtain ⟨z, hzk⟩ : ∃ z, bs1[k]? = some z := ⟨_, List.getElem?_eq_getElem hlt⟩
      obtain ⟨gx2, ox2, rfl, c1, c2, hzv⟩ := (Hb.out.grow (G.trans hg)) k z hzk
      have hm := List.mem_of_getElem? hzk
      have ff := HF.out z hm
      have l8 := L8.out z hm
      have tk := take_sn zOf hzk
      have TK := Lib.hid tk
      have HZ := Lib.hid hzv
      have Hmem := Lib.hid hm
      clear hzk hm tk hzv
      have cb4 := fun W (h : Grow wr W) => both4_any row z.row Ar z.A cr z.cap W (by simp at l8; omega) (HR.out.grow (G.trans (hg.trans h))) (HZ.out.grow h)
      obtain ⟨R, hR⟩ : ∃ R, row ++ z.row = R := ⟨_, rfl⟩
      rw [hR] at cb4 ff l8
      have ch := fun B cap W (h : Grow wr W) (hv : VSl W B R) => rholds_any cols R B cap x T W (by omega) ff HT.out (HX.out.grow (G.trans (hg.trans h))) hv
      obtain ⟨hit, hh⟩ : ∃ t, holdB x R = t := ⟨_, rfl⟩
      rw [hh] at ch
      have HH := Lib.hid (And.intro hR hh)
      unfold E.val at ch
      clear hR hh
      go_upto_region 4 with fail
      refine wp_forget (fun Z => Blk Z wr.heap.size 48 #[.slice z.A z.row.length z.cap, .int .i64 z.w] ∧ Grow wr Z) ⟨Blk.new _ _ _, (Grow.refl wr).al _⟩ ?_
      rintro Z ⟨Bz, Gz⟩
      have BZ := Lib.hid Bz
      have B1 := Lib.hid (BB.out.grow (hg.trans Gz))
      clear Bz c1 c2
      generalize wr.heap.size = gz at *
      by_cases hw : 0 < z.w
      · have dw : decide (0 < z.w) = true := decide_eq_true hw
        apply wp_region_calm 11 (by kernel_rfl) (by kernel_rfl)
        case h' =>
          intro Q0 hQ0
          simp only [List.take_succ_cons, List.take_zero]
          repeat (
            first
              | (apply calm_p rfl; case h1 => (intro w1 hw1 hF K hK; obtain ⟨bz, fz⟩ := (BZ.out.grow hw1).rules; obtain ⟨bx, fx⟩ := (B1.out.grow hw1).rules; go_simp; first | exact hK _ (Grow.refl _) | fail))
              | (apply calm_y rfl rfl rfl; case h1 => (intro w1 hw1 hF K hK; obtain ⟨bz, fz⟩ := (BZ.out.grow hw1).rules; obtain ⟨bx, fx⟩ := (B1.out.grow hw1).rules; go_simp; first | exact hK _ (Grow.refl _) | fail))
              | apply calm_n rfl rfl rfl rfl
            intro K hK
            go_simp
            apply hK
            clear hK K)
          apply calm_fy (PR R) rfl rfl rfl
          case h1 =>
            intro w1 hw1 hF K hK
            go_simp
            go_at_call 46
            refine (cb4 w1 (Gz.trans hw1)).mono ?_
            rintro en w' ⟨B, cap, rfl, ho, hg'⟩
            exact ⟨_, rfl, hK _ _ hg' ⟨B, cap, rfl, own_vs ho⟩⟩
          intro v23 K hK
          go_simp
          apply hK
          clear hK K
          apply calm_y rfl rfl rfl
          case h1 =>
            intro w1 hw1 hF K hK
            obtain ⟨B, cap, hv, h1⟩ := hF _ (List.mem_cons_self ..) ⟨_, rfl, by decide⟩
            subst hv
            go_simp
            go_at_call 28
            with_reducible refine (ch B cap w1 (Gz.trans hw1) h1).mono ?_
            rintro en w' ⟨rfl, hg'⟩
            exact ⟨_, rfl, hK _ hg'⟩
          intro K hK
          go_simp
          apply hK
          clear hK K
          repeat (
            first
              | (apply calm_p rfl; case h1 => (intro w1 hw1 hF K hK; obtain ⟨bz, fz⟩ := (BZ.out.grow hw1).rules; obtain ⟨bx, fx⟩ := (B1.out.grow hw1).rules; go_simp; first | exact hK _ (Grow.refl _) | fail))
              | (apply calm_y rfl rfl rfl; case h1 => (intro w1 hw1 hF K hK; obtain ⟨bz, fz⟩ := (BZ.out.grow hw1).rules; obtain ⟨bx, fx⟩ := (B1.out.grow hw1).rules; go_simp; first | exact hK _ (Grow.refl _) | fail))
              | apply calm_n rfl rfl rfl rfl
            intro K hK
            go_simp
            apply hK
            clear hK K)
          refine calm_nil ?_
          intro w1 hw1 hF
          apply hQ0
          clear hQ0
          simp only [List.drop_succ_cons, List.drop_zero]
          clear hF
          cases hit with
          | true =>
            go_wp2
            go_ret
            refine ret_bool ?_ (G.trans (hg.trans (Gz.trans hw1)))
            rw [← HM.out]
            unfold metR
            symm
            rw [List.any_eq_true]
            refine ⟨zOf z, List.mem_map_of_mem Hmem.out, ?_⟩
            have e : (zOf z).1 = z.row := rfl
            have e2 : (zOf z).2 = z.w := rfl
            rw [e, e2, HH.out.1, HH.out.2, dw]; rfl
          | false =>
            go_wp2
            go_roundw
            case rel =>
              refine ⟨k + 1, by omega, by go_num, ?_, hg.trans (Gz.trans hw1)⟩
              rw [TK.out, List.any_append, No.out]
              have e : (zOf z).1 = z.row := rfl
              simp [e, HH.out.1, HH.out.2]
            case measure => simp [intOf]; omega
        case hp' => exact ⟨fun v w w' hg ⟨B, c, e, h⟩ => ⟨B, c, e, h.grow hg⟩, trivial⟩
      · have dw : decide (0 < z.w) = false := decide_eq_false hw
        apply wp_region_calm 11 (by kernel_rfl) (by kernel_rfl)
        case h' =>
          intro Q0 hQ0
          simp only [List.take_succ_cons, List.take_zero]
          repeat (
            first
              | (apply calm_p rfl; case h1 => (intro w1 hw1 hF K hK; obtain ⟨bz, fz⟩ := (BZ.out.grow hw1).rules; obtain ⟨bx, fx⟩ := (B1.out.grow hw1).rules; go_simp; first | exact hK _ (Grow.refl _) | fail))
              | (apply calm_y rfl rfl rfl; case h1 => (intro w1 hw1 hF K hK; obtain ⟨bz, fz⟩ := (BZ.out.grow hw1).rules; obtain ⟨bx, fx⟩ := (B1.out.grow hw1).rules; go_simp; first | exact hK _ (Grow.refl _) | fail))
              | apply calm_n rfl rfl rfl rfl
            intro K hK
            go_simp
            apply hK
            clear hK K)
          refine calm_nil ?_
          intro w1 hw1 hF
          apply hQ0
          clear hQ0
          simp only [List.drop_succ_cons, List.drop_zero]
          clear hF
          go_wp2
          go_roundw
          case rel => exact ⟨k + 1, by omega, by go_num, by rw [TK.out, List.any_append, No.out]; simp [zOf, dw], hg.trans (Gz.trans hw1)⟩
          case measure => simp [intOf]; omega
        case hp' => trivial
    · obtain rfl : k = bs1.length := by omega
      go_wp2
      go_ret
      exact ret_bool (by rw [← HM.out]; have := No.out; rw [List.take_length] at this; exact this.symm) (G.trans hg)
set_option maxRecDepth 100000 in
set_option maxHeartbeats 8000000 in
theorem rtwo_any (l r : L2 Int) (x : E) (a b : S) (w : World) (hll : l.xs.length ≤ 140737488355328) (hlr : r.xs.length ≤ 140737488355328) (hl : ISl w l.A l.xs) (hr : ISl w r.A r.xs) (hE : EX w x) (ha : In w a) (hb : In w b) :
    Calls Tryz.prog 45 #[.slice l.A l.xs.length l.cap, .slice r.A r.xs.length r.cap, x.val, .slice a.A a.xs.length a.cap, .slice b.A b.xs.length b.cap] w fun en w' => en = .returned (.int .i64 (twoE l.xs r.xs x a.z b.z)) ∧ Grow w w' := by
  have HL := Lib.hid hl
  have HR := Lib.hid hr
  have HX := Lib.hid hE
  have Ha := Lib.hid ha
  have Hb := Lib.hid hb
  obtain ⟨CE, hCE⟩ : ∃ CE, condE (l.xs ++ r.xs) x = CE := ⟨_, rfl⟩
  obtain ⟨I1, hI1⟩ : ∃ I1, inputE l.xs a.z = I1 := ⟨_, rfl⟩
  obtain ⟨I2, hI2⟩ : ∃ I2, inputE r.xs b.z = I2 := ⟨_, rfl⟩
  have c1 := fun W (hg : Grow w W) => rinput_any l.xs l.A l.cap a.xs a.A a.cap W (by omega) (HL.out.grow hg) (Ha.out.grow hg)
  have c2 := fun W (hg : Grow w W) => rinput_any r.xs r.A r.cap b.xs b.A b.cap W (by omega) (HR.out.grow hg) (Hb.out.grow hg)
  rw [show a.xs.map zOf = a.z from rfl, hI1] at c1
  rw [show b.xs.map zOf = b.z from rfl, hI2] at c2
  obtain ⟨R, hR⟩ : ∃ R, twoE l.xs r.xs x a.z b.z = R := ⟨_, rfl⟩
  have fin : R = if 8 < l.xs.length + r.xs.length then 5 else if CE ≠ 0 then CE else if I1 ≠ 0 then I1 else I2 := by
    rw [← hR]
    unfold twoE
    split
    · rfl
    · rw [hCE, hI1, hI2]
      unfold orI
      split
      · rfl
      · unfold orI
        split
        · rfl
        · unfold orI orI
          split
          · rfl
          · rename_i h
            have h : I2 = 0 := by simpa using h
            exact h.symm
  rw [hR]
  have Fin := Lib.hid fin
  have ccd := fun (B : Option Addr) cap W (hg : Grow w W) (h : ISl W B (l.xs ++ r.xs)) (h8 : l.xs.length + r.xs.length ≤ 8) => rcond_any (l.xs ++ r.xs) B cap x W (by simp; omega) h (HX.out.grow hg)
  rw [hCE] at ccd
  obtain ⟨LR, hLR⟩ : ∃ LR, l.xs ++ r.xs = LR := ⟨_, rfl⟩
  rw [hLR] at ccd
  have lLR : LR.length = l.xs.length + r.xs.length := by rw [← hLR]; simp
  unfold E.val at ccd
  rw [lLR] at ccd
  have CC := Lib.hid ccd
  have HLR := Lib.hid hLR
  clear hl hr hE ha hb hCE hI1 hI2 hR fin ccd hLR
  unfold E.val
  go_enter Tryz.func45, Tryz.ntmps45
  go_upto_region 1 with fail
  refine wp_forget (fun X => Blk X w.heap.size 27 (exC x) ∧ Grow w X) ⟨Blk.new _ _ _, (Grow.refl w).al _⟩ ?_
  generalize w.heap.size = g1
  rintro X ⟨Bx, G⟩
  have hwp : IntKind.i64.wrap ((l.xs.length : Int) + (r.xs.length : Int)) = ((l.xs.length + r.xs.length : Nat) : Int) := by rw [IntKind.wrap_i64]; omega
  by_cases h8 : 8 < l.xs.length + r.xs.length
  · have d8 : decide ((8 : Int) < ((l.xs.length + r.xs.length : Nat) : Int)) = true := decide_eq_true (by omega)
    go_wp2
    go_ret
    exact ret_int (by rw [Fin.out, if_pos h8]) G
  · have d8 : decide ((8 : Int) < ((l.xs.length + r.xs.length : Nat) : Int)) = false := decide_eq_false (by omega)
    have eR : R = if CE ≠ 0 then CE else if I1 ≠ 0 then I1 else I2 := by rw [Fin.out, if_neg h8]
    have ER := Lib.hid eR
    clear eR Fin
    go_upto_region 3 with fail
    clear hwp d8
    have BX := Lib.hid Bx
    clear Bx
    go_cut [11] (fun s wx => s = .int .i64 CE ∧ Grow w wx)
    case first =>
      obtain ⟨b1x, f1x⟩ := BX.out.rules
      obtain ⟨b2x, f2x⟩ := (BX.out.grow ((Grow.refl X).al (.cells #[] 3))).rules
      go_region_law (first
        | (refine step_append_srcN rfl _ _ rfl X.heap.size _ 0 [] rfl (own_startN X) _ l.xs rfl (srcN_of (HL.out.grow (G.trans (by repeat (first | (with_reducible exact Grow.refl _) | (with_reducible assumption) | (with_reducible refine Grow.set ?_ (by first | (simp; done) | (simp; omega)) _) | (with_reducible refine Grow.al ?_ _) | (with_reducible refine Grow.drew ?_) | (with_reducible refine Grow.drewN ?_ _) | (with_reducible refine Grow.trans ?_ (by assumption))))))) (by omega) (by simp) ?_; intro B5 cap5 w5 own5 gr5; simp only [Nat.zero_add, List.nil_append] at own5 gr5; have G5 : Grow X w5 := grow_own (by repeat (first | (with_reducible exact Grow.refl _) | (with_reducible assumption) | (with_reducible refine Grow.set ?_ (by first | (simp; done) | (simp; omega)) _) | (with_reducible refine Grow.al ?_ _) | (with_reducible refine Grow.drew ?_) | (with_reducible refine Grow.drewN ?_ _) | (with_reducible refine Grow.trans ?_ (by assumption)))) gr5 (own_startN X); have Own5 := Lib.hid own5; have sz5 := G5.size; clear own5 gr5; obtain ⟨b5x, f5x⟩ := (BX.out.grow G5).rules)
        | (refine step_append_srcN rfl _ _ rfl X.heap.size _ l.xs.length l.xs rfl Own5.out _ r.xs rfl (srcN_of (HR.out.grow (G.trans (by repeat (first | (with_reducible exact Grow.refl _) | (with_reducible assumption) | (with_reducible refine Grow.set ?_ (by first | (simp; done) | (simp; omega)) _) | (with_reducible refine Grow.al ?_ _) | (with_reducible refine Grow.drew ?_) | (with_reducible refine Grow.drewN ?_ _) | (with_reducible refine Grow.trans ?_ (by assumption))))))) (by omega) sz5 ?_; intro B6 cap6 w6 own6 gr6; have G6 : Grow X w6 := grow_own (by repeat (first | (with_reducible exact Grow.refl _) | (with_reducible assumption) | (with_reducible refine Grow.set ?_ (by first | (simp; done) | (simp; omega)) _) | (with_reducible refine Grow.al ?_ _) | (with_reducible refine Grow.drew ?_) | (with_reducible refine Grow.drewN ?_ _) | (with_reducible refine Grow.trans ?_ (by assumption)))) gr6 Own5.out; rw [HLR.out] at own6; have hv6 := own_isl2 own6 lLR.symm; have HV6 := Lib.hid hv6; clear own6 gr6 hv6; obtain ⟨bx, fx⟩ := (BX.out.grow G6).rules)
        | (go_simp; go_at_call 26; ((with_reducible refine (CC.out _ _ _ (G.trans (by repeat (first | (with_reducible exact Grow.refl _) | (with_reducible assumption) | (with_reducible refine Grow.set ?_ (by first | (simp; done) | (simp; omega)) _) | (with_reducible refine Grow.al ?_ _) | (with_reducible refine Grow.drew ?_) | (with_reducible refine Grow.drewN ?_ _) | (with_reducible refine Grow.trans ?_ (by assumption))))) (HV6.out.grow (by repeat (first | (with_reducible exact Grow.refl _) | (with_reducible assumption) | (with_reducible refine Grow.set ?_ (by first | (simp; done) | (simp; omega)) _) | (with_reducible refine Grow.al ?_ _) | (with_reducible refine Grow.drew ?_) | (with_reducible refine Grow.drewN ?_ _) | (with_reducible refine Grow.trans ?_ (by assumption))))) (by omega)).mono ?_); rintro e w7 ⟨rfl, hg7⟩)))
      all_goals (
        go_wp2_with fail
        go_meet
        exact ⟨rfl, G.trans (by repeat (first | (with_reducible exact Grow.refl _) | (with_reducible assumption) | (with_reducible refine Grow.set ?_ (by first | (simp; done) | (simp; omega)) _) | (with_reducible refine Grow.al ?_ _) | (with_reducible refine Grow.drew ?_) | (with_reducible refine Grow.drewN ?_ _) | (with_reducible refine Grow.trans ?_ (by assumption))))⟩)
    case rest =>
      obtain ⟨rfl, G7⟩ := hcut
      rename World => w7
      by_cases h0 : CE = 0
      · by_cases h1 : I1 = 0
        · have eR : R = I2 := by rw [ER.out, if_neg (by simpa using h0), if_neg (by simpa using h1)]
          subst h0 h1
          go_wp2_with (first
            | (go_at_call 27; ((with_reducible refine (c1 _ G7).mono ?_); rintro e w8 ⟨rfl, hg8⟩))
            | (go_at_call 27; ((with_reducible refine (c2 _ (G7.trans hg8)).mono ?_); rintro e w9 ⟨rfl, hg9⟩)))
          go_ret
          exact ret_int eR.symm (G7.trans (hg8.trans hg9))
        · have eR : R = I1 := by rw [ER.out, if_neg (by simpa using h0), if_pos h1]
          have d1 : (I1 != 0) = true := by simpa using h1
          subst h0
          go_wp2_with (go_at_call 27; ((with_reducible refine (c1 _ G7).mono ?_); rintro e w8 ⟨rfl, hg8⟩))
          go_ret
          exact ret_int eR.symm (G7.trans hg8)
      · have eR : R = CE := by rw [ER.out, if_pos h0]
        have d0 : (CE != 0) = true := by simpa using h0
        go_wp2
        go_ret
        exact ret_int eR.symm G7
end Go.Proofs.YtpdimihojeonhaaGreat
