/-
  Joined texts of this claim: EvE, R4a, R4b. What each proves its own head says; no condition beside those that each theorem names.
-/
import Derived.Test.YtigpbihjjadmlaaGreatGY
import Derived.Test.YtigpbihjjadmlaaGreatGQ
import Derived.Test.YtigpbihjjadmlaaGreatGG
import Derived.Test.YtigpbihjjadmlaaGreatGX
import Derived.Test.YtigpbihjjadmlaaGreatGVc
import Derived.Test.YtigpbihjjadmlaaGreatGJ
import Derived.Deep.RegionLaw
namespace Go.Proofs.YtigpbihjjadmlaaGreat
open Go.RowKit Go.Calm
set_option linter.unusedSimpArgs false
set_option linter.unusedVariables false

def ROfC (row : List V) (A : Option Addr) (cr : Nat) (e : E) : Prop := ∀ (w0 w : World), EX w0 e → VSl w0 A row → Grow w0 w →
  Calls Tryz.prog 27 #[e.val, .slice A row.length cr] w fun en w' => en = .returned (ofE row e).val ∧ Grow w w'

theorem rof_any (cols : List Int) (row : List V) (A : Option Addr) (cr : Nat) (hlen : row.length ≤ 9223372036854775807) (hf : FitR cols row) (e : E) : ∀ {T : Int}, wt cols e T → ROfC row A cr e := by
  induction e with
  | leaf => intro T h; exact h.elim
  | mk k v c Ak n cap kid ih =>
    intro T h w0 w hE hrow hg
    have hre := wt_re _ h
    have hrv := hf.rv
    have hty := fun (i : Nat) (t : Int) (h : wt cols (kid i) t) => of_ty hf (kid i) h
    have hRE : ∀ i, i < n → RE row.length (kid i) := fun i hi => by
      rw [hf.1]
      cases hre with
      | mk h0 hn hv hc hk => exact hk i hi
    simp only [wt] at h
    obtain ⟨h0, hn, ts, hl, hw, ht⟩ := h
    have e0 : ofE row (.mk k v c Ak n cap kid) = if k = 1 then bare v else if k = 2 then bare (row.getD c.toNat nullV') else opV k (ofE row (kid 0)) (ofE row (kid 1)) (ofE row (kid 2)) := rfl
    rw [e0]; clear e0
    have rv : ∀ i, i < n → RV (ofE row (kid i)) := fun i hi => rv_of row hrv _ (hRE i hi)
    by_cases hk1 : k = 1
    · rw [if_pos hk1]
      have hv : RV v := by
        unfold tyK at ht
        rw [if_pos hk1] at ht
        exact (RV.of v).1 ht.1
      exact rof_lit _ k v c Ak n cap kid w hk1 hv
    · rw [if_neg hk1]
      by_cases hk2 : k = 2
      · rw [if_pos hk2]
        unfold tyK at ht
        rw [if_neg hk1, if_pos hk2] at ht
        obtain ⟨c0, c1, _⟩ := ht
        have hlt : c.toNat < row.length := by have := hf.1; omega
        rw [List.getD_eq_getElem?_getD, List.getElem?_eq_getElem hlt]
        exact rof_col row A cr hlen k v c Ak n cap kid w (hrow.grow hg) hk2 c.toNat (by omega) _ (List.getElem?_eq_getElem hlt) (hrv _ (List.getElem_mem hlt))
      · rw [if_neg hk2]
        have hz : kidsN k ≠ 0 := fun hz => by rcases kids_zero hz with h8 | h8 <;> contradiction
        have hk : ∀ i, i < n → EX w0 (kid i) := fun i hi => by
          cases hE with
          | mk hn' hc hk hv hi' => exact hk i hi
        refine rof_kids row A cr k v c Ak n cap kid w0 w hE hg (by omega) hn (ofE row (kid 0)) (ofE row (kid 1)) (ofE row (kid 2)) (rv 0 (by omega)) (fun h2 => rv 1 (by omega)) (fun W hW => ?_) (fun h2 W hW => ?_) (fun h3 W hW => ?_) (fun h6 ha hb => ?_) _ rfl
        · exact ih 0 (hw 0 (by omega)) w0 W (hk 0 (by omega)) hrow hW
        · exact ih 1 (hw 1 (by omega)) w0 W (hk 1 (by omega)) hrow hW
        · exact ih 2 (hw 2 (by omega)) w0 W (hk 2 (by omega)) hrow hW
        · have hn2 : n = 2 := by have := kids_cmp h6; omega
          subst hn2
          have a0 := hty 0 _ (hw 0 (by omega))
          have b0 := hty 1 _ (hw 1 (by omega))
          match ts, hl with
          | [t, u], _ =>
            rw [ty_ne (by omega) (by omega), kind_cmp h6] at ht
            simp only [List.getD_cons_zero, List.getD_cons_succ] at a0 b0
            cases h1 : oneB t u
            · rw [h1] at ht; simp at ht
            · simp only [oneB, Bool.or_eq_true, decide_eq_true_eq] at h1
              omega

end Go.Proofs.YtigpbihjjadmlaaGreat

namespace Go.Proofs.YtigpbihjjadmlaaGreat
open Go.RowKit Go.Calm
set_option linter.unusedSimpArgs false
set_option linter.unusedVariables false

set_option maxRecDepth 100000 in
set_option maxHeartbeats 4000000 in
theorem rinput_any (cols : List Int) (Ac : Option Addr) (cc : Nat) (xs : List I) (A : Option Addr) (c : Nat) (w : World) (hlen : cols.length ≤ 9223372036854775807) (hc : ISl w Ac cols) (h : In w ⟨A, xs, c⟩) :
    Calls Tryz.prog 21 #[.slice Ac cols.length cc, .slice A xs.length c] w fun en w' => en = .returned (.int .i64 (inputE cols (xs.map zOf))) ∧ Grow w w' := by
  have hza : ZIn w A xs := h.z
  have l1 : xs.length ≤ 9223372036854775807 := h.ok.1
  have l2 : ∀ x ∈ xs, x.row.length ≤ 9223372036854775807 := h.ok.2
  have Hz := Lib.hid hza
  have Hc := Lib.hid hc
  have L2 := Lib.hid l2
  obtain ⟨R, hR⟩ : ∃ R, inputE cols (xs.map zOf) = R := ⟨_, rfl⟩
  rw [hR]
  have HR := Lib.hid hR
  obtain ⟨E, hE⟩ : ∃ E, wrongZ (xs.map zOf) = E := ⟨_, rfl⟩
  have cw := fun W (h : Grow w W) => rwrongz_any xs A c W l1 (Hz.out.grow h) L2.out E hE
  have HE := Lib.hid hE
  clear h hza l2 hc hR hE
  go_enter Tryz.func21, Tryz.ntmps21
  by_cases h8 : 8 < cols.length
  · have d8 : decide ((8 : Int) < (cols.length : Int)) = true := decide_eq_true (by omega)
    go_wp2
    go_ret
    exact ret_int (by rw [← HR.out]; unfold inputE; rw [if_pos h8]) (Grow.refl _)
  · have d8 : decide ((8 : Int) < (cols.length : Int)) = false := decide_eq_false (by omega)
    by_cases h0 : E = 0
    · subst h0
      have inv0 : fitGo cols ((xs.drop 0).map zOf) = R := by rw [← HR.out]; unfold inputE; rw [if_neg h8, HE.out, if_neg (by simp), List.drop_zero]
      have Inv0 := Lib.hid inv0
      clear inv0
      go_upto_region 6 with (go_at_call 47; ((with_reducible refine (cw _ (Grow.refl _)).mono ?_); rintro e w2 ⟨rfl, hg2⟩))
      go_wp2
      go_loopw [18] (fun i wr => ∃ k : Nat, k ≤ xs.length ∧ i = .int .i64 k ∧ fitGo cols ((xs.drop k).map zOf) = R ∧ Grow w wr) (fun i _ => xs.length - (intOf i).toNat)
      case atStart => exact ⟨0, Nat.zero_le _, rfl, Inv0.out, hg2⟩
      case round =>
        rename World => wr
        obtain ⟨k, hk, rfl, hinv, hg⟩ := hrel
        have Inv := Lib.hid hinv
        clear hinv
        by_cases hlt : k < xs.length
        · obtain ⟨x, hxk⟩ : ∃ x, xs[k]? = some x := ⟨_, List.getElem?_eq_getElem hlt⟩
          obtain ⟨gx, ox, rfl, c1, c2, hxv⟩ := (Hz.out.grow hg) k x hxk
          have hlx := L2.out x (List.mem_of_getElem? hxk)
          have inv2 := (fitGo_at cols hxk).symm.trans Inv.out
          obtain ⟨F, hF⟩ : ∃ F, fitsE cols x.row = F := ⟨_, rfl⟩
          have cf := fun W (h : Grow wr W) => rfits_any cols x.row Ac x.A cc x.cap W hlen hlx (Hc.out.grow (hg.trans h)) (hxv.grow h) F hF
          rw [hF] at inv2
          have Inv2 := Lib.hid inv2
          have b1 : (k : Int) < (xs.length : Int) := by omega
          clear hxk hxv inv2 hF
          by_cases hf0 : F = 0
          · subst hf0
            go_wp2_with (go_at_call 48; ((with_reducible refine (cf _ (Grow.refl _)).mono ?_); rintro e w3 ⟨rfl, hg3⟩))
            go_roundw
            case rel => exact ⟨k + 1, by omega, by go_num, by have := Inv2.out; rw [if_neg (by simp)] at this; exact this, hg.trans hg3⟩
            case measure => simp [intOf]; omega
          · have df : (F != 0) = true := by simpa using hf0
            go_wp2_with (go_at_call 48; ((with_reducible refine (cf _ (Grow.refl _)).mono ?_); rintro e w3 ⟨rfl, hg3⟩))
            go_ret
            exact ret_int (by have := Inv2.out; rw [if_pos hf0] at this; exact this) (hg.trans hg3)
        · obtain rfl : k = xs.length := by omega
          have fin : R = 0 := by have := Inv.out; rw [List.drop_length] at this; exact this.symm
          go_wp2
          go_ret
          exact ret_int fin.symm hg
    · have d0 : (E != 0) = true := by simpa using h0
      go_wp2_with (go_at_call 47; ((with_reducible refine (cw _ (Grow.refl _)).mono ?_); rintro e w2 ⟨rfl, hg2⟩))
      go_ret
      exact ret_int (by rw [← HR.out]; unfold inputE; rw [if_neg h8, HE.out, if_pos h0]) hg2
theorem own_start4 (w : World) : (w.alloc (.cells #[] 61)).ownsRow w.heap.size 61 3 (.slice (some ⟨w.heap.size, 0, none⟩) 0 0) 0 (flatW []) :=
  ⟨rfl, .inr ⟨w.heap.size, 0, #[], rfl, Nat.le_refl _, heap_alloc_new w _, Nat.le_refl _, by unfold maxLen; omega, rfl, rfl⟩⟩
set_option maxRecDepth 100000 in
set_option maxHeartbeats 2000000 in
theorem both4_any (a b : List V) (A B : Option Addr) (ca cb : Nat) (w : World) (hl : a.length + b.length ≤ 10000) (ha : VSl w A a) (hb : VSl w B b) :
    Calls Tryz.prog 33 #[.slice A a.length ca, .slice B b.length cb] w fun en w' => ∃ (C : Option Addr) (cap : Nat), en = .returned (.slice C (a ++ b).length cap) ∧ w'.ownsRow w.heap.size 61 3 (.slice C (a ++ b).length cap) (a ++ b).length (flatW (a ++ b)) ∧ Grow w w' := by
  have hsa := Lib.hid (srcW_of (c := ca) (ha.grow ((Grow.refl w).al (.cells #[] 61))))
  have Hb := Lib.hid hb
  have Own0 := Lib.hid (own_start4 w)
  clear ha hb
  go_enter Tryz.func33, Tryz.ntmps33
  go_wp2_with (first
    | (at_builtin; refine wpList_append_srcW rfl _ _ rfl w.heap.size _ _ _ rfl Own0.out _ a rfl hsa.out (by omega) (by simp) ?_; intro v5 w5 own5 gr5; obtain ⟨B5, cap5, rfl⟩ := own_slice own5; simp only [Nat.zero_add, List.nil_append] at own5 gr5; have G5 : Grow w w5 := grow_own ((Grow.refl w).al _) gr5 Own0.out; have Own5 := Lib.hid own5; have hsb := Lib.hid (srcW_of (c := cb) (Hb.out.grow G5)); have sz5 := G5.size; clear own5 gr5)
    | (at_builtin; refine wpList_append_srcW rfl _ _ rfl w.heap.size _ _ _ rfl Own5.out _ b rfl hsb.out (by omega) sz5 ?_; intro v6 w6 own6 gr6; obtain ⟨B6, cap6, rfl⟩ := own_slice own6; have G6 : Grow w w6 := grow_own G5 gr6 Own5.out; have Own6 := Lib.hid own6; clear own6 gr6))
  go_ret
  have e : (a ++ b).length = a.length + b.length := by simp
  exact ⟨B6, cap6, by rw [e]; rfl, by have h := Own6.out; rw [e]; simpa using h, G6⟩
end Go.Proofs.YtigpbihjjadmlaaGreat

namespace Go.Proofs.YtigpbihjjadmlaaGreat
open Go.RowKit Go.Calm
set_option linter.unusedSimpArgs false
set_option linter.unusedVariables false

end Go.Proofs.YtigpbihjjadmlaaGreat
