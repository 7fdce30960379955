/-
  The reference's Look.Type, whole; TypeOf.
-/
import Derived.Test.YtjhcbehnopmnpaaEx12
namespace Go.Proofs.Ytjhcbehnopmnpaa
open Go.RowKit Go.Calm
set_option linter.unusedSimpArgs false
set_option linter.unusedVariables false

theorem rtyp_any (cols : List Int) (Ac : Option Addr) (cc : Nat) (hall : cols.all colB = true) (hlen : cols.length ≤ 9223372036854775807) (e : E) : RTypC cols Ac cc e := by
  induction e with
  | leaf =>
    intro g deep m w0 w hE hcols hg0 hlt hb h0 h1 hd0 hd1
    unfold typE
    by_cases hm : 200 < m + 1 ∨ 20 < deep
    · rw [if_pos hm]; exact rtyp_much cols Ac cc .leaf g deep m w hb h0 h1 hm
    · rw [if_neg hm]
      exact rtyp_form cols Ac cc .leaf g deep m w hb h0 (by simp; omega) (by simp; omega) (Nat.zero_le _) (.inl (by decide))
  | mk k v c A n cap kid ih =>
    intro g deep m w0 w hE hcols hg0 hlt hb h0 h1 hd0 hd1
    have hn : n ≤ maxLen := by cases hE with | mk hn => exact hn
    by_cases hm : 200 < m + 1 ∨ 20 < deep
    · unfold typE
      rw [if_pos hm]; exact rtyp_much cols Ac cc (.mk k v c A n cap kid) g deep m w hb h0 h1 hm
    · have d1 : decide (200 < m + 1) = false := by simp; omega
      have d2 : decide (20 < deep) = false := by simp; omega
      by_cases hf : kidsN k < 0 ∨ ¬ kidsN k < 0 ∧ (n : Int) ≠ kidsN k
      · have e : typE cols (.mk k v c A n cap kid) deep m = (0, if kidsN k < 0 then 1 else 5, m + 1) := by
          unfold typE
          rw [if_neg hm]
          rcases hf with hf | ⟨hf, hf2⟩
          · rw [if_pos hf, if_pos hf]
          · rw [if_neg hf, if_pos hf2, if_neg hf]
        rw [e]
        have e2 : letE 0 (if kidsN k < 0 then 1 else 5) = 0 := by
          unfold letE
          rw [if_neg]
          split <;> decide
        simp only [e2]
        exact rtyp_form cols Ac cc (.mk k v c A n cap kid) g deep m w hb h0 d1 d2 hn hf
      · have hk0 : ¬ kidsN k < 0 := fun h => hf (.inl h)
        have hnk : (n : Int) = kidsN k := Classical.byContradiction fun h => hf (.inr ⟨hk0, h⟩)
        by_cases hz : kidsN k = 0
        · have hn0 : n = 0 := by omega
          subst hn0
          rcases kids_zero hz with rfl | rfl
          · have e : typE cols (.mk 1 v c A 0 cap kid) deep m = (v.k, wrongV v, m + 1) := by
              unfold typE
              rw [if_neg hm, if_neg hk0, if_neg (by omega)]
              simp [typKids]
            rw [e]
            exact rtyp_lit cols Ac cc (.mk 1 v c A 0 cap kid) g deep m w hb h0 d1 d2 rfl rfl
          · by_cases hc : c < 0 ∨ (cols.length : Int) ≤ c
            · have e : typE cols (.mk 2 v c A 0 cap kid) deep m = (0, 7, m + 1) := by
                unfold typE
                rw [if_neg hm, if_neg hk0, if_neg (by omega)]
                simp [typKids, hc]
              rw [e]
              exact rtyp_name cols Ac cc (.mk 2 v c A 0 cap kid) g deep m w hb h0 d1 d2 rfl rfl hc
            · have e : typE cols (.mk 2 v c A 0 cap kid) deep m = (cols.getD c.toNat 0, 0, m + 1) := by
                unfold typE
                rw [if_neg hm, if_neg hk0, if_neg (by omega)]
                simp only [typKids]
                rw [if_neg (by simp), if_neg (by decide), if_pos trivial, if_neg hc]
              rw [e]
              have e2 : letE (cols.getD c.toNat 0) 0 = lett (cols.getD c.toNat 0) := by simp [letE]
              simp only [e2]
              refine rtyp_col cols Ac cc (.mk 2 v c A 0 cap kid) g deep m w hb h0 d1 d2 rfl rfl ?_ ?_ hlen hall (hcols.grow hg0) (fun a ha => ?_)
              · show 0 ≤ c; omega
              · show c < (cols.length : Int); omega
              · have hl : 0 < cols.length := by omega
                obtain ⟨ga, oa, h1, h2⟩ := hcols 0 (cols[0]) (by simp [hl])
                rw [h1] at ha
                cases ha
                have : ga < w0.heap.size := Grow.lt h2
                simp only
                omega
        · rw [typE_kids cols k v c A n cap kid deep m hm (by omega) hnk]
          obtain ⟨T, ER, M, hT⟩ : ∃ T ER M, typOf k (typKids (fun i m' => typE cols (kid i) (deep + 1) m') n 0 (m + 1) []) = (T, ER, M) := ⟨_, _, _, rfl⟩
          rw [hT]
          exact rtyp_kids cols Ac cc hall k v c A n cap kid ih g deep m w0 w hE hcols hg0 hlt hb h0 d1 d2 hd0 (by omega) hnk T ER M hT

theorem lett_eqb {k T : Int} (h1 : 1 ≤ k) (h2 : k ≤ T) (hT : Ty T) : (lett k == lett T) = decide (k = T) := by
  have : k = 1 ∨ k = 2 ∨ k = 3 ∨ k = 4 := by unfold Ty at hT; omega
  rcases hT.cases with rfl | rfl | rfl | rfl <;> rcases this with rfl | rfl | rfl | rfl <;> first | rfl | omega

set_option maxRecDepth 100000 in
set_option maxHeartbeats 4000000 in
theorem typeof_any (cols : List Int) (Ac : Option Addr) (cc : Nat) (e : E) (w : World) (hlen : cols.length ≤ 9223372036854775807) (hcols : ISl w Ac cols) (hE : EX w e) :
    Calls Try.prog 55 #[.slice Ac cols.length cc, e.val] w fun en w' => en = .returned (.tuple #[.int .i64 (typeE cols e).1, .int .i64 (typeE cols e).2]) ∧ Grow w w' := by
  have HE := Lib.hid hE
  have Hcols := Lib.hid hcols
  clear hE hcols
  by_cases h16 : 16 < cols.length
  · have e1 : typeE cols e = (0, 5) := by simp [typeE, h16]
    rw [e1]; clear e1
    have d1 : decide (16 < (cols.length : Int)) = true := by simp; omega
    clear h16
    unfold E.val
    go_enter Try.func55, Try.ntmps55
    go_wp2
    exact bodyPost_ret (by simp [results, Try.results55, go_sem]) rfl ⟨rfl, (by repeat (first | (with_reducible exact Grow.refl _) | (with_reducible assumption) | (with_reducible refine Grow.set ?_ (by first | (simp; done) | (simp; omega)) _) | (with_reducible refine Grow.al ?_ _) | (with_reducible refine Grow.drew ?_) | (with_reducible refine Grow.drewN ?_ _) | (with_reducible refine Grow.trans ?_ (by assumption))))⟩
  · have d1 : decide (16 < (cols.length : Int)) = false := by simp; omega
    obtain ⟨T, ER, hT⟩ : ∃ T ER, typeE cols e = (T, ER) := ⟨_, _, rfl⟩
    rw [hT]
    have HT := Lib.hid hT
    have H16 := Lib.hid h16
    clear hT h16
    unfold E.val
    go_enter Try.func55, Try.ntmps55
    go_wp2
    refine wp_forget (fun W => Blk W w.heap.size 47 #[.int .i64 e.kind, .int .i64 e.v.k, .int .i64 e.v.n, .string e.v.s, .int .i64 e.col, .slice e.A e.n e.cap] ∧ Grow w W) ⟨Blk.new _ _ _, (by repeat (first | (with_reducible exact Grow.refl _) | (with_reducible assumption) | (with_reducible refine Grow.set ?_ (by first | (simp; done) | (simp; omega)) _) | (with_reducible refine Grow.al ?_ _) | (with_reducible refine Grow.drew ?_) | (with_reducible refine Grow.drewN ?_ _) | (with_reducible refine Grow.trans ?_ (by assumption))))⟩ ?_
    rintro W ⟨B, G⟩
    go_loopw [16] (fun i wr => ∃ k : Nat, k ≤ cols.length ∧ i = .int .i64 k ∧ (cols.take k).all colB = true ∧ wr = W) (fun i _ => cols.length - (intOf i).toNat)
    case atStart => exact ⟨0, Nat.zero_le _, rfl, rfl, rfl⟩
    case round =>
      obtain ⟨k, hk, rfl, hall, rfl⟩ := hrel
      have Hall := Lib.hid hall
      clear hall
      by_cases hlt : k < cols.length
      · obtain ⟨x, hxk⟩ : ∃ x, cols[k]? = some x := ⟨_, List.getElem?_eq_getElem hlt⟩
        obtain ⟨g, o, rfl, c1⟩ := (Hcols.out.grow G) k x hxk
        have Hxk := Lib.hid hxk
        clear hxk
        cases hr : colB x
        · have fin : typeE cols e = (0, 1) := by
            have := all_fails colB cols k x Hxk.out hr
            unfold typeE
            rw [if_neg H16.out, if_pos this]
          obtain ⟨rfl, rfl⟩ : T = 0 ∧ ER = 1 := by simpa using HT.out.symm.trans fin
          clear fin
          rcases colB_no hr with d2 | ⟨d2, d3⟩
          · go_wp2
            exact bodyPost_ret (by simp [results, Try.results55, go_sem]) rfl ⟨rfl, (by repeat (first | (with_reducible exact Grow.refl _) | (with_reducible assumption) | (with_reducible refine Grow.set ?_ (by first | (simp; done) | (simp; omega)) _) | (with_reducible refine Grow.al ?_ _) | (with_reducible refine Grow.drew ?_) | (with_reducible refine Grow.drewN ?_ _) | (with_reducible refine Grow.trans ?_ (by assumption))))⟩
          · go_wp2
            exact bodyPost_ret (by simp [results, Try.results55, go_sem]) rfl ⟨rfl, (by repeat (first | (with_reducible exact Grow.refl _) | (with_reducible assumption) | (with_reducible refine Grow.set ?_ (by first | (simp; done) | (simp; omega)) _) | (with_reducible refine Grow.al ?_ _) | (with_reducible refine Grow.drew ?_) | (with_reducible refine Grow.drewN ?_ _) | (with_reducible refine Grow.trans ?_ (by assumption))))⟩
        · have Hr := Lib.hid (all_take colB cols k x Hxk.out Hall.out hr)
          obtain ⟨d2, d3⟩ := colB_ok hr
          go_wp2
          go_roundw
          case rel => exact ⟨k + 1, by omega, by go_num, Hr.out, trivial⟩
          case measure => simp [intOf]; omega
      · have hall : cols.all colB = true := by
          have := Hall.out
          rwa [List.take_of_length_le (by omega)] at this
        obtain ⟨q1, q2, q3, hq⟩ : ∃ q1 q2 q3, typE cols e 1 0 = (q1, q2, q3) := ⟨_, _, _, rfl⟩
        have ct := fun W' (h1 : Grow wr W') hb => rtyp_any cols Ac cc hall hlen e wr.heap.size 1 0 wr W' (HE.out.grow G) (Hcols.out.grow G) h1 (Nat.le_refl _) hb (by omega) (by omega) (by omega) (by omega)
        have hqt := typE_ty cols hall e 1 0
        rw [hq] at ct hqt
        simp only at ct hqt
        have Gs := G.size
        obtain ⟨cb, fb⟩ := B.rules
        have lB := B.lt
        by_cases h2 : q2 = 0
        · have fin : typeE cols e = (q1, 0) := by
            unfold typeE
            rw [if_neg H16.out, if_neg (by simp [hall]), hq, if_neg (by simp [h2])]
          obtain ⟨rfl, rfl⟩ : T = q1 ∧ ER = 0 := by simpa using HT.out.symm.trans fin
          subst h2
          have Hqt := Lib.hid (hqt rfl)
          have e2 : letE T 0 = lett T := by simp [letE]
          rw [e2] at ct
          clear fin hq hall e2 hqt
          go_wp2_with (go_at_call 109; ((with_reducible refine (ct _ ((Grow.refl _).al _) (Blk.new _ _ _)).mono ?_); rintro en w2 ⟨rfl, hb2, hg2⟩))
          go_loopw [10] (fun t w3 => ∃ k : Int, 1 ≤ k ∧ k ≤ T ∧ t = .int .i64 k ∧ w3 = w2) (fun t _ => (5 - intOf t).toNat)
          case atStart => exact ⟨1, by omega, Hqt.out.1, rfl, rfl⟩
          case round =>
            obtain ⟨k, hk1, hk2, rfl, rfl⟩ := hrel
            have hT4 : T ≤ 4 := Hqt.out.2
            have d4 : decide (k ≤ 4) = true := by simp; omega
            have d5 := lett_eqb hk1 hk2 Hqt.out
            by_cases hkT : k = T
            · have d6 : (lett k == lett T) = true := by rw [d5]; simpa using hkT
              clear d5
              subst hkT
              go_wp2_with ((go_at_call 110; ((with_reducible refine (letter_any _ (by omega) (by omega) _).mono ?_); rintro e w' ⟨rfl, rfl⟩)))
              exact bodyPost_ret (by simp [results, Try.results55, go_sem]) rfl ⟨rfl, GX.base (G.al _) Gs hg2⟩
            · have d6 : (lett k == lett T) = false := by rw [d5]; simpa using hkT
              clear d5
              go_wp2_with ((go_at_call 110; ((with_reducible refine (letter_any _ (by omega) (by omega) _).mono ?_); rintro e w' ⟨rfl, rfl⟩)))
              go_roundw
              case rel => exact ⟨k + 1, by omega, by omega, by go_num, trivial⟩
              case measure => simp [intOf]; omega
        · have fin : typeE cols e = (0, q2) := by
            unfold typeE
            rw [if_neg H16.out, if_neg (by simp [hall]), hq, if_pos (by simp [h2])]
          have dq : (q2 != 0) = true := by simpa using h2
          obtain ⟨rfl, rfl⟩ : T = 0 ∧ ER = q2 := by simpa using HT.out.symm.trans fin
          clear fin hq hall h2 hqt
          go_wp2_with (go_at_call 109; ((with_reducible refine (ct _ ((Grow.refl _).al _) (Blk.new _ _ _)).mono ?_); rintro en w2 ⟨rfl, hb2, hg2⟩))
          exact bodyPost_ret (by simp [results, Try.results55, go_sem]) rfl ⟨rfl, GX.base (G.al _) Gs hg2⟩
end Go.Proofs.Ytjhcbehnopmnpaa
