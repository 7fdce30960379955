/-
  A text of the proof of the law OpsFirst; no condition beside the row's own.
-/
import Derived.Test.YtpdimihojeonhaaGTc
import Derived.Test.YtpdimihojeonhaaGJ
import Derived.Test.YtpdimihojeonhaaHLawOLinear
/-
  The law OpsFirst, walked.
-/
namespace Go.Calm
open Go.RowKit
/-- An operation whose guard did not come up itself. -/
theorem calm_nu {P : Program} {ops : Array Oper} {w0 : World} {Q : Act → World → Prop} {ss : List Spec} {a : Act} {F : List (Option Tmp × (World → Prop))} {G : List Value} {o : Oper} {os : List Oper}
    {j : Nat} {want : Bool} {t : Tmp} (ho : o.guard = some (j, want)) (hj : (ops[j]?).bind (·.dst) = some t) (hb : a.tmps[t]? = some undef)
    (h2 : ∀ K : Act → Prop, (∀ a, wpCalm P ops w0 Q ss os a F G → K a) → K (a.put o.dst undef)) : wpCalm P ops w0 Q (.inl undef :: ss) (o :: os) a F G :=
  calm_fix (fun w hw hF K hK => by
    rw [if_neg]
    unfold Region.wanted yielded
    rw [ho]
    simp only
    rw [hj]
    simp only [Option.bind_some, hb]
    simp [undef]) h2
end Go.Calm
namespace Go.Proofs.Ytpdimihojeonhaa
open Go.RowKit Go.Calm
set_option linter.unusedSimpArgs false
set_option linter.unusedVariables false

theorem top_sml (cols : List Int) (es : List E) (k : Int) (z : List Z) : smlZ (topZ cols es k z).1 := by
  unfold topZ
  split
  · exact sml_nil
  · split
    · exact sml_nil
    · split
      · exact sml_nil
      · rename_i h2
        obtain ⟨_, hw, _⟩ := inputE_zero (cols := cols) (z := z) (by simpa using h2)
        have smz := SM.of hw
        refine sum_sml (fun y hy => ?_)
        have sub : ∀ (l : List Z) (left : Int), y ∈ topGo left l → ∃ x ∈ l, x.1 = y.1 := by
          intro l
          induction l with
          | nil => intro left h; simp [topGo] at h
          | cons a l ih =>
            intro left h
            unfold topGo at h
            split at h
            · rcases List.mem_cons.1 h with e | h
              · exact ⟨a, List.mem_cons_self .., by rw [e]⟩
              · obtain ⟨x, hx, e⟩ := ih _ h
                exact ⟨x, List.mem_cons_of_mem _ hx, e⟩
            · obtain ⟨x, hx, e⟩ := ih _ h
              exact ⟨x, List.mem_cons_of_mem _ hx, e⟩
        obtain ⟨x, hx, e⟩ := sub _ _ hy
        obtain ⟨⟨r, hr, e2⟩, _⟩ := eachL_mem ((sortZ_perm _ _).mem_iff.1 hx)
        rw [← e, e2]
        exact ⟨by rw [bareR_len]; exact (smz.ok r hr).1, bareR_rv (smz.ok r hr).2⟩
theorem top_bad {cols : List Int} {es : List E} {k : Int} {z t : List Z} {e : Int} (h : topZ cols es k z = (t, e)) (he : e ≠ 0) : t = [] := by
  unfold topZ at h
  split at h
  · exact (Prod.mk.inj h).1.symm
  · split at h
    · exact (Prod.mk.inj h).1.symm
    · split at h
      · exact (Prod.mk.inj h).1.symm
      · unfold sumZ at h
        rcases fitZ_cases (setZ (topGo k (sortZ es (eachL posF z)))) with ⟨e1, _⟩ | ⟨e1, _, e2⟩
        · rw [e1] at h; exact absurd (Prod.mk.inj h).2.symm he
        · rw [e2] at h; exact (Prod.mk.inj h).1.symm
theorem esl_one {w : World} {g : Nat} {x : E} (h : Blk w g 27 #[.int .i64 x.kind, .int .i64 x.v.k, .int .i64 x.v.n, .string x.v.s, .int .i64 x.col, .slice x.A x.n x.cap]) (hx : EX w x) : ESl w (some ⟨g, 0, none⟩) [x] := fun i y hy => by
  match i, hy with
  | 0, hy =>
    simp at hy
    subst hy
    exact ⟨g, 0, rfl, ⟨h.cells rfl, h.cells rfl, h.cells rfl, h.cells rfl, h.cells rfl, h.cells rfl⟩, hx⟩
abbrev vC (v : V) : Array Value := #[.int .i64 v.k, .int .i64 v.n, .string v.s]
set_option maxRecDepth 100000 in
set_option maxHeartbeats 8000000 in
theorem law_ofirst (cols : List Int) (Ac : Option Addr) (cc : Nat) (key k : Int) (s : S) (w : World) (hlen : cols.length ≤ 9223372036854775807) (hkey : inI64 key) (hc : ISl w Ac cols) (hs : In w s) :
    Calls Try.prog 5 #[.slice Ac cols.length cc, .int .i64 key, .int .i64 k, .slice s.A s.xs.length s.cap] w fun en w' => en = .returned (.bool true) ∧ Grow w w' := by
  obtain ⟨A, xs, c⟩ := s
  have Hs := Lib.hid hs
  obtain ⟨x, hx⟩ : ∃ x, colK key = x := ⟨_, rfl⟩
  have cc4 := fun W => col4_any key W
  rw [hx] at cc4
  have exx := fun W => ex_col W key hkey
  rw [hx] at exx
  have ct0 := (fun (g : Nat) W (h : Grow w W) (hb : Blk W g 27 #[.int .i64 x.kind, .int .i64 x.v.k, .int .i64 x.v.n, .string x.v.s, .int .i64 x.col, .slice x.A x.n x.cap]) => (top_any cols Ac cc [x] (some ⟨g, 0, none⟩) 1 k xs A c W hlen (by simp) (hc.grow h) (esl_one hb (exx W)) (Hs.out.grow h)).mono (fun e w' h => Gives.i h (top_sml cols [x] k (xs.map zOf))))
  obtain ⟨t, e, ht⟩ : ∃ t e, topZ cols [x] k (xs.map zOf) = (t, e) := ⟨_, _, rfl⟩
  rw [ht] at ct0
  have ct := Lib.hid ct0
  have HT := Lib.hid ht
  have HX := Lib.hid hx
  unfold E.val at cc4
  clear hs hc exx ht hx ct0
  go_enter Try.func5, Try.ntmps5
  go_upto_region 4 with (first
    | (go_at_call 8; ((with_reducible refine (alive4 _).mono ?_); rintro e w2 ⟨rfl, hg2⟩))
    | (go_at_call 18; ((with_reducible refine (cc4 _).mono ?_); rintro e w3 ⟨rfl, hg3⟩))
    | (go_at_call 17; ((refine (ct.out _ _ ((hg2.trans hg3).al _) (Blk.new _ _ _)).mono ?_); rintro en w4 ⟨F, l3, c3, rfl, hi4, hm4, hg4⟩; have I4 := Lib.hid hi4; have M4 := Lib.hid hm4; clear hi4 hm4)))
  have G4 : Grow w w4 := ((hg2.trans hg3).al _).trans hg4
  clear ct cc4 hg2 hg3 hg4
  by_cases he : e = 0
  · subst he
    have hx := HX.out
    subst hx
    obtain ⟨⟨hk0, hk50⟩, ⟨hkey0, hkeyc⟩, hin, ct, wt', hA, hB, hC⟩ := first_ok HT.out
    obtain ⟨_, hwz, hfit⟩ := inputE_zero hin
    obtain ⟨kn, rfl⟩ : ∃ kn : Nat, key = (kn : Int) := ⟨key.toNat, by omega⟩
    simp only [Int.toNat_natCast] at hC
    have smz := SM.of hwz
    have smt := SM.of wt'
    have HA := Lib.hid hA
    have HB := Lib.hid hB
    have HC := Lib.hid hC
    have Hfit := Lib.hid hfit
    have Okz := Lib.hid smz.ok
    have Okt := Lib.hid smt.ok
    have Bdz := Lib.hid smz.bd
    have Hwz := Lib.hid hwz
    have Hwt := Lib.hid wt'
    have lz : xs.length ≤ 400 := by have := smz.len; simpa using this
    have lt : l3.length ≤ 400 := by have h1 := congrArg List.length M4.out; have h2 := smt.len; simp at h1 h2; omega
    have post : ∀ u ∈ t, 0 < u.2 := fun u hu => by have := (hA u hu).1; omega
    have Post := Lib.hid post
    have hsum : 0 ≤ sumW t ∧ sumW t ≤ 50 := ⟨sumW_pos post, by have := hB; split at this <;> omega⟩
    have kl : kn < cols.length := by omega
    clear hA hB hC hfit smz smt hwz wt' ct hin post hkey0 hkeyc hkey
    go_upto_region 8 with fail
    refine wp_forget (fun Y => Blk Y w4.heap.size 24 (vC zV) ∧ Grow w4 Y) ⟨Blk.new _ _ _, (Grow.refl _).al _⟩ ?_
    rintro Y ⟨By, Gy⟩
    have BY := Lib.hid By
    clear By
    go_wp2
    go_loopw [11, 37] (fun nn i wr => ∃ j : Nat, j ≤ l3.length ∧ i = .int .i64 j ∧ nn = .int .i64 (sumW ((l3.take j).map zOf)) ∧ (∃ v : V, Blk wr w4.heap.size 24 (vC v) ∧ (j = 0 ∨ ∃ y ∈ l3, v = y.row.getD kn nullV')) ∧ Grow w4 wr) (fun _ i _ => l3.length - (intOf i).toNat)
    case atStart => exact ⟨0, Nat.zero_le _, rfl, rfl, ⟨zV, BY.out, .inl rfl⟩, Gy⟩
    case round =>
      rename World => wr
      obtain ⟨j, hj, rfl, rfl, ⟨v, hbv, hv⟩, hg⟩ := hrel
      have BV9 := Lib.hid hbv
      have HV9 := Lib.hid hv
      clear hbv hv
      by_cases hlt : j < l3.length
      · obtain ⟨y, hyk⟩ : ∃ y, l3[j]? = some y := ⟨_, List.getElem?_eq_getElem hlt⟩
        obtain ⟨gx, ox, eF, c1, c2, hyv⟩ := (I4.out.z.grow hg) j y hyk
        simp only at eF
        subst eF
        have hm := List.mem_of_getElem? hyk
        have hmt : zOf y ∈ t := by rw [← (show l3.map zOf = t from M4.out)]; exact List.mem_map_of_mem hm
        obtain ⟨ya1, ya2, yl⟩ := HA.out (zOf y) hmt
        have ya1 : 1 ≤ y.w := ya1
        have ya2 : y.w ≤ wtZ (xs.map zOf) y.row := ya2
        have yl : y.row.length = cols.length := yl
        have yrow := Okt.out (zOf y) hmt
        have yre : rowE y.row = 0 := (rowE_zero _).2 yrow
        have hyl8 : y.row.length ≤ 8 := yrow.1
        obtain ⟨u, hu⟩ : ∃ u, y.row[kn]? = some u := ⟨_, List.getElem?_eq_getElem (by omega)⟩
        have hgd : y.row.getD kn nullV' = u := by rw [List.getD_eq_getElem?_getD, hu]; rfl
        have tk := take_sn zOf hyk
        have hs1 : sumW ((l3.take (j + 1)).map zOf) = sumW ((l3.take j).map zOf) + y.w := by
          rw [tk]
          unfold sumW
          rw [sumF_append]
          simp [sumF, zOf]
        have hbd : 0 ≤ sumW ((l3.take j).map zOf) ∧ sumW ((l3.take j).map zOf) + y.w ≤ 50 := by
          have e1 : t = (l3.take (j + 1)).map zOf ++ (l3.drop (j + 1)).map zOf := by rw [← List.map_append, List.take_append_drop]; exact M4.out.symm
          have p1 := sumW_pos (M := (l3.take j).map zOf) (fun q hq => Post.out q (by rw [← (show l3.map zOf = t from M4.out)]; obtain ⟨p, hp, rfl⟩ := List.mem_map.1 hq; exact List.mem_map_of_mem (List.mem_of_mem_take hp)))
          have p2 := sumW_pos (M := (l3.drop (j + 1)).map zOf) (fun q hq => Post.out q (by rw [← (show l3.map zOf = t from M4.out)]; obtain ⟨p, hp, rfl⟩ := List.mem_map.1 hq; exact List.mem_map_of_mem (List.mem_of_mem_drop hp)))
          have e2 : sumW t = sumW ((l3.take (j + 1)).map zOf) + sumW ((l3.drop (j + 1)).map zOf) := by rw [e1]; exact sumF_append _ _ _
          omega
        obtain ⟨sn, hsn⟩ : ∃ q, sumW ((l3.take j).map zOf) = q := ⟨_, rfl⟩
        rw [hsn] at hs1 hbd ⊢
        obtain ⟨Wz, hWz⟩ : ∃ q, wtZ (xs.map zOf) y.row = q := ⟨_, rfl⟩
        have cw := fun W (h : Grow wr W) => zweight_any xs A c y.row y.A y.cap W (Hs.out.z.grow (G4.trans (hg.trans h))) Hwz.out (hyv.grow h) yre
        rw [hWz] at cw ya2
        obtain ⟨gu, ou, eA, u1, u2, u3⟩ := hyv kn u hu
        have co := fun W => order_any v u W
        obtain ⟨o, ho⟩ : ∃ q, ordV v u = q := ⟨_, rfl⟩
        rw [ho] at co
        unfold V.val at co
        have HS1 := Lib.hid hs1
        have HM := Lib.hid (And.intro hm hgd)
        have U := Lib.hid (And.intro u1 (And.intro u2 u3))
        have EA := Lib.hid eA
        have hwp : IntKind.i64.wrap (sn + y.w) = sn + y.w := by rw [IntKind.wrap_i64]; omega
        have d1 : decide (y.w < 1) = false := decide_eq_false (by omega)
        have d2 : decide (Wz < y.w) = false := decide_eq_false (by omega)
        have pk : (kn : Int) < (y.row.length : Int) := by omega
        have pk2 : kn < y.row.length := by omega
        clear hyk hm hmt ya1 ya2 yrow yre hu hgd tk hs1 hsn hWz hyv u1 u2 u3 ho yl eA
        go_upto_region 11 with fail
        refine wp_forget (fun Z1 => Blk Z1 wr.heap.size 47 #[.slice y.A y.row.length y.cap, .int .i64 y.w] ∧ Grow wr Z1) ⟨Blk.new _ _ _, (Grow.refl wr).al _⟩ ?_
        rintro Z1 ⟨Bz, Gz⟩
        have BZ := Lib.hid Bz
        have BV1 := Lib.hid (BV9.out.grow Gz)
        have gne : w4.heap.size < wr.heap.size := BV9.out.lt
        clear Bz c1 c2
        generalize wr.heap.size = gz at *
        apply wp_region_calm 12 (by kernel_rfl) (by kernel_rfl)
        case h' =>
          intro Q0 hQ0
          simp only [List.take_succ_cons, List.take_zero]
          repeat (
            first
              | (apply calm_p rfl; case h1 => (intro w1 hw1 hF K hK; obtain ⟨bz, fz⟩ := (BZ.out.grow hw1).rules; go_simp; first | exact hK _ (Grow.refl _) | (go_at_call 19; ((with_reducible refine (cw _ (Gz.trans hw1)).mono ?_); rintro e w' ⟨rfl, hg⟩; exact ⟨_, rfl, hK _ hg⟩))))
              | (apply calm_y rfl rfl rfl; case h1 => (intro w1 hw1 hF K hK; obtain ⟨bz, fz⟩ := (BZ.out.grow hw1).rules; go_simp; first | exact hK _ (Grow.refl _) | (go_at_call 19; ((with_reducible refine (cw _ (Gz.trans hw1)).mono ?_); rintro e w' ⟨rfl, hg⟩; exact ⟨_, rfl, hK _ hg⟩))))
              | apply calm_n rfl rfl rfl rfl
            intro K hK
            go_simp
            apply hK
            clear hK K)
          refine calm_nil ?_
          intro w1 hw1 hF
          apply hQ0
          clear hQ0
          simp only [List.drop_succ_cons, List.drop_zero]
          clear hF
          have BZ2 := Lib.hid (BZ.out.grow hw1)
          have BV2 := Lib.hid (BV1.out.grow hw1)
          have U2 := Lib.hid (And.intro ((Gz.trans hw1).cell U.out.1) (And.intro ((Gz.trans hw1).cell U.out.2.1) ((Gz.trans hw1).cell U.out.2.2)))
          have GG := Gz.trans hw1
          obtain ⟨bz, fz⟩ := BZ2.out.rules
          go_upto_region 14 with fail
          clear bz fz
          have eA := EA.out
          obtain ⟨u1, u2, u3⟩ := U2.out
          have fin : ∀ W, Grow w1 W → ∀ (W2 : World), W2 = (((W.setCell ⟨w4.heap.size, 0, none⟩ (.int .i64 u.k)).setCell ⟨w4.heap.size, 1, none⟩ (.int .i64 u.n)).setCell ⟨w4.heap.size, 2, none⟩ (.string u.s)) → Blk W2 w4.heap.size 24 (vC u) ∧ Grow w4 W2 := by
            rintro W hW W2 rfl
            have hb := (((BV2.out.grow hW).set 0 (.int .i64 u.k)).set 1 (.int .i64 u.n)).set 2 (.string u.s)
            exact ⟨by simpa using hb, Grow.set (Grow.set (Grow.set (hg.trans (GG.trans hW)) (Nat.le_refl _) _) (Nat.le_refl _) _) (Nat.le_refl _) _⟩
          have Fin := Lib.hid fin
          clear fin
          by_cases hj0 : j = 0
          · have dj : ((j : Int) == 0) = true := by simp [hj0]
            apply wp_region_calm 12 (by kernel_rfl) (by kernel_rfl)
            case h' =>
              intro Q0 hQ0
              simp only [List.take_succ_cons, List.take_zero]
              repeat (
                first
                  | (apply calm_p rfl; case h1 => (intro w1 hw1 hF K hK; obtain ⟨bz, fz⟩ := (BZ2.out.grow hw1).rules; go_simp; first | exact hK _ (Grow.refl _) | fail))
                  | (apply calm_y rfl rfl rfl; case h1 => (intro w1 hw1 hF K hK; obtain ⟨bz, fz⟩ := (BZ2.out.grow hw1).rules; go_simp; first | exact hK _ (Grow.refl _) | fail))
                  | apply calm_n rfl rfl rfl rfl
                intro K hK
                go_simp
                apply hK
                clear hK K)
              refine calm_nil ?_
              intro w1 hw1 hF
              apply hQ0
              clear hQ0
              simp only [List.drop_succ_cons, List.drop_zero]
              clear hF
              obtain ⟨bz, fz⟩ := (BZ2.out.grow hw1).rules
              obtain ⟨bv, fv⟩ := (BV2.out.grow hw1).rules
              have q1 := hw1.cell U2.out.1
              have q2 := hw1.cell U2.out.2.1
              have q3 := hw1.cell U2.out.2.2
              have FF := Lib.hid (Fin.out _ hw1 _ rfl)
              go_wp2
              go_roundw
              case rel => exact ⟨j + 1, by omega, by go_num, by rw [HS1.out], ⟨u, FF.out.1, .inr ⟨y, HM.out.1, HM.out.2.symm⟩⟩, FF.out.2⟩
              case measure => simp [intOf]; omega
            case hp' => trivial
          · have dj : ((j : Int) == 0) = false := by simp [hj0]
            apply wp_region_calm 12 (by kernel_rfl) (by kernel_rfl)
            case h' =>
              intro Q0 hQ0
              simp only [List.take_succ_cons, List.take_zero]
              repeat (
                first
                  | (apply calm_p rfl; case h1 => (intro w1 hw1 hF K hK; obtain ⟨bz, fz⟩ := (BZ2.out.grow hw1).rules; obtain ⟨bv, fv⟩ := (BV2.out.grow hw1).rules; have q1 := hw1.cell U2.out.1; have q2 := hw1.cell U2.out.2.1; have q3 := hw1.cell U2.out.2.2; go_simp; first | exact hK _ (Grow.refl _) | (go_at_call 20; ((with_reducible refine (co _).mono ?_); rintro e w' ⟨rfl, hg⟩; exact ⟨_, rfl, hK _ hg⟩))))
                  | (apply calm_y rfl rfl rfl; case h1 => (intro w1 hw1 hF K hK; obtain ⟨bz, fz⟩ := (BZ2.out.grow hw1).rules; obtain ⟨bv, fv⟩ := (BV2.out.grow hw1).rules; have q1 := hw1.cell U2.out.1; have q2 := hw1.cell U2.out.2.1; have q3 := hw1.cell U2.out.2.2; go_simp; first | exact hK _ (Grow.refl _) | (go_at_call 20; ((with_reducible refine (co _).mono ?_); rintro e w' ⟨rfl, hg⟩; exact ⟨_, rfl, hK _ hg⟩))))
                  | apply calm_n rfl rfl rfl rfl
                intro K hK
                go_simp
                apply hK
                clear hK K)
              refine calm_nil ?_
              intro w1 hw1 hF
              apply hQ0
              clear hQ0
              simp only [List.drop_succ_cons, List.drop_zero]
              clear hF
              by_cases hneg : o < 0
              · have dneg : decide (o < 0) = true := decide_eq_true hneg
                obtain ⟨bz, fz⟩ := (BZ2.out.grow hw1).rules
                obtain ⟨bv, fv⟩ := (BV2.out.grow hw1).rules
                have q1 := hw1.cell U2.out.1
                have q2 := hw1.cell U2.out.2.1
                have q3 := hw1.cell U2.out.2.2
                have FF := Lib.hid (Fin.out _ hw1 _ rfl)
                go_wp2
                go_roundw
                case rel => exact ⟨j + 1, by omega, by go_num, by rw [HS1.out], ⟨u, FF.out.1, .inr ⟨y, HM.out.1, HM.out.2.symm⟩⟩, FF.out.2⟩
                case measure => simp [intOf]; omega
              · have dneg : decide (o < 0) = false := decide_eq_false hneg
                have BV3 := Lib.hid (BV2.out.grow hw1)
                have G3 := Lib.hid (hg.trans (GG.trans hw1))
                go_wp2
                go_roundw
                case rel => exact ⟨j + 1, by omega, by go_num, by rw [HS1.out], ⟨v, BV3.out, .inr (HV9.out.resolve_left hj0)⟩, G3.out⟩
                case measure => simp [intOf]; omega
            case hp' => trivial
        case hp' => trivial
      · obtain rfl : j = l3.length := by omega
        rename World => wC
        rw [List.take_length, show l3.map zOf = t from M4.out]
        obtain ⟨n, hn⟩ : ∃ q, sumW t = q := ⟨_, rfl⟩
        have hB := HB.out
        have hC := HC.out
        rw [hn] at hB hC ⊢
        have HB2 := Lib.hid hB
        have HC2 := Lib.hid hC
        have hlast : l3 = [] ∨ ∃ y ∈ l3, v = y.row.getD kn nullV' := by
          rcases HV9.out with h | h
          · exact .inl (List.length_eq_zero_iff.1 h)
          · exact .inr h
        have Last := Lib.hid hlast
        clear hB hC hlast HB HC hsum hn HV9
        go_wp2
        go_loopw [12, 78] (fun al i wr => ∃ j : Nat, j ≤ xs.length ∧ i = .int .i64 j ∧ al = .int .i64 (allP ((xs.take j).map zOf)) ∧ 0 ≤ allP ((xs.take j).map zOf) ∧ allP ((xs.take j).map zOf) ≤ 1000000 * j ∧ Grow wC wr) (fun _ i _ => xs.length - (intOf i).toNat)
        case atStart => exact ⟨0, Nat.zero_le _, rfl, rfl, Int.le_refl _, Int.le_refl _, Grow.refl _⟩
        case round =>
          rename World => wr
          obtain ⟨j2, hj2, rfl, rfl, ha0, ha1, hg2⟩ := hrel
          by_cases hlt2 : j2 < xs.length
          · obtain ⟨r, hrk⟩ : ∃ r, xs[j2]? = some r := ⟨_, List.getElem?_eq_getElem hlt2⟩
            have gA := G4.trans (hg.trans hg2)
            obtain ⟨gx, ox, eA0, c1, c2, hrv⟩ := (Hs.out.z.grow gA) j2 r hrk
            simp only at eA0
            subst eA0
            have hm := List.mem_of_getElem? hrk
            have hmz : zOf r ∈ xs.map zOf := List.mem_map_of_mem hm
            have rl : r.row.length = cols.length := ((fits_iff _ _).1 (Hfit.out (zOf r) hmz)).1
            have rrow := Okz.out (zOf r) hmz
            have rre : rowE r.row = 0 := (rowE_zero _).2 rrow
            have rbd := Bdz.out (zOf r) hmz
            have rb1 : r.w ≤ 1000000 := rbd.2
            have rl8 : r.row.length ≤ 8 := rrow.1
            obtain ⟨u, hu⟩ : ∃ u, r.row[kn]? = some u := ⟨_, List.getElem?_eq_getElem (by omega)⟩
            have hgd : r.row.getD kn nullV' = u := by rw [List.getD_eq_getElem?_getD, hu]; rfl
            have hs1 : allP ((xs.take (j2 + 1)).map zOf) = allP ((xs.take j2).map zOf) + posF r.w := by
              rw [take_sn zOf hrk, allP_app]
              simp [allP, zOf]
            have hcr := HC2.out (zOf r) hmz
            have e1 : (zOf r).2 = r.w := rfl
            have e2 : (zOf r).1 = r.row := rfl
            rw [e1, e2, hgd] at hcr
            obtain ⟨sa, hsa⟩ : ∃ q, allP ((xs.take j2).map zOf) = q := ⟨_, rfl⟩
            rw [hsa] at hs1 ha0 ha1 ⊢
            obtain ⟨Wt, hWt⟩ : ∃ q, wtZ t r.row = q := ⟨_, rfl⟩
            have cw := fun W (h : Grow wr W) => zweight_any l3 F c3 r.row r.A r.cap W (I4.out.z.grow (hg.trans (hg2.trans h))) (by rw [show l3.map zOf = t from M4.out]; exact Hwt.out) (hrv.grow h) rre
            rw [show l3.map zOf = t from M4.out, hWt] at cw
            rw [hWt] at hcr
            obtain ⟨gu, ou, eA, u1, u2, u3⟩ := hrv kn u hu
            have co := fun W => order_any u v W
            obtain ⟨o, ho⟩ : ∃ q, ordV u v = q := ⟨_, rfl⟩
            rw [ho] at co
            unfold V.val at co
            have hno : 0 < r.w → Wt < r.w → n = k ∧ (l3 = [] ∨ ¬ o < 0) := fun h1 h2 => by
              obtain ⟨q1, q2⟩ := hcr h1 h2
              refine ⟨q1, ?_⟩
              rcases Last.out with h | ⟨y, hy, ev⟩
              · exact .inl h
              · right
                have h9 := q2 (zOf y) (by rw [← (show l3.map zOf = t from M4.out)]; exact List.mem_map_of_mem hy)
                have e9 : (zOf y).1 = y.row := rfl
                rw [e9, ← ev, ho] at h9
                omega
            have No := Lib.hid hno
            have HS1 := Lib.hid hs1
            have U := Lib.hid (And.intro u1 (And.intro u2 u3))
            have EA := Lib.hid eA
            have pk : (kn : Int) < (r.row.length : Int) := by omega
            have pk2 : kn < r.row.length := by omega
            have hb1 : sa + r.w ≤ 1000000 * ((j2 : Int) + 1) := by omega
            have hj9 : (j2 : Int) ≤ 400 := by omega
            have BV2 := Lib.hid (BV9.out.grow hg2)
            clear hrk hm hmz rl rrow rre rbd hu hgd hcr hsa hWt hrv eA u1 u2 u3 ho hno hs1 e1 e2
            go_upto_region 20 with fail
            refine wp_forget (fun Z1 => Blk Z1 wr.heap.size 47 #[.slice r.A r.row.length r.cap, .int .i64 r.w] ∧ Grow wr Z1) ⟨Blk.new _ _ _, (Grow.refl wr).al _⟩ ?_
            rintro Z1 ⟨Bz, Gz⟩
            have BZ := Lib.hid Bz
            have BV1 := Lib.hid (BV2.out.grow Gz)
            obtain ⟨bz, fz⟩ := Bz.rules
            clear Bz c1 c2
            generalize wr.heap.size = gz at *
            by_cases hw0 : r.w ≤ 0
            · have dw : decide (r.w ≤ 0) = true := decide_eq_true hw0
              have ep : posF r.w = 0 := by unfold posF; split <;> omega
              have EP := Lib.hid ep
              clear ep
              go_wp2
              go_roundw
              case rel => exact ⟨j2 + 1, by omega, by go_num, by rw [HS1.out, EP.out]; simp, by rw [HS1.out, EP.out]; omega, by rw [HS1.out, EP.out]; omega, hg2.trans Gz⟩
              case measure => simp [intOf]; omega
            · have dw : decide (r.w ≤ 0) = false := decide_eq_false hw0
              have ep : posF r.w = r.w := by unfold posF; split <;> omega
              have EP := Lib.hid ep
              have hwp : IntKind.i64.wrap (sa + r.w) = sa + r.w := by rw [IntKind.wrap_i64]; omega
              clear ep
              go_upto_region 22 with fail
              clear bz fz
              by_cases h95 : Wt < r.w
              · have d95 : decide (Wt < r.w) = true := decide_eq_true h95
                obtain ⟨hnk, hor⟩ := No.out (by omega) h95
                have d113 : decide (n < k) = false := decide_eq_false (by omega)
                by_cases hl0 : l3.length = 0
                · have d99 : decide (0 < l3.length) = false := decide_eq_false (by omega)
                  clear hl0 hor
                  apply wp_region_calm 27 (by kernel_rfl) (by kernel_rfl)
                  case h' =>
                    intro Q0 hQ0
                    simp only [List.take_succ_cons, List.take_zero]
                    repeat (
                      first
                        | (apply calm_p rfl; case h1 => (intro w1 hw1 hF K hK; obtain ⟨bz, fz⟩ := (BZ.out.grow hw1).rules; go_simp; first | exact hK _ (Grow.refl _) | (go_at_call 19; ((with_reducible refine (cw _ (Gz.trans hw1)).mono ?_); rintro e w' ⟨rfl, hg⟩; exact ⟨_, rfl, hK _ hg⟩))))
                        | (apply calm_y rfl rfl rfl; case h1 => (intro w1 hw1 hF K hK; obtain ⟨bz, fz⟩ := (BZ.out.grow hw1).rules; go_simp; first | exact hK _ (Grow.refl _) | (go_at_call 19; ((with_reducible refine (cw _ (Gz.trans hw1)).mono ?_); rintro e w' ⟨rfl, hg⟩; exact ⟨_, rfl, hK _ hg⟩))))
                        | apply calm_n rfl rfl rfl rfl
                        | apply calm_nu rfl rfl rfl
                      intro K hK
                      go_simp
                      apply hK
                      clear hK K)
                    refine calm_nil ?_
                    intro w1 hw1 hF
                    apply hQ0
                    clear hQ0
                    simp only [List.drop_succ_cons, List.drop_zero]
                    clear hF
                    have GE := Lib.hid (hg2.trans (Gz.trans hw1))
                    go_wp2
                    go_roundw
                    case rel =>
                      first
                        | exact ⟨j2 + 1, by omega, by go_num, by rw [HS1.out, EP.out], by rw [HS1.out, EP.out]; omega, by rw [HS1.out, EP.out]; omega, GE.out⟩
                        | exact ⟨_, _, _, _, ⟨j2 + 1, by omega, (by go_num : Value.int .i64 ((j2 : Int) + 1) = .int .i64 ((j2 + 1 : Nat) : Int)), by rw [← List.map_take, HS1.out, EP.out], by rw [← List.map_take, HS1.out, EP.out]; omega, by rw [← List.map_take, HS1.out, EP.out]; omega, GE.out⟩, rfl, rfl, rfl, rfl⟩
                    case measure => simp [intOf]; omega
                  case hp' => trivial
                · have d99 : decide (0 < l3.length) = true := decide_eq_true (by omega)
                  have ho : ¬ o < 0 := hor.resolve_left (fun e => hl0 (by rw [e]; rfl))
                  have d108 : decide (o < 0) = false := decide_eq_false ho
                  clear hor ho
                  apply wp_region_calm 27 (by kernel_rfl) (by kernel_rfl)
                  case h' =>
                    intro Q0 hQ0
                    simp only [List.take_succ_cons, List.take_zero]
                    repeat (
                      first
                        | (apply calm_p rfl; case h1 => (intro w1 hw1 hF K hK; obtain ⟨bz, fz⟩ := (BZ.out.grow hw1).rules; go_simp; first | exact hK _ (Grow.refl _) | (go_at_call 19; ((with_reducible refine (cw _ (Gz.trans hw1)).mono ?_); rintro e w' ⟨rfl, hg⟩; exact ⟨_, rfl, hK _ hg⟩))))
                        | (apply calm_y rfl rfl rfl; case h1 => (intro w1 hw1 hF K hK; obtain ⟨bz, fz⟩ := (BZ.out.grow hw1).rules; go_simp; first | exact hK _ (Grow.refl _) | (go_at_call 19; ((with_reducible refine (cw _ (Gz.trans hw1)).mono ?_); rintro e w' ⟨rfl, hg⟩; exact ⟨_, rfl, hK _ hg⟩))))
                        | apply calm_n rfl rfl rfl rfl
                        | apply calm_nu rfl rfl rfl
                      intro K hK
                      go_simp
                      apply hK
                      clear hK K)
                    repeat (
                      first
                        | (apply calm_p rfl; case h1 => (intro w1 hw1 hF K hK; have eA := EA.out; obtain ⟨bz, fz⟩ := (BZ.out.grow hw1).rules; obtain ⟨bv, fv⟩ := (BV1.out.grow hw1).rules; have q1 := (Gz.trans hw1).cell U.out.1; have q2 := (Gz.trans hw1).cell U.out.2.1; have q3 := (Gz.trans hw1).cell U.out.2.2; go_simp; first | exact hK _ (Grow.refl _) | (go_at_call 20; ((with_reducible refine (co _).mono ?_); rintro e w' ⟨rfl, hg⟩; exact ⟨_, rfl, hK _ hg⟩))))
                        | (apply calm_y rfl rfl rfl; case h1 => (intro w1 hw1 hF K hK; have eA := EA.out; obtain ⟨bz, fz⟩ := (BZ.out.grow hw1).rules; obtain ⟨bv, fv⟩ := (BV1.out.grow hw1).rules; have q1 := (Gz.trans hw1).cell U.out.1; have q2 := (Gz.trans hw1).cell U.out.2.1; have q3 := (Gz.trans hw1).cell U.out.2.2; go_simp; first | exact hK _ (Grow.refl _) | (go_at_call 20; ((with_reducible refine (co _).mono ?_); rintro e w' ⟨rfl, hg⟩; exact ⟨_, rfl, hK _ hg⟩))))
                        | apply calm_n rfl rfl rfl rfl
                        | apply calm_nu rfl rfl rfl
                      intro K hK
                      go_simp
                      apply hK
                      clear hK K)
                    refine calm_nil ?_
                    intro w1 hw1 hF
                    apply hQ0
                    clear hQ0
                    simp only [List.drop_succ_cons, List.drop_zero]
                    clear hF
                    have GE := Lib.hid (hg2.trans (Gz.trans hw1))
                    go_wp2
                    go_roundw
                    case rel =>
                      first
                        | exact ⟨j2 + 1, by omega, by go_num, by rw [HS1.out, EP.out], by rw [HS1.out, EP.out]; omega, by rw [HS1.out, EP.out]; omega, GE.out⟩
                        | exact ⟨_, _, _, _, ⟨j2 + 1, by omega, (by go_num : Value.int .i64 ((j2 : Int) + 1) = .int .i64 ((j2 + 1 : Nat) : Int)), by rw [← List.map_take, HS1.out, EP.out], by rw [← List.map_take, HS1.out, EP.out]; omega, by rw [← List.map_take, HS1.out, EP.out]; omega, GE.out⟩, rfl, rfl, rfl, rfl⟩
                    case measure => simp [intOf]; omega
                  case hp' => trivial
              · have d95 : decide (Wt < r.w) = false := decide_eq_false h95
                apply wp_region_calm 27 (by kernel_rfl) (by kernel_rfl)
                case h' =>
                  intro Q0 hQ0
                  simp only [List.take_succ_cons, List.take_zero]
                  repeat (
                    first
                      | (apply calm_p rfl; case h1 => (intro w1 hw1 hF K hK; obtain ⟨bz, fz⟩ := (BZ.out.grow hw1).rules; go_simp; first | exact hK _ (Grow.refl _) | (go_at_call 19; ((with_reducible refine (cw _ (Gz.trans hw1)).mono ?_); rintro e w' ⟨rfl, hg⟩; exact ⟨_, rfl, hK _ hg⟩))))
                      | (apply calm_y rfl rfl rfl; case h1 => (intro w1 hw1 hF K hK; obtain ⟨bz, fz⟩ := (BZ.out.grow hw1).rules; go_simp; first | exact hK _ (Grow.refl _) | (go_at_call 19; ((with_reducible refine (cw _ (Gz.trans hw1)).mono ?_); rintro e w' ⟨rfl, hg⟩; exact ⟨_, rfl, hK _ hg⟩))))
                      | apply calm_n rfl rfl rfl rfl
                      | apply calm_nu rfl rfl rfl
                    intro K hK
                    go_simp
                    apply hK
                    clear hK K)
                  refine calm_nil ?_
                  intro w1 hw1 hF
                  apply hQ0
                  clear hQ0
                  simp only [List.drop_succ_cons, List.drop_zero]
                  clear hF
                  have GE := Lib.hid (hg2.trans (Gz.trans hw1))
                  go_wp2
                  go_roundw
                  case rel =>
                    first
                      | exact ⟨j2 + 1, by omega, by go_num, by rw [HS1.out, EP.out], by rw [HS1.out, EP.out]; omega, by rw [HS1.out, EP.out]; omega, GE.out⟩
                      | exact ⟨_, _, _, _, ⟨j2 + 1, by omega, (by go_num : Value.int .i64 ((j2 : Int) + 1) = .int .i64 ((j2 + 1 : Nat) : Int)), by rw [← List.map_take, HS1.out, EP.out], by rw [← List.map_take, HS1.out, EP.out]; omega, by rw [← List.map_take, HS1.out, EP.out]; omega, GE.out⟩, rfl, rfl, rfl, rfl⟩
                  case measure => simp [intOf]; omega
                case hp' => trivial
          · obtain rfl : j2 = xs.length := by omega
            have gE := G4.trans (hg.trans hg2)
            rw [List.take_length] at *
            obtain ⟨al, hal⟩ : ∃ q, allP (xs.map zOf) = q := ⟨_, rfl⟩
            have hB := HB2.out
            rw [hal] at hB ⊢
            by_cases hnk : n = k
            · have d1 : (n == k) = true := by simpa using hnk
              clear hB hal hnk
              go_wp2
              go_ret
              exact ret_bool (by simp) gE
            · have d1 : (n == k) = false := by simpa using hnk
              have hle : al ≤ k := by
                by_cases h9 : al ≤ k
                · exact h9
                · rw [if_neg h9] at hB; exact absurd hB hnk
              rw [if_pos hle] at hB
              have d2 : (n == al) = true := by simpa using hB
              have d3 : decide (n < k) = true := decide_eq_true (by omega)
              clear hB hal hnk hle
              go_wp2
              go_ret
              exact ret_bool (by simp) gE
  · have et := top_bad HT.out he
    have e3 : l3 = [] := by
      have := M4.out
      rw [et] at this
      exact List.map_eq_nil_iff.1 this
    subst e3
    have d0 : (e != 0) = true := by simpa using he
    go_wp2
    go_ret
    exact ret_bool (by simp) G4
end Go.Proofs.Ytpdimihojeonhaa
