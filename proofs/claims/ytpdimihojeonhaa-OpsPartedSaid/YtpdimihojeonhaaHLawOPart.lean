/-
  A text of the proof of the law OpsParted; no condition beside the row's own.
-/
import Derived.Test.YtpdimihojeonhaaGU
import Derived.Test.YtpdimihojeonhaaGV
/-
  The law OpsParted, walked.
-/
namespace Go.Proofs.Ytpdimihojeonhaa
open Go.RowKit Go.Calm
set_option linter.unusedSimpArgs false
set_option linter.unusedVariables false

theorem in_nil1 (w : World) : In w ⟨none, [], 0⟩ := In.sml (zin_nil w none) SlOk.nil sml_nil
theorem own_start (w : World) : (w.alloc (.cells #[] 24)).ownsRow w.heap.size 24 3 (.slice (some ⟨w.heap.size, 0, none⟩) 0 0) 0 (flatW []) :=
  ⟨rfl, .inr ⟨w.heap.size, 0, #[], rfl, Nat.le_refl _, heap_alloc_new w _, Nat.le_refl _, by unfold maxLen; omega, rfl, rfl⟩⟩
set_option maxRecDepth 100000 in
set_option maxHeartbeats 8000000 in
theorem law_oparted (l r : L2 Int) (x : E) (a b : S) (w : World) (hll : l.xs.length ≤ 140737488355328) (hlr : r.xs.length ≤ 140737488355328) (hl : ISl w l.A l.xs) (hr : ISl w r.A r.xs) (hx : EX w x) (ha : In w a) (hb : In w b) :
    Calls Try.prog 6 #[.slice l.A l.xs.length l.cap, .slice r.A r.xs.length r.cap, x.val, .slice a.A a.xs.length a.cap, .slice b.A b.xs.length b.cap] w fun en w' => en = .returned (.bool true) ∧ Grow w w' := by
  have Ha := Lib.hid ha
  have Hb := Lib.hid hb
  have cs0 := fun W (h : Grow w W) => (semi_any l r x a b W hll hlr (hl.grow h) (hr.grow h) (hx.grow h) (Ha.out.grow h) (Hb.out.grow h)).mono (fun e w' h => Gives.i h (part_sml true l.xs r.xs x a.z b.z))
  have ca0 := fun W (h : Grow w W) => (anti_any l r x a b W hll hlr (hl.grow h) (hr.grow h) (hx.grow h) (Ha.out.grow h) (Hb.out.grow h)).mono (fun e w' h => Gives.i h (part_sml false l.xs r.xs x a.z b.z))
  have cj0 := fun W (h : Grow w W) => (ojoin_any l r x a b W hll hlr (hl.grow h) (hr.grow h) (hx.grow h) (Ha.out.grow h) (Hb.out.grow h)).mono (fun e w' h => Gives.i h (join_sml l.xs r.xs x a.z b.z))
  have cl0 := fun W (h : Grow w W) => (left_any l r x a b W hll hlr (hl.grow h) (hr.grow h) (hx.grow h) (Ha.out.grow h) (Hb.out.grow h)).mono (fun e w' h => Gives.i h (left_sml l.xs r.xs x a.z b.z))
  obtain ⟨s, es, hs⟩ : ∃ s e, partZ true l.xs r.xs x a.z b.z = (s, e) := ⟨_, _, rfl⟩
  obtain ⟨t, et, ht⟩ : ∃ s e, partZ false l.xs r.xs x a.z b.z = (s, e) := ⟨_, _, rfl⟩
  obtain ⟨jz, ej, hj⟩ : ∃ s e, joinZ l.xs r.xs x a.z b.z = (s, e) := ⟨_, _, rfl⟩
  obtain ⟨oz, eo, ho⟩ : ∃ s e, leftZ l.xs r.xs x a.z b.z = (s, e) := ⟨_, _, rfl⟩
  rw [hs] at cs0
  rw [ht] at ca0
  rw [hj] at cj0
  rw [ho] at cl0
  unfold E.val at cs0 ca0 cj0 cl0
  have cs := Lib.hid cs0
  have ca := Lib.hid ca0
  have cj := Lib.hid cj0
  have cl := Lib.hid cl0
  have HS := Lib.hid hs
  have HT := Lib.hid ht
  have HJ := Lib.hid hj
  have HO := Lib.hid ho
  clear cs0 ca0 cj0 cl0 hs ht hj ho hl hr hx ha hb
  unfold E.val
  go_enter Try.func6, Try.ntmps6
  go_upto_region 1 with fail
  refine wp_forget (fun X => Blk X w.heap.size 27 (exCells x) ∧ Grow w X) ⟨Blk.new _ _ _, (Grow.refl _).al _⟩ ?_
  generalize w.heap.size = g1
  rintro X ⟨B1, G⟩
  have BB := Lib.hid B1
  clear B1
  go_upto_region 3 with (go_at_call 8; ((with_reducible refine (alive4 _).mono ?_); rintro e w2 ⟨rfl, hg2⟩))
  obtain ⟨bx, fx⟩ := (BB.out.grow hg2).rules
  go_upto_region 4 with (go_at_call 21; ((with_reducible refine (cs.out _ (G.trans hg2)).mono ?_); rintro e w3 ⟨F3, l3, c3, rfl, hi3, hm3, hg3⟩; have I3 := Lib.hid hi3; have M3 := Lib.hid hm3; clear hi3 hm3))
  clear bx fx
  obtain ⟨bx, fx⟩ := (BB.out.grow (hg2.trans hg3)).rules
  go_upto_region 5 with (go_at_call 22; ((with_reducible refine (ca.out _ (G.trans (hg2.trans hg3))).mono ?_); rintro e w4 ⟨F4, l4, c4, rfl, hi4, hm4, hg4⟩; have I4 := Lib.hid hi4; have M4 := Lib.hid hm4; clear hi4 hm4))
  clear bx fx cs ca
  have G4 := G.trans (hg2.trans (hg3.trans hg4))
  have B4 := Lib.hid (BB.out.grow (hg2.trans (hg3.trans hg4)))
  have I3' := Lib.hid (I3.out.grow hg4)
  clear I3 BB
  by_cases h2 : twoE l.xs r.xs x a.z b.z = 0
  · have ees : es = 0 := by have h := HS.out; rw [(part_ok h2).1] at h; exact (Prod.mk.inj h).2.symm
    have eet : et = 0 := by have h := HT.out; rw [(part_ok h2).1] at h; exact (Prod.mk.inj h).2.symm
    subst ees eet
    have H2 := Lib.hid h2
    have hall := part_all h2 HS.out HT.out
    have cp1 := fun W (h : Grow w4 W) => plus_b ⟨F3, l3, c3⟩ ⟨F4, l4, c4⟩ W (I3'.out.grow h) (I4.out.grow h) (setZ a.z) 0 true (by rw [show S.z ⟨F3, l3, c3⟩ = s from M3.out, show S.z ⟨F4, l4, c4⟩ = t from M4.out]; exact hall.1) rfl
    have cp2 := fun W (h : Grow w4 W) => plus_b a ⟨none, [], 0⟩ W (Ha.out.grow (G4.trans h)) (in_nil1 W) (setZ a.z) 0 true hall.2 rfl
    simp only [List.length_nil] at cp2
    clear hall h2
    go_upto_region 9 with (first
      | (go_at_call 9; ((with_reducible refine (cp1 _ (Grow.refl _)).mono ?_); rintro e w5 ⟨F5, l5, c5, rfl, hi5, hm5, hg5⟩; have I5 := Lib.hid hi5; have M5 := Lib.hid hm5; clear hi5 hm5))
      | (go_at_call 9; ((with_reducible refine (cp2 _ hg5).mono ?_); rintro e w6 ⟨F6, l6, c6, rfl, hi6, hm6, hg6⟩; have I6 := Lib.hid hi6; have M6 := Lib.hid hm6; clear hi6 hm6)))
    clear cp1 cp2
    have sm := fun W (h : Grow w6 W) => same_in ⟨F5, l5, c5⟩ ⟨F6, l6, c6⟩ W (I5.out.grow (hg6.trans h)) (I6.out.grow h) (M5.out.trans M6.out.symm)
    go_upto_region 11 with (go_at_call 12; ((with_reducible refine (sm _ (Grow.refl _)).mono ?_); rintro e1 w7 ⟨rfl, hg7⟩))
    clear sm
    have G7 := G4.trans (hg5.trans (hg6.trans hg7))
    have B7 := Lib.hid (B4.out.grow (hg5.trans (hg6.trans hg7)))
    have I7 := Lib.hid (I4.out.grow (hg5.trans (hg6.trans hg7)))
    obtain ⟨bx, fx⟩ := B7.out.rules
    go_upto_region 12 with (go_at_call 11; ((with_reducible refine (cj.out _ G7).mono ?_); rintro e w8 ⟨F8, l8, c8, rfl, hi8, hm8, hg8⟩; have I8 := Lib.hid hi8; have M8 := Lib.hid hm8; clear hi8 hm8))
    clear bx fx
    obtain ⟨bx, fx⟩ := (B7.out.grow hg8).rules
    go_upto_region 13 with (go_at_call 23; ((with_reducible refine (cl.out _ (G7.trans hg8)).mono ?_); rintro e w9 ⟨F9, l9, c9, rfl, hi9, hm9, hg9⟩; have I9 := Lib.hid hi9; have M9 := Lib.hid hm9; clear hi9 hm9))
    clear bx fx cj cl
    have G9 := G7.trans (hg8.trans hg9)
    by_cases h1 : ej = 0
    · by_cases h3 : eo = 0
      · subst h1 h3
        have I9t := Lib.hid (I7.out.grow (hg8.trans hg9))
        have lr8 : r.xs.length ≤ 8 := by have := (twoE_zero H2.out).1; omega
        have st4 : l4.length ≤ 400 ∧ ∀ y ∈ l4, y.row.length ≤ 8 := by
          have h := part_sml false l.xs r.xs x a.z b.z
          rw [HT.out] at h
          have e := M4.out
          refine ⟨?_, fun y hy => ?_⟩
          · have h1 := h.1; simp only at h1; rw [← e] at h1; simpa using h1
          · have := (h.2 (zOf y) (by simp only; rw [← e]; exact List.mem_map_of_mem hy)).1
            exact this
        obtain ⟨l400, ly8⟩ := st4
        have Ly8 := Lib.hid ly8
        clear ly8 I7
        go_upto_region 17 with fail
        go_wp2
        go_loopw [21, 105] (fun t i wr => ∃ (k : Nat) (out : List I), k ≤ l4.length ∧ i = .int .i64 k ∧ wr.ownsRow w9.heap.size 47 2 t out.length (flatI out) ∧ (∀ u ∈ out, OwnR wr u) ∧ out.map zOf = ((l4.take k).map zOf).map (padZ r.xs.length) ∧ Grow w9 wr) (fun _ i _ => l4.length - (intOf i).toNat)
        case atStart => exact ⟨0, [], Nat.zero_le _, rfl, World.ownsRow_nil _ _ _ _, fun u hu => by simp at hu, rfl, Grow.refl _⟩
        case round =>
          rename World => wr
          obtain ⟨k, out, hk, rfl, own, hor, hm, hg⟩ := hrel
          have lo : out.length ≤ 400 := by have h := congrArg List.length hm; simp at h; omega
          have Own := Lib.hid own
          have Or := Lib.hid hor
          have M := Lib.hid hm
          clear own hor hm
          obtain ⟨Bo, capo, rfl⟩ := own_slice Own.out
          by_cases hlt : k < l4.length
          · obtain ⟨y, hyk⟩ : ∃ y, l4[k]? = some y := ⟨_, List.getElem?_eq_getElem hlt⟩
            obtain ⟨gx2, ox2, eF, c1', c2', hyv⟩ := (I9t.out.z.grow hg) k y hyk
            simp only at eF
            subst eF
            have ly := Ly8.out y (List.mem_of_getElem? hyk)
            have Hyk := Lib.hid hyk
            have HV := Lib.hid hyv
            clear hyk hyv
            go_upto_region 19 with fail
            refine wp_forget (fun Z => Blk Z wr.heap.size 47 #[.slice y.A y.row.length y.cap, .int .i64 y.w] ∧ Grow wr Z) ⟨Blk.new _ _ _, (Grow.refl wr).al _⟩ ?_
            rintro Z ⟨Bz, Gz⟩
            have BZ := Lib.hid Bz
            obtain ⟨bz, fz⟩ := (Bz.grow ((Grow.refl Z).al (.cells #[] 24))).rules
            have hsrc := Lib.hid (srcW_of (c := y.cap) ((HV.out.grow Gz).grow ((Grow.refl Z).al (.cells #[] 24))))
            have ownS := Lib.hid (own_start Z)
            clear c1' c2'
            generalize wr.heap.size = gz at *
            go_upto_region 20 with (at_builtin; refine wpList_append_srcW rfl _ _ rfl Z.heap.size _ _ _ rfl ownS.out _ y.row rfl hsrc.out (by omega) (by simp) ?_; intro v5 w5 own5 gr5; obtain ⟨B5, cap5, rfl⟩ := own_slice own5)
            have G5 : Grow Z w5 := Grow.own ((Grow.refl Z).al _) gr5 (fun i hi => by
              rcases Nat.lt_or_ge i Z.heap.size with h | h
              · exact absurd hi.symm (own_ge ownS.out h)
              · exact h)
            have Own5 := Lib.hid own5
            clear own5 gr5 bz fz
            go_wp2
            go_loopw [24, 115] (fun t i W => ∃ j : Nat, j ≤ r.xs.length ∧ i = .int .i64 j ∧ W.ownsRow Z.heap.size 24 3 t (y.row.length + j) (flatW (y.row ++ List.replicate j nullV')) ∧ Grow Z W) (fun _ i _ => r.xs.length - (intOf i).toNat)
            case atStart => exact ⟨0, Nat.zero_le _, rfl, by simpa using Own5.out, G5⟩
            case round =>
              rename World => W1
              obtain ⟨j, hj, rfl, ownr, hgr⟩ := hrel
              have OwnR1 := Lib.hid ownr
              clear ownr
              by_cases hlt2 : j < r.xs.length
              · obtain ⟨Bj, capj, rfl⟩ := own_slice OwnR1.out
                have sz := hgr.size
                go_wp2_with (first
                  | (go_at_call 24; ((with_reducible refine (rnull_any _).mono ?_); rintro e w6 ⟨rfl, hg6⟩; have Own6 := Lib.hid (own_grow OwnR1.out hg6); have sz6 := hg6.size))
                  | (at_builtin; refine wpList_append_srcW rfl _ _ rfl Z.heap.size _ _ _ rfl (Own6.out.alloc _) _ [nullV'] rfl (srcW_one (Blk.new _ _ _)) (by simp; omega) (by simp; omega) ?_; intro v7 w7 own7 gr7))
                have G7' : Grow Z w7 := grow_own (((hgr.trans hg6)).al _) gr7 (Own6.out.alloc _)
                have Own7 := Lib.hid own7
                clear own7 gr7
                go_roundw
                case rel => exact ⟨j + 1, by omega, by go_num, by rw [List.replicate_succ', ← List.append_assoc]; simpa [Nat.add_assoc] using Own7.out, G7'⟩
                case measure => simp [intOf]; omega
              · obtain rfl : j = r.xs.length := by omega
                obtain ⟨Bj, capj, rfl⟩ := own_slice OwnR1.out
                obtain ⟨bz, fz⟩ := (BZ.out.grow hgr).rules
                have G6 := Gz.trans hgr
                have Own6 := Lib.hid (own_grow Own.out G6)
                have sz6 := (hg.trans G6).size
                obtain ⟨rw2, hrw⟩ : ∃ q, y.row ++ List.replicate r.xs.length nullV' = q := ⟨_, rfl⟩
                have lrw : y.row.length + r.xs.length = rw2.length := by rw [← hrw]; simp
                have OwnR2 := OwnR1.out
                rw [hrw, lrw] at OwnR2
                have OwnR3 := Lib.hid OwnR2
                have Hrw := Lib.hid hrw
                clear OwnR2 OwnR1 hrw
                rw [lrw]
                go_wp2_with (at_builtin; refine wpList_append_at rfl _ _ rfl w9.heap.size _ _ out rfl (Own6.out.alloc _) _ (I.mk Bj rw2 capj y.w) rfl (Blk.new _ _ _) (by omega) (by simp; omega) ?_; intro v7 w7 own7 gr7 at7)
                have G7' : Grow w9 w7 := grow_own ((hg.trans G6).al _) gr7 (Own6.out.alloc _)
                have hnew : OwnR W1 (I.mk Bj rw2 capj y.w) := ⟨_, OwnR3.out⟩
                have Or7 := Lib.hid (fun u (hu : u ∈ out ++ [I.mk Bj rw2 capj y.w]) => by
                  have h1 : OwnR W1 u := by
                    rcases List.mem_append.1 hu with hu | hu
                    · exact (Or.out u hu).grow G6
                    · simp at hu; subst hu; exact hnew
                  exact (h1.grow ((Grow.refl _).al (.cells #[.slice Bj rw2.length capj, .int .i64 y.w] 47))).kept (Own6.out.alloc _) gr7)
                have Own7 := Lib.hid own7
                clear own7 gr7 at7 hnew
                go_roundw
                case rel =>
                  refine ⟨k + 1, out ++ [I.mk Bj rw2 capj y.w], by omega, by go_num, by simpa using Own7.out, Or7.out, ?_, G7'⟩
                  rw [List.map_append, M.out, take_sn zOf Hyk.out, List.map_append, ← Hrw.out]
                  rfl
                case measure => simp [intOf]; omega
          · obtain rfl : k = l4.length := by omega
            obtain ⟨nz, hof, cn, wn, sn, wtn⟩ := nulls_ok H2.out HT.out
            have mz : out.map zOf = t.map (padZ r.xs.length) := by rw [M.out, List.take_length]; rw [show l4.map zOf = t from M4.out]
            have zz := own_zs Own.out Or.out
            have co := zof_any out Bo capo wr (by omega) zz.1 (fun u hu => by
              have h := congrArg List.length mz
              have : zOf u ∈ t.map (padZ r.xs.length) := by rw [← mz]; exact List.mem_map_of_mem hu
              obtain ⟨q, hq, e⟩ := List.mem_map.1 this
              have hq8 := (((part_sml false l.xs r.xs x a.z b.z).2) q (by rw [HT.out]; exact hq)).1
              have e := (congrArg Prod.fst e).symm
              have : u.row = q.1 ++ List.replicate r.xs.length nullV' := e
              rw [this]; simp; omega)
            rw [mz, hof] at co
            have co := co.mono (fun e w' h => Gives.i h sn)
            have hbo := left_all (t := t) HJ.out HO.out wn wtn
            clear mz zz hof cn wn sn wtn
            go_upto_region 27 with (go_at_call 25; ((with_reducible refine co.mono ?_); rintro e w10 ⟨F10, l10, c10, rfl, hi10, hm10, hg10⟩; have I10 := Lib.hid hi10; have M10 := Lib.hid hm10; clear hi10 hm10))
            have GG := hg.trans hg10
            have cp := fun W (h : Grow w10 W) => plus_b ⟨F8, l8, c8⟩ ⟨F10, l10, c10⟩ W (I8.out.grow (hg9.trans (GG.trans h))) (I10.out.grow h) oz 0 true (by rw [show S.z ⟨F8, l8, c8⟩ = jz from M8.out, show S.z ⟨F10, l10, c10⟩ = nz from M10.out]; exact hbo) rfl
            go_upto_region 28 with (go_at_call 9; ((with_reducible refine (cp _ (Grow.refl _)).mono ?_); rintro e w11 ⟨F11, l11, c11, rfl, hi11, hm11, hg11⟩; have I11 := Lib.hid hi11; have M11 := Lib.hid hm11; clear hi11 hm11))
            have sm := fun W (h : Grow w11 W) => same_in ⟨F9, l9, c9⟩ ⟨F11, l11, c11⟩ W (I9.out.grow (GG.trans (hg11.trans h))) (I11.out.grow h) (M9.out.trans M11.out.symm)
            go_wp2_with (go_at_call 12; ((with_reducible refine (sm _ (Grow.refl _)).mono ?_); rintro e1 w12 ⟨rfl, hg12⟩))
            go_ret
            exact ret_bool (by simp) (G9.trans (GG.trans (hg11.trans hg12)))
      · have d3 : (eo != 0) = true := by simpa using h3
        subst h1
        go_wp2
        go_ret
        exact ret_bool (by simp) G9
    · have d1 : (ej != 0) = true := by simpa using h1
      go_wp2
      go_ret
      exact ret_bool (by simp) G9
  · have h := HS.out
    rw [part_bad h2] at h
    have ees := (Prod.mk.inj h).2
    have h := HT.out
    rw [part_bad h2] at h
    have eet := (Prod.mk.inj h).2
    obtain ⟨E2, hE2⟩ : ∃ e, twoE l.xs r.xs x a.z b.z = e := ⟨_, rfl⟩
    rw [hE2] at ees eet h2
    subst ees eet
    have d1 : (E2 != 0) = true := by simpa using h2
    have d2 : (E2 == E2) = true := by simp
    clear hE2 h
    go_wp2
    go_ret
    exact ret_bool (by simp) G4
end Go.Proofs.Ytpdimihojeonhaa
