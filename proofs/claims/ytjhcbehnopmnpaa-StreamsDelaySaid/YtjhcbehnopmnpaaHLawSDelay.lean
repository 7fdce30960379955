/-
  A text of the proof of the law StreamsDelay; no condition beside the row's own.
-/
import Derived.Test.YtjhcbehnopmnpaaHLawSUndo
/-
  The law StreamsDelay, walked.
-/
namespace Go.Proofs.Ytjhcbehnopmnpaa
open Go.RowKit Go.Calm
set_option linter.unusedSimpArgs false
set_option linter.unusedVariables false

/-- a set's slice; a set and no error -/
def PD (s : List Z) (v : Value) (W : World) : Prop := ∃ (B : Option Addr) (ys : List I) (cap : Nat), v = .slice B ys.length cap ∧ In W ⟨B, ys, cap⟩ ∧ S.z ⟨B, ys, cap⟩ = s
def PT (s : List Z) (v : Value) (W : World) : Prop := ∃ (B : Option Addr) (ys : List I) (cap : Nat), v = .tuple #[.slice B ys.length cap, .int .i64 0] ∧ In W ⟨B, ys, cap⟩ ∧ S.z ⟨B, ys, cap⟩ = s
theorem PD.grow {s : List Z} {v : Value} {w w' : World} (h : PD s v w) (hg : Grow w w') : PD s v w' := by
  obtain ⟨B, ys, cap, e, i, z⟩ := h
  exact ⟨B, ys, cap, e, i.grow hg, z⟩
theorem PT.grow {s : List Z} {v : Value} {w w' : World} (h : PT s v w) (hg : Grow w w') : PT s v w' := by
  obtain ⟨B, ys, cap, e, i, z⟩ := h
  exact ⟨B, ys, cap, e, i.grow hg, z⟩
theorem at_z {ss : List S} {k : Nat} {s : S} (h : ss[k]? = some s) : (ss.map S.z)[k]? = some s.z := by rw [List.getElem?_map, h]; rfl
theorem z_at {ss : List S} {k : Nat} {z : List Z} {L : List (List Z)} (hm : ss.map S.z = L) (h : L[k]? = some z) : ∃ s, ss[k]? = some s ∧ s.z = z := by
  rw [← hm, List.getElem?_map] at h
  cases hs : ss[k]? with
  | none => rw [hs] at h; simp at h
  | some s => rw [hs] at h; simp at h; exact ⟨s, rfl, h⟩
theorem same_in8 (s1 s2 : S) (W : World) (h1 : In W s1) (h2 : In W s2) (hR : s1.z = s2.z) :
    Calls Try.prog 70 #[.slice s1.A s1.xs.length s1.cap, .slice s2.A s2.xs.length s2.cap] W fun e w' => e = .returned (.bool true) ∧ Grow W w' :=
  same_any s1.xs s2.xs s1.A s2.A s1.cap s2.cap W h1.ok.1 h2.ok.1 h1.z h2.z h1.ok.2 h2.ok.2 true ((sameG_iff _ _).2 hR)
theorem pt_both {s t : S} {n : Int} {r : List Z} {W : World} (f : FuncId) (x y : Value) (h : Calls Try.prog f #[x, y] W fun en w' => Gives W w' en (bothZ s.z t.z n)) (hr : bothZ s.z t.z n = (r, 0)) : Calls Try.prog f #[x, y] W fun en w' => ∃ v, en = .returned v ∧ PT r v w' ∧ Grow W w' := by
  have sm := both_sml s.z t.z n
  rw [hr] at h sm
  refine h.mono ?_
  rintro e w' ⟨B, ys, cap, rfl, hz, hm, hk, hg⟩
  exact ⟨_, rfl, ⟨B, ys, cap, rfl, In.sml hz hk (by rw [hm]; exact sm), hm⟩, hg⟩

set_option maxRecDepth 100000 in
set_option maxHeartbeats 64000000 in
theorem law_sdelay (ss : List S) (A : Option Addr) (c : Nat) (w : World) (h : InS w A ss c) :
    Calls Try.prog 23 #[.slice A ss.length c] w fun en w' => en = .returned (.bool true) ∧ Grow w w' := by
  have H := Lib.hid h
  have hlen := h.len
  obtain ⟨L1, e1, a1, h1⟩ : ∃ L e a, alongZ Fi (ss.map S.z) = (L, e, a) := ⟨_, _, _, rfl⟩
  obtain ⟨L3, e3, a3, h3⟩ : ∃ L e a, alongZ Fz (ss.map S.z) = (L, e, a) := ⟨_, _, _, rfl⟩
  obtain ⟨L4, e4, a4, h4⟩ : ∃ L e a, alongZ Fd (ss.map S.z) = (L, e, a) := ⟨_, _, _, rfl⟩
  have c1 := fun W (hg : Grow w W) => sint_any ss A c W (H.out.grow hg)
  have c3 := fun W (hg : Grow w W) => sdel_any ss A c W (H.out.grow hg)
  have c4 := fun W (hg : Grow w W) => sdif_any ss A c W (H.out.grow hg)
  rw [h1] at c1
  rw [h3] at c3
  rw [h4] at c4
  have H1 := Lib.hid h1
  have H3 := Lib.hid h3
  have H4 := Lib.hid h4
  clear h h1 h3 h4
  go_enter Try.func23, Try.ntmps23
  go_upto_region 3 with (go_at_call 85; ((with_reducible refine (alive8 _).mono ?_); rintro e w2 ⟨rfl, hg2⟩))
  go_upto_region 4 with (go_at_call 91; ((with_reducible refine (c3 _ hg2).mono ?_); rintro e w3 ⟨B3, zs, cp3, rfl, hi, hm, hg3⟩; have Y3 := Lib.hid (And.intro hi hm); clear hi hm))
  refine wp_forget (fun X => Blk X w3.heap.size 81 #[.int .i64 e3, .int .i64 a3] ∧ w.heap.size ≤ w3.heap.size ∧ Grow w3 X) ⟨Blk.new _ _ _, (hg2.trans hg3).size, (Grow.refl _).al _⟩ ?_
  generalize hg4e : w3.heap.size = g4
  clear hg4e
  rintro X3 ⟨B4, hg4, Gx3⟩
  have K3 := (hg2.trans hg3).trans Gx3
  have HB4 := Lib.hid B4
  have Z3 := Lib.hid (And.intro (Y3.out.1.grow Gx3) Y3.out.2)
  clear B4 Y3 Gx3 hg2 hg3
  go_upto_region 5 with (go_at_call 87; ((with_reducible refine (c4 _ K3).mono ?_); rintro e w4 ⟨B5, ds, cp5, rfl, hi, hm, hg5⟩; have Y5 := Lib.hid (And.intro hi hm); clear hi hm))
  refine wp_forget (fun X => Blk X w4.heap.size 81 #[.int .i64 e4, .int .i64 a4] ∧ Grow w4 X) ⟨Blk.new _ _ _, (Grow.refl _).al _⟩ ?_
  rintro X ⟨B6, Gx⟩
  have K := Lib.hid (K3.trans (hg5.trans Gx))
  have D5 := Lib.hid (And.intro (Y5.out.1.grow Gx) Y5.out.2)
  have D3 := Lib.hid (And.intro (Z3.out.1.grow (hg5.trans Gx)) Z3.out.2)
  have HB := Lib.hid (HB4.out.grow (hg5.trans Gx))
  obtain ⟨b4, f4⟩ := HB.out.rules
  obtain ⟨b6, f6⟩ := B6.rules
  clear Y5 Z3 HB4 K3 hg5 Gx c3 c4
  by_cases he3 : e3 = 0
  · subst he3
    by_cases he4 : e4 = 0
    · subst he4
      have ha3 : a3 = 0 := by
        obtain ⟨q1, q2⟩ := (along_ok H4.out).1
        have h9 := H3.out
        rw [del_along q1 q2] at h9
        exact (congrArg Prod.snd (Prod.mk.inj h9).2).symm
      subst ha3
      obtain ⟨p1, p2, p3⟩ := delay1 H3.out H4.out
      have l1 : zs.length = ss.length := by have h9 := congrArg List.length D3.out.2; simp at h9; rw [h9, p1]; simp
      have l2 : ds.length = ss.length := by have h9 := congrArg List.length D5.out.2; simp at h9; rw [h9, p2]; simp
      have dl1 : ((zs.length : Int) != (ss.length : Int)) = false := by simp; omega
      have dl2 : ((ds.length : Int) != (ss.length : Int)) = false := by simp; omega
      have Pp := Lib.hid p3
      clear p1 p2 p3 l1 l2
      go_upto_region 9 with fail
      clear b4 f4 b6 f6
      go_loopw [49] (fun i wr => ∃ k : Nat, k ≤ ss.length ∧ i = .int .i64 k ∧ Grow X wr) (fun i _ => ss.length - (intOf i).toNat)
      case atStart => exact ⟨0, Nat.zero_le _, rfl, Grow.refl _⟩
      case round =>
        obtain ⟨k, hk, rfl, hg⟩ := hrel
        by_cases hlt : k < ss.length
        · obtain ⟨s, hsk⟩ : ∃ s, ss[k]? = some s := ⟨_, List.getElem?_eq_getElem hlt⟩
          obtain ⟨vz, tz, v1, t1, ev⟩ := Pp.out k s.z (at_z hsk)
          obtain ⟨v, hvk, v2⟩ := z_at D3.out.2 v1
          obtain ⟨t, htk, t2⟩ := z_at D5.out.2 t1
          have is := (H.out.each s (List.mem_of_getElem? hsk)).grow (K.out.trans hg)
          have iv := (D3.out.1.each v (List.mem_of_getElem? hvk)).grow hg
          have it := Lib.hid ((D5.out.1.each t (List.mem_of_getElem? htk)).grow hg)
          obtain ⟨gs, os, rfl, d1, _⟩ := (H.out.s.grow (K.out.trans hg)) k s hsk
          obtain ⟨gv, ov, rfl, d2, _⟩ := (D3.out.1.s.grow hg) k v hvk
          obtain ⟨gt, ot, rfl, d3, _⟩ := (D5.out.1.s.grow hg) k t htk
          have ev2 : bothZ s.z v.z (-1) = (tz, 0) := by rw [v2]; exact ev
          have cc := fun W (h : Grow wr W) => pt_both 79 _ _ (sub_any s v W (is.grow h) (iv.grow h)) ev2
          have Cx := Lib.hid (And.intro d1 (And.intro d2 d3))
          have T2 := Lib.hid t2
          have b0 : (0 : Int) ≤ (k : Int) := by omega
          have b1 : (k : Int) < (ss.length : Int) := by omega
          have b2 : k < ss.length := hlt
          have hvl := (List.getElem?_eq_some_iff.1 hvk).1
          have htl := (List.getElem?_eq_some_iff.1 htk).1
          have b3 : (k : Int) < (zs.length : Int) := by omega
          have b5 : (k : Int) < (ds.length : Int) := by omega
          clear hsk hvk htk is iv d1 d2 d3 ev ev2 v1 t1 v2 t2
          go_upto_region 11 with fail
          apply wp_region_calm 14 (by kernel_rfl) (by kernel_rfl)
          case h' =>
            intro Q0 hQ0
            simp only [List.take_succ_cons, List.take_zero]
            repeat (
              first
                | (apply calm_p rfl; case h1 => (intro w1 hw1 hF K hK; obtain ⟨d1, d2, d3⟩ := And.intro (hw1.cell Cx.out.1) (And.intro (hw1.cell Cx.out.2.1) (hw1.cell Cx.out.2.2)); go_simp; first | exact hK _ (Grow.refl _) | fail))
                | (apply calm_y rfl rfl rfl; case h1 => (intro w1 hw1 hF K hK; obtain ⟨d1, d2, d3⟩ := And.intro (hw1.cell Cx.out.1) (And.intro (hw1.cell Cx.out.2.1) (hw1.cell Cx.out.2.2)); go_simp; first | exact hK _ (Grow.refl _) | fail))
                | apply calm_n rfl rfl rfl rfl
              intro K hK
              go_simp
              apply hK
              clear hK K)
            apply calm_fp (PT tz) rfl
            case h1 =>
              intro w1 hw1 hF K hK
              go_simp
              go_at_call 79
              refine (cc w1 hw1).mono ?_
              rintro en w' ⟨v9, rfl, hp, hg'⟩
              exact ⟨_, rfl, hK _ _ hg' hp⟩
            intro v61 K hK
            go_simp
            apply hK
            clear hK K
            apply calm_fp (PT tz) rfl
            case h1 =>
              intro w1 hw1 hF K hK
              have h9 := hF _ (List.mem_cons_self ..) ⟨_, rfl, by decide⟩
              go_simp
              exact hK _ _ (Grow.refl _) h9
            intro v52 K hK
            go_simp
            apply hK
            clear hK K
            apply calm_fp (PD tz) rfl
            case h1 =>
              intro w1 hw1 hF K hK
              obtain ⟨B9, ys9, cap9, e9, i9, z9⟩ := hF _ (List.mem_cons_self ..) ⟨_, rfl, by decide⟩
              subst e9
              go_simp
              exact hK _ _ (Grow.refl _) ⟨B9, ys9, cap9, rfl, i9, z9⟩
            intro v62 K hK
            go_simp
            apply hK
            clear hK K
            apply calm_p rfl
            case h1 =>
              intro w1 hw1 hF K hK
              obtain ⟨B9, ys9, cap9, e9, i9, z9⟩ := hF _ (List.mem_cons_of_mem _ (List.mem_cons_self ..)) ⟨_, rfl, by decide⟩
              subst e9
              go_simp
              exact hK _ (Grow.refl _)
            intro K hK
            go_simp
            apply hK
            clear hK K
            apply calm_fp (PD tz) rfl
            case h1 =>
              intro w1 hw1 hF K hK
              have h9 := hF _ (List.mem_cons_self ..) ⟨_, rfl, by decide⟩
              go_simp
              exact hK _ _ (Grow.refl _) h9
            intro v8 K hK
            go_simp
            apply hK
            clear hK K
            repeat (
              first
                | (apply calm_p rfl; case h1 => (intro w1 hw1 hF K hK; go_simp; first | exact hK _ (Grow.refl _) | fail))
                | (apply calm_y rfl rfl rfl; case h1 => (intro w1 hw1 hF K hK; go_simp; first | exact hK _ (Grow.refl _) | fail))
                | apply calm_n rfl rfl rfl rfl
              intro K hK
              go_simp
              apply hK
              clear hK K)
            refine calm_nil ?_
            intro w1 hw1 hF
            apply hQ0
            clear hQ0
            simp only [List.drop_succ_cons, List.drop_zero]
            obtain ⟨B9, ys9, cap9, e9, i9, z9⟩ := hF _ (List.mem_cons_self ..)
            subst e9
            have cs := same_in8 ⟨B9, ys9, cap9⟩ t w1 i9 (it.out.grow hw1) (z9.trans T2.out.symm)
            have d3 := hw1.cell Cx.out.2.2
            clear hF i9 z9
            go_wp2_with (go_at_call 70; ((with_reducible refine cs.mono ?_); rintro e w9 ⟨rfl, hg9⟩))
            go_roundw
            case rel => exact ⟨k + 1, by omega, by go_num, hg.trans (hw1.trans hg9)⟩
            case measure => simp [intOf]; omega
          case hp' => exact ⟨fun v w w' hg h => h.grow hg, fun v w w' hg h => h.grow hg, fun v w w' hg h => h.grow hg, fun v w w' hg h => h.grow hg, trivial⟩
        · obtain rfl : k = ss.length := by omega
          have K9 := Lib.hid (K.out.trans hg)
          have HB9 := Lib.hid (HB.out.grow hg)
          go_upto_region 16 with (go_at_call 86; ((with_reducible refine (c1 _ K9.out).mono ?_); rintro e wi ⟨B1, aas, cp1, rfl, hi, hm, hgi⟩; have Y1 := Lib.hid (And.intro hi hm); have HBi := Lib.hid (HB9.out.grow hgi); have Ki := Lib.hid (K9.out.trans hgi); obtain ⟨bi, fi⟩ := HBi.out.rules; clear hi hm))
          refine wp_forget (fun Z => Blk Z g4 81 #[.int .i64 e1, .int .i64 a1] ∧ InS Z B1 aas cp1 ∧ Grow w Z) ⟨(HBi.out.set 0 _).set 1 _, InS.fault Y1.out.1 HBi.out e1 a1, Grow.set (Grow.set Ki.out hg4 _) hg4 _⟩ ?_
          clear HBi bi fi
          rintro Z1 ⟨Bz1, Iz1, Gz1⟩
          obtain ⟨bz1, fz1⟩ := Bz1.rules
          by_cases he1 : e1 = 0
          · subst he1
            obtain ⟨bb, hb1, hb2, hb3⟩ := delay2 H1.out
            have cb : Calls Try.prog 91 #[.slice B1 aas.length cp1] Z1 fun en w' => GivesL Z1 w' en (bb, 0, 0) := by
              have h9 := sdel_any aas B1 cp1 Z1 Iz1
              rw [Y1.out.2, hb1] at h9
              exact h9
            have Hb := Lib.hid (And.intro hb2 hb3)
            have HI1 := Lib.hid Iz1
            have HBz := Lib.hid Bz1
            have Hgz := Lib.hid Gz1
            clear hb1 hb2 hb3 Iz1 Bz1 Gz1
            go_upto_region 18 with fail
            clear bz1 fz1
            go_upto_region 19 with (go_at_call 91; ((with_reducible refine cb.mono ?_); rintro e wd ⟨B2, es, cp2, rfl, hi, hm, hgd⟩; have Y2 := Lib.hid (And.intro hi hm); have HBd := Lib.hid (HBz.out.grow hgd); have Kd := Lib.hid (And.intro (Hgz.out.trans hgd) (HI1.out.grow hgd)); obtain ⟨bi, fi⟩ := HBd.out.rules; clear hi hm))
            refine wp_forget (fun Z => Blk Z g4 81 #[.int .i64 0, .int .i64 0] ∧ InS Z B1 aas cp1 ∧ InS Z B2 es cp2 ∧ Grow w Z) ⟨(HBd.out.set 0 _).set 1 _, InS.fault Kd.out.2 HBd.out 0 0, InS.fault Y2.out.1 HBd.out 0 0, Grow.set (Grow.set Kd.out.1 hg4 _) hg4 _⟩ ?_
            clear HBd bi fi
            rintro Z2 ⟨Bz2, Ia, Ib, Gz2⟩
            obtain ⟨bz2, fz2⟩ := Bz2.rules
            have HIa := Lib.hid Ia
            have HIb := Lib.hid Ib
            have HG2 := Lib.hid Gz2
            have lb : es.length = ss.length := by have h9 := congrArg List.length Y2.out.2; simp at h9; rw [h9, Hb.out.1]; simp
            have dl : ((es.length : Int) != (ss.length : Int)) = false := by simp; omega
            clear Ia Ib Gz2 lb
            go_upto_region 22 with fail
            clear bz2 fz2
            go_loopw [101] (fun i wr => ∃ k : Nat, k ≤ ss.length ∧ i = .int .i64 k ∧ Grow Z2 wr) (fun i _ => ss.length - (intOf i).toNat)
            case atStart => exact ⟨0, Nat.zero_le _, rfl, Grow.refl _⟩
            case round =>
              obtain ⟨k, hk, rfl, hg⟩ := hrel
              by_cases hlt : k < ss.length
              · obtain ⟨s, hsk⟩ : ∃ s, ss[k]? = some s := ⟨_, List.getElem?_eq_getElem hlt⟩
                obtain ⟨vz, tz, v1, t1, ev⟩ := Hb.out.2 k s.z (at_z hsk)
                obtain ⟨v, hvk, v2⟩ := z_at Y2.out.2 v1
                obtain ⟨t, htk, t2⟩ := z_at Y1.out.2 t1
                have is := (H.out.each s (List.mem_of_getElem? hsk)).grow (HG2.out.trans hg)
                have iv := (HIb.out.each v (List.mem_of_getElem? hvk)).grow hg
                have it := Lib.hid ((HIa.out.each t (List.mem_of_getElem? htk)).grow hg)
                obtain ⟨gs, os, rfl, d1, _⟩ := (H.out.s.grow (HG2.out.trans hg)) k s hsk
                obtain ⟨gv, ov, rfl, d2, _⟩ := (HIb.out.s.grow hg) k v hvk
                obtain ⟨gt, ot, rfl, d3, _⟩ := (HIa.out.s.grow hg) k t htk
                have ev2 : bothZ s.z v.z 1 = (tz, 0) := by rw [v2]; exact ev
                have cc := fun W (h : Grow wr W) => pt_both 77 _ _ (add_any s v W (is.grow h) (iv.grow h)) ev2
                have Cx := Lib.hid (And.intro d1 (And.intro d2 d3))
                have T2 := Lib.hid t2
                have b0 : (0 : Int) ≤ (k : Int) := by omega
                have b1 : (k : Int) < (ss.length : Int) := by omega
                have b2 : k < ss.length := hlt
                have hvl := (List.getElem?_eq_some_iff.1 hvk).1
                have htl := (List.getElem?_eq_some_iff.1 htk).1
                have b3 : (k : Int) < (es.length : Int) := by omega
                have b5 : (k : Int) < (aas.length : Int) := by omega
                clear hsk hvk htk is iv d1 d2 d3 ev ev2 v1 t1 v2 t2
                go_upto_region 24 with fail
                apply wp_region_calm 14 (by kernel_rfl) (by kernel_rfl)
                case h' =>
                  intro Q0 hQ0
                  simp only [List.take_succ_cons, List.take_zero]
                  repeat (
                    first
                      | (apply calm_p rfl; case h1 => (intro w1 hw1 hF K hK; obtain ⟨d1, d2, d3⟩ := And.intro (hw1.cell Cx.out.1) (And.intro (hw1.cell Cx.out.2.1) (hw1.cell Cx.out.2.2)); go_simp; first | exact hK _ (Grow.refl _) | fail))
                      | (apply calm_y rfl rfl rfl; case h1 => (intro w1 hw1 hF K hK; obtain ⟨d1, d2, d3⟩ := And.intro (hw1.cell Cx.out.1) (And.intro (hw1.cell Cx.out.2.1) (hw1.cell Cx.out.2.2)); go_simp; first | exact hK _ (Grow.refl _) | fail))
                      | apply calm_n rfl rfl rfl rfl
                    intro K hK
                    go_simp
                    apply hK
                    clear hK K)
                  apply calm_fp (PT tz) rfl
                  case h1 =>
                    intro w1 hw1 hF K hK
                    go_simp
                    go_at_call 77
                    refine (cc w1 hw1).mono ?_
                    rintro en w' ⟨v9, rfl, hp, hg'⟩
                    exact ⟨_, rfl, hK _ _ hg' hp⟩
                  intro v61 K hK
                  go_simp
                  apply hK
                  clear hK K
                  apply calm_fp (PT tz) rfl
                  case h1 =>
                    intro w1 hw1 hF K hK
                    have h9 := hF _ (List.mem_cons_self ..) ⟨_, rfl, by decide⟩
                    go_simp
                    exact hK _ _ (Grow.refl _) h9
                  intro v52 K hK
                  go_simp
                  apply hK
                  clear hK K
                  apply calm_fp (PD tz) rfl
                  case h1 =>
                    intro w1 hw1 hF K hK
                    obtain ⟨B9, ys9, cap9, e9, i9, z9⟩ := hF _ (List.mem_cons_self ..) ⟨_, rfl, by decide⟩
                    subst e9
                    go_simp
                    exact hK _ _ (Grow.refl _) ⟨B9, ys9, cap9, rfl, i9, z9⟩
                  intro v62 K hK
                  go_simp
                  apply hK
                  clear hK K
                  apply calm_p rfl
                  case h1 =>
                    intro w1 hw1 hF K hK
                    obtain ⟨B9, ys9, cap9, e9, i9, z9⟩ := hF _ (List.mem_cons_of_mem _ (List.mem_cons_self ..)) ⟨_, rfl, by decide⟩
                    subst e9
                    go_simp
                    exact hK _ (Grow.refl _)
                  intro K hK
                  go_simp
                  apply hK
                  clear hK K
                  apply calm_fp (PD tz) rfl
                  case h1 =>
                    intro w1 hw1 hF K hK
                    have h9 := hF _ (List.mem_cons_self ..) ⟨_, rfl, by decide⟩
                    go_simp
                    exact hK _ _ (Grow.refl _) h9
                  intro v8 K hK
                  go_simp
                  apply hK
                  clear hK K
                  repeat (
                    first
                      | (apply calm_p rfl; case h1 => (intro w1 hw1 hF K hK; go_simp; first | exact hK _ (Grow.refl _) | fail))
                      | (apply calm_y rfl rfl rfl; case h1 => (intro w1 hw1 hF K hK; go_simp; first | exact hK _ (Grow.refl _) | fail))
                      | apply calm_n rfl rfl rfl rfl
                    intro K hK
                    go_simp
                    apply hK
                    clear hK K)
                  refine calm_nil ?_
                  intro w1 hw1 hF
                  apply hQ0
                  clear hQ0
                  simp only [List.drop_succ_cons, List.drop_zero]
                  obtain ⟨B9, ys9, cap9, e9, i9, z9⟩ := hF _ (List.mem_cons_self ..)
                  subst e9
                  have cs := same_in8 ⟨B9, ys9, cap9⟩ t w1 i9 (it.out.grow hw1) (z9.trans T2.out.symm)
                  have d3 := hw1.cell Cx.out.2.2
                  clear hF i9 z9
                  go_wp2_with (go_at_call 70; ((with_reducible refine cs.mono ?_); rintro e w9 ⟨rfl, hg9⟩))
                  go_roundw
                  case rel => exact ⟨k + 1, by omega, by go_num, hg.trans (hw1.trans hg9)⟩
                  case measure => simp [intOf]; omega
                case hp' => exact ⟨fun v w w' hg h => h.grow hg, fun v w w' hg h => h.grow hg, fun v w w' hg h => h.grow hg, fun v w w' hg h => h.grow hg, trivial⟩
              · obtain rfl : k = ss.length := by omega
                go_wp2
                go_ret
                exact ret_bool (by simp) (HG2.out.trans hg)
          · have de1 : (e1 != 0) = true := by simpa using he1
            go_wp2
            go_ret
            exact ret_bool (by simp) Gz1
    · have de4 : (e4 == 0) = false := by simpa using he4
      go_upto_region 15 with fail
      clear b4 f4 b6 f6
      go_upto_region 16 with (go_at_call 86; ((with_reducible refine (c1 _ K.out).mono ?_); rintro e wi ⟨B1, aas, cp1, rfl, hi, hm, hgi⟩; have Y1 := Lib.hid (And.intro hi hm); have HBi := Lib.hid (HB.out.grow hgi); have Ki := Lib.hid (K.out.trans hgi); obtain ⟨bi, fi⟩ := HBi.out.rules; clear hi hm))
      refine wp_forget (fun Z => Blk Z g4 81 #[.int .i64 e1, .int .i64 a1] ∧ InS Z B1 aas cp1 ∧ Grow w Z) ⟨(HBi.out.set 0 _).set 1 _, InS.fault Y1.out.1 HBi.out e1 a1, Grow.set (Grow.set Ki.out hg4 _) hg4 _⟩ ?_
      clear HBi bi fi
      rintro Z1 ⟨Bz1, Iz1, Gz1⟩
      obtain ⟨bz1, fz1⟩ := Bz1.rules
      by_cases he1 : e1 = 0
      · subst he1
        obtain ⟨bb, hb1, hb2, hb3⟩ := delay2 H1.out
        have cb : Calls Try.prog 91 #[.slice B1 aas.length cp1] Z1 fun en w' => GivesL Z1 w' en (bb, 0, 0) := by
          have h9 := sdel_any aas B1 cp1 Z1 Iz1
          rw [Y1.out.2, hb1] at h9
          exact h9
        have Hb := Lib.hid (And.intro hb2 hb3)
        have HI1 := Lib.hid Iz1
        have HBz := Lib.hid Bz1
        have Hgz := Lib.hid Gz1
        clear hb1 hb2 hb3 Iz1 Bz1 Gz1
        go_upto_region 18 with fail
        clear bz1 fz1
        go_upto_region 19 with (go_at_call 91; ((with_reducible refine cb.mono ?_); rintro e wd ⟨B2, es, cp2, rfl, hi, hm, hgd⟩; have Y2 := Lib.hid (And.intro hi hm); have HBd := Lib.hid (HBz.out.grow hgd); have Kd := Lib.hid (And.intro (Hgz.out.trans hgd) (HI1.out.grow hgd)); obtain ⟨bi, fi⟩ := HBd.out.rules; clear hi hm))
        refine wp_forget (fun Z => Blk Z g4 81 #[.int .i64 0, .int .i64 0] ∧ InS Z B1 aas cp1 ∧ InS Z B2 es cp2 ∧ Grow w Z) ⟨(HBd.out.set 0 _).set 1 _, InS.fault Kd.out.2 HBd.out 0 0, InS.fault Y2.out.1 HBd.out 0 0, Grow.set (Grow.set Kd.out.1 hg4 _) hg4 _⟩ ?_
        clear HBd bi fi
        rintro Z2 ⟨Bz2, Ia, Ib, Gz2⟩
        obtain ⟨bz2, fz2⟩ := Bz2.rules
        have HIa := Lib.hid Ia
        have HIb := Lib.hid Ib
        have HG2 := Lib.hid Gz2
        have lb : es.length = ss.length := by have h9 := congrArg List.length Y2.out.2; simp at h9; rw [h9, Hb.out.1]; simp
        have dl : ((es.length : Int) != (ss.length : Int)) = false := by simp; omega
        clear Ia Ib Gz2 lb
        go_upto_region 22 with fail
        clear bz2 fz2
        go_loopw [101] (fun i wr => ∃ k : Nat, k ≤ ss.length ∧ i = .int .i64 k ∧ Grow Z2 wr) (fun i _ => ss.length - (intOf i).toNat)
        case atStart => exact ⟨0, Nat.zero_le _, rfl, Grow.refl _⟩
        case round =>
          obtain ⟨k, hk, rfl, hg⟩ := hrel
          by_cases hlt : k < ss.length
          · obtain ⟨s, hsk⟩ : ∃ s, ss[k]? = some s := ⟨_, List.getElem?_eq_getElem hlt⟩
            obtain ⟨vz, tz, v1, t1, ev⟩ := Hb.out.2 k s.z (at_z hsk)
            obtain ⟨v, hvk, v2⟩ := z_at Y2.out.2 v1
            obtain ⟨t, htk, t2⟩ := z_at Y1.out.2 t1
            have is := (H.out.each s (List.mem_of_getElem? hsk)).grow (HG2.out.trans hg)
            have iv := (HIb.out.each v (List.mem_of_getElem? hvk)).grow hg
            have it := Lib.hid ((HIa.out.each t (List.mem_of_getElem? htk)).grow hg)
            obtain ⟨gs, os, rfl, d1, _⟩ := (H.out.s.grow (HG2.out.trans hg)) k s hsk
            obtain ⟨gv, ov, rfl, d2, _⟩ := (HIb.out.s.grow hg) k v hvk
            obtain ⟨gt, ot, rfl, d3, _⟩ := (HIa.out.s.grow hg) k t htk
            have ev2 : bothZ s.z v.z 1 = (tz, 0) := by rw [v2]; exact ev
            have cc := fun W (h : Grow wr W) => pt_both 77 _ _ (add_any s v W (is.grow h) (iv.grow h)) ev2
            have Cx := Lib.hid (And.intro d1 (And.intro d2 d3))
            have T2 := Lib.hid t2
            have b0 : (0 : Int) ≤ (k : Int) := by omega
            have b1 : (k : Int) < (ss.length : Int) := by omega
            have b2 : k < ss.length := hlt
            have hvl := (List.getElem?_eq_some_iff.1 hvk).1
            have htl := (List.getElem?_eq_some_iff.1 htk).1
            have b3 : (k : Int) < (es.length : Int) := by omega
            have b5 : (k : Int) < (aas.length : Int) := by omega
            clear hsk hvk htk is iv d1 d2 d3 ev ev2 v1 t1 v2 t2
            go_upto_region 24 with fail
            apply wp_region_calm 14 (by kernel_rfl) (by kernel_rfl)
            case h' =>
              intro Q0 hQ0
              simp only [List.take_succ_cons, List.take_zero]
              repeat (
                first
                  | (apply calm_p rfl; case h1 => (intro w1 hw1 hF K hK; obtain ⟨d1, d2, d3⟩ := And.intro (hw1.cell Cx.out.1) (And.intro (hw1.cell Cx.out.2.1) (hw1.cell Cx.out.2.2)); go_simp; first | exact hK _ (Grow.refl _) | fail))
                  | (apply calm_y rfl rfl rfl; case h1 => (intro w1 hw1 hF K hK; obtain ⟨d1, d2, d3⟩ := And.intro (hw1.cell Cx.out.1) (And.intro (hw1.cell Cx.out.2.1) (hw1.cell Cx.out.2.2)); go_simp; first | exact hK _ (Grow.refl _) | fail))
                  | apply calm_n rfl rfl rfl rfl
                intro K hK
                go_simp
                apply hK
                clear hK K)
              apply calm_fp (PT tz) rfl
              case h1 =>
                intro w1 hw1 hF K hK
                go_simp
                go_at_call 77
                refine (cc w1 hw1).mono ?_
                rintro en w' ⟨v9, rfl, hp, hg'⟩
                exact ⟨_, rfl, hK _ _ hg' hp⟩
              intro v61 K hK
              go_simp
              apply hK
              clear hK K
              apply calm_fp (PT tz) rfl
              case h1 =>
                intro w1 hw1 hF K hK
                have h9 := hF _ (List.mem_cons_self ..) ⟨_, rfl, by decide⟩
                go_simp
                exact hK _ _ (Grow.refl _) h9
              intro v52 K hK
              go_simp
              apply hK
              clear hK K
              apply calm_fp (PD tz) rfl
              case h1 =>
                intro w1 hw1 hF K hK
                obtain ⟨B9, ys9, cap9, e9, i9, z9⟩ := hF _ (List.mem_cons_self ..) ⟨_, rfl, by decide⟩
                subst e9
                go_simp
                exact hK _ _ (Grow.refl _) ⟨B9, ys9, cap9, rfl, i9, z9⟩
              intro v62 K hK
              go_simp
              apply hK
              clear hK K
              apply calm_p rfl
              case h1 =>
                intro w1 hw1 hF K hK
                obtain ⟨B9, ys9, cap9, e9, i9, z9⟩ := hF _ (List.mem_cons_of_mem _ (List.mem_cons_self ..)) ⟨_, rfl, by decide⟩
                subst e9
                go_simp
                exact hK _ (Grow.refl _)
              intro K hK
              go_simp
              apply hK
              clear hK K
              apply calm_fp (PD tz) rfl
              case h1 =>
                intro w1 hw1 hF K hK
                have h9 := hF _ (List.mem_cons_self ..) ⟨_, rfl, by decide⟩
                go_simp
                exact hK _ _ (Grow.refl _) h9
              intro v8 K hK
              go_simp
              apply hK
              clear hK K
              repeat (
                first
                  | (apply calm_p rfl; case h1 => (intro w1 hw1 hF K hK; go_simp; first | exact hK _ (Grow.refl _) | fail))
                  | (apply calm_y rfl rfl rfl; case h1 => (intro w1 hw1 hF K hK; go_simp; first | exact hK _ (Grow.refl _) | fail))
                  | apply calm_n rfl rfl rfl rfl
                intro K hK
                go_simp
                apply hK
                clear hK K)
              refine calm_nil ?_
              intro w1 hw1 hF
              apply hQ0
              clear hQ0
              simp only [List.drop_succ_cons, List.drop_zero]
              obtain ⟨B9, ys9, cap9, e9, i9, z9⟩ := hF _ (List.mem_cons_self ..)
              subst e9
              have cs := same_in8 ⟨B9, ys9, cap9⟩ t w1 i9 (it.out.grow hw1) (z9.trans T2.out.symm)
              have d3 := hw1.cell Cx.out.2.2
              clear hF i9 z9
              go_wp2_with (go_at_call 70; ((with_reducible refine cs.mono ?_); rintro e w9 ⟨rfl, hg9⟩))
              go_roundw
              case rel => exact ⟨k + 1, by omega, by go_num, hg.trans (hw1.trans hg9)⟩
              case measure => simp [intOf]; omega
            case hp' => exact ⟨fun v w w' hg h => h.grow hg, fun v w w' hg h => h.grow hg, fun v w w' hg h => h.grow hg, fun v w w' hg h => h.grow hg, trivial⟩
          · obtain rfl : k = ss.length := by omega
            go_wp2
            go_ret
            exact ret_bool (by simp) (HG2.out.trans hg)
      · have de1 : (e1 != 0) = true := by simpa using he1
        go_wp2
        go_ret
        exact ret_bool (by simp) Gz1
  · have de3 : (e3 == 0) = false := by simpa using he3
    go_upto_region 15 with fail
    clear b4 f4 b6 f6
    go_upto_region 16 with (go_at_call 86; ((with_reducible refine (c1 _ K.out).mono ?_); rintro e wi ⟨B1, aas, cp1, rfl, hi, hm, hgi⟩; have Y1 := Lib.hid (And.intro hi hm); have HBi := Lib.hid (HB.out.grow hgi); have Ki := Lib.hid (K.out.trans hgi); obtain ⟨bi, fi⟩ := HBi.out.rules; clear hi hm))
    refine wp_forget (fun Z => Blk Z g4 81 #[.int .i64 e1, .int .i64 a1] ∧ InS Z B1 aas cp1 ∧ Grow w Z) ⟨(HBi.out.set 0 _).set 1 _, InS.fault Y1.out.1 HBi.out e1 a1, Grow.set (Grow.set Ki.out hg4 _) hg4 _⟩ ?_
    clear HBi bi fi
    rintro Z1 ⟨Bz1, Iz1, Gz1⟩
    obtain ⟨bz1, fz1⟩ := Bz1.rules
    by_cases he1 : e1 = 0
    · subst he1
      obtain ⟨bb, hb1, hb2, hb3⟩ := delay2 H1.out
      have cb : Calls Try.prog 91 #[.slice B1 aas.length cp1] Z1 fun en w' => GivesL Z1 w' en (bb, 0, 0) := by
        have h9 := sdel_any aas B1 cp1 Z1 Iz1
        rw [Y1.out.2, hb1] at h9
        exact h9
      have Hb := Lib.hid (And.intro hb2 hb3)
      have HI1 := Lib.hid Iz1
      have HBz := Lib.hid Bz1
      have Hgz := Lib.hid Gz1
      clear hb1 hb2 hb3 Iz1 Bz1 Gz1
      go_upto_region 18 with fail
      clear bz1 fz1
      go_upto_region 19 with (go_at_call 91; ((with_reducible refine cb.mono ?_); rintro e wd ⟨B2, es, cp2, rfl, hi, hm, hgd⟩; have Y2 := Lib.hid (And.intro hi hm); have HBd := Lib.hid (HBz.out.grow hgd); have Kd := Lib.hid (And.intro (Hgz.out.trans hgd) (HI1.out.grow hgd)); obtain ⟨bi, fi⟩ := HBd.out.rules; clear hi hm))
      refine wp_forget (fun Z => Blk Z g4 81 #[.int .i64 0, .int .i64 0] ∧ InS Z B1 aas cp1 ∧ InS Z B2 es cp2 ∧ Grow w Z) ⟨(HBd.out.set 0 _).set 1 _, InS.fault Kd.out.2 HBd.out 0 0, InS.fault Y2.out.1 HBd.out 0 0, Grow.set (Grow.set Kd.out.1 hg4 _) hg4 _⟩ ?_
      clear HBd bi fi
      rintro Z2 ⟨Bz2, Ia, Ib, Gz2⟩
      obtain ⟨bz2, fz2⟩ := Bz2.rules
      have HIa := Lib.hid Ia
      have HIb := Lib.hid Ib
      have HG2 := Lib.hid Gz2
      have lb : es.length = ss.length := by have h9 := congrArg List.length Y2.out.2; simp at h9; rw [h9, Hb.out.1]; simp
      have dl : ((es.length : Int) != (ss.length : Int)) = false := by simp; omega
      clear Ia Ib Gz2 lb
      go_upto_region 22 with fail
      clear bz2 fz2
      go_loopw [101] (fun i wr => ∃ k : Nat, k ≤ ss.length ∧ i = .int .i64 k ∧ Grow Z2 wr) (fun i _ => ss.length - (intOf i).toNat)
      case atStart => exact ⟨0, Nat.zero_le _, rfl, Grow.refl _⟩
      case round =>
        obtain ⟨k, hk, rfl, hg⟩ := hrel
        by_cases hlt : k < ss.length
        · obtain ⟨s, hsk⟩ : ∃ s, ss[k]? = some s := ⟨_, List.getElem?_eq_getElem hlt⟩
          obtain ⟨vz, tz, v1, t1, ev⟩ := Hb.out.2 k s.z (at_z hsk)
          obtain ⟨v, hvk, v2⟩ := z_at Y2.out.2 v1
          obtain ⟨t, htk, t2⟩ := z_at Y1.out.2 t1
          have is := (H.out.each s (List.mem_of_getElem? hsk)).grow (HG2.out.trans hg)
          have iv := (HIb.out.each v (List.mem_of_getElem? hvk)).grow hg
          have it := Lib.hid ((HIa.out.each t (List.mem_of_getElem? htk)).grow hg)
          obtain ⟨gs, os, rfl, d1, _⟩ := (H.out.s.grow (HG2.out.trans hg)) k s hsk
          obtain ⟨gv, ov, rfl, d2, _⟩ := (HIb.out.s.grow hg) k v hvk
          obtain ⟨gt, ot, rfl, d3, _⟩ := (HIa.out.s.grow hg) k t htk
          have ev2 : bothZ s.z v.z 1 = (tz, 0) := by rw [v2]; exact ev
          have cc := fun W (h : Grow wr W) => pt_both 77 _ _ (add_any s v W (is.grow h) (iv.grow h)) ev2
          have Cx := Lib.hid (And.intro d1 (And.intro d2 d3))
          have T2 := Lib.hid t2
          have b0 : (0 : Int) ≤ (k : Int) := by omega
          have b1 : (k : Int) < (ss.length : Int) := by omega
          have b2 : k < ss.length := hlt
          have hvl := (List.getElem?_eq_some_iff.1 hvk).1
          have htl := (List.getElem?_eq_some_iff.1 htk).1
          have b3 : (k : Int) < (es.length : Int) := by omega
          have b5 : (k : Int) < (aas.length : Int) := by omega
          clear hsk hvk htk is iv d1 d2 d3 ev ev2 v1 t1 v2 t2
          go_upto_region 24 with fail
          apply wp_region_calm 14 (by kernel_rfl) (by kernel_rfl)
          case h' =>
            intro Q0 hQ0
            simp only [List.take_succ_cons, List.take_zero]
            repeat (
              first
                | (apply calm_p rfl; case h1 => (intro w1 hw1 hF K hK; obtain ⟨d1, d2, d3⟩ := And.intro (hw1.cell Cx.out.1) (And.intro (hw1.cell Cx.out.2.1) (hw1.cell Cx.out.2.2)); go_simp; first | exact hK _ (Grow.refl _) | fail))
                | (apply calm_y rfl rfl rfl; case h1 => (intro w1 hw1 hF K hK; obtain ⟨d1, d2, d3⟩ := And.intro (hw1.cell Cx.out.1) (And.intro (hw1.cell Cx.out.2.1) (hw1.cell Cx.out.2.2)); go_simp; first | exact hK _ (Grow.refl _) | fail))
                | apply calm_n rfl rfl rfl rfl
              intro K hK
              go_simp
              apply hK
              clear hK K)
            apply calm_fp (PT tz) rfl
            case h1 =>
              intro w1 hw1 hF K hK
              go_simp
              go_at_call 77
              refine (cc w1 hw1).mono ?_
              rintro en w' ⟨v9, rfl, hp, hg'⟩
              exact ⟨_, rfl, hK _ _ hg' hp⟩
            intro v61 K hK
            go_simp
            apply hK
            clear hK K
            apply calm_fp (PT tz) rfl
            case h1 =>
              intro w1 hw1 hF K hK
              have h9 := hF _ (List.mem_cons_self ..) ⟨_, rfl, by decide⟩
              go_simp
              exact hK _ _ (Grow.refl _) h9
            intro v52 K hK
            go_simp
            apply hK
            clear hK K
            apply calm_fp (PD tz) rfl
            case h1 =>
              intro w1 hw1 hF K hK
              obtain ⟨B9, ys9, cap9, e9, i9, z9⟩ := hF _ (List.mem_cons_self ..) ⟨_, rfl, by decide⟩
              subst e9
              go_simp
              exact hK _ _ (Grow.refl _) ⟨B9, ys9, cap9, rfl, i9, z9⟩
            intro v62 K hK
            go_simp
            apply hK
            clear hK K
            apply calm_p rfl
            case h1 =>
              intro w1 hw1 hF K hK
              obtain ⟨B9, ys9, cap9, e9, i9, z9⟩ := hF _ (List.mem_cons_of_mem _ (List.mem_cons_self ..)) ⟨_, rfl, by decide⟩
              subst e9
              go_simp
              exact hK _ (Grow.refl _)
            intro K hK
            go_simp
            apply hK
            clear hK K
            apply calm_fp (PD tz) rfl
            case h1 =>
              intro w1 hw1 hF K hK
              have h9 := hF _ (List.mem_cons_self ..) ⟨_, rfl, by decide⟩
              go_simp
              exact hK _ _ (Grow.refl _) h9
            intro v8 K hK
            go_simp
            apply hK
            clear hK K
            repeat (
              first
                | (apply calm_p rfl; case h1 => (intro w1 hw1 hF K hK; go_simp; first | exact hK _ (Grow.refl _) | fail))
                | (apply calm_y rfl rfl rfl; case h1 => (intro w1 hw1 hF K hK; go_simp; first | exact hK _ (Grow.refl _) | fail))
                | apply calm_n rfl rfl rfl rfl
              intro K hK
              go_simp
              apply hK
              clear hK K)
            refine calm_nil ?_
            intro w1 hw1 hF
            apply hQ0
            clear hQ0
            simp only [List.drop_succ_cons, List.drop_zero]
            obtain ⟨B9, ys9, cap9, e9, i9, z9⟩ := hF _ (List.mem_cons_self ..)
            subst e9
            have cs := same_in8 ⟨B9, ys9, cap9⟩ t w1 i9 (it.out.grow hw1) (z9.trans T2.out.symm)
            have d3 := hw1.cell Cx.out.2.2
            clear hF i9 z9
            go_wp2_with (go_at_call 70; ((with_reducible refine cs.mono ?_); rintro e w9 ⟨rfl, hg9⟩))
            go_roundw
            case rel => exact ⟨k + 1, by omega, by go_num, hg.trans (hw1.trans hg9)⟩
            case measure => simp [intOf]; omega
          case hp' => exact ⟨fun v w w' hg h => h.grow hg, fun v w w' hg h => h.grow hg, fun v w w' hg h => h.grow hg, fun v w w' hg h => h.grow hg, trivial⟩
        · obtain rfl : k = ss.length := by omega
          go_wp2
          go_ret
          exact ret_bool (by simp) (HG2.out.trans hg)
    · have de1 : (e1 != 0) = true := by simpa using he1
      go_wp2
      go_ret
      exact ret_bool (by simp) Gz1
end Go.Proofs.Ytjhcbehnopmnpaa
