/-
  A text of the proof of the law OpsCounts; no condition beside the row's own.
-/
import Derived.Test.YtigpbihjjadmlaaGGa
import Derived.Test.YtigpbihjjadmlaaGR
namespace Go.Proofs.Ytigpbihjjadmlaa
open Go.RowKit Go.Calm
set_option linter.unusedSimpArgs false
set_option linter.unusedVariables false

def cntA : Ag := ⟨1, .leaf⟩
theorem agsl_cnt {w : World} {g : Nat} (h : Blk w g 63 #[.int .i64 1, .int .i64 0, .int .i64 0, .int .i64 0, .string es, .int .i64 0, .slice none 0 0]) : AgSl w (some ⟨g, 0, none⟩) [cntA] := fun i y hy => by
  match i, hy with
  | 0, hy =>
    simp at hy
    subst hy
    exact ⟨g, 0, rfl, ⟨h.cells rfl, h.cells rfl, h.cells rfl, h.cells rfl, h.cells rfl, h.cells rfl, h.cells rfl⟩, .leaf⟩
set_option maxRecDepth 100000 in
set_option maxHeartbeats 8000000 in
theorem law_ocounts (cols : List Int) (Ac : Option Addr) (cc : Nat) (xs0 : List E) (Ae : Option Addr) (ce : Nat) (s : S) (w : World) (hlen : cols.length ≤ 9223372036854775807) (hle : xs0.length ≤ 140737488355328) (hc : ISl w Ac cols) (hE : ESl w Ae xs0) (hs : In w s) :
    Calls Try.prog 8 #[.slice Ac cols.length cc, .slice Ae xs0.length ce, .slice s.A s.xs.length s.cap] w fun en w' => en = .returned (.bool true) ∧ Grow w w' := by
  obtain ⟨A, xs, c⟩ := s
  have Hs := Lib.hid hs
  have ct0 := fun (g : Nat) W (h : Grow w W) (hb : Blk W g 63 #[.int .i64 1, .int .i64 0, .int .i64 0, .int .i64 0, .string es, .int .i64 0, .slice none 0 0]) => group_any cols Ac cc xs0 Ae ce [cntA] (some ⟨g, 0, none⟩) 1 xs A c W hlen hle (by decide) (hc.grow h) (hE.grow h) (agsl_cnt hb) (Hs.out.grow h)
  obtain ⟨t, e, ht⟩ : ∃ t e, grpZ cols xs0 [cntA] (xs.map zOf) = (t, e) := ⟨_, _, rfl⟩
  rw [ht] at ct0
  have ct := Lib.hid ct0
  have HT := Lib.hid ht
  clear hs hc hE ht ct0
  go_enter Try.func8, Try.ntmps8
  go_upto_region 4 with (first
    | (go_at_call 25; ((with_reducible refine (alive4 _).mono ?_); rintro e w2 ⟨rfl, hg2⟩))
    | (go_at_call 26; ((refine (ct.out _ _ (hg2.al _) (Blk.new _ _ _)).mono ?_); rintro en w4 ⟨F, l3, c3, rfl, hi4, hm4, hk4, hg4⟩; have I4 := Lib.hid hi4; have M4 := Lib.hid hm4; clear hi4 hm4)))
  have G4 : Grow w w4 := (hg2.al _).trans hg4
  clear ct hg2 hg4 hk4
  by_cases he : e = 0
  · subst he
    obtain ⟨hwz, hrow, hl3, hsum, h1⟩ := cnt_plain (a := cntA) rfl HT.out
    have smz := SM.of hwz
    have Bdz := Lib.hid smz.bd
    have Row := Lib.hid hrow
    have H1 := Lib.hid h1
    have lz : xs.length ≤ 400 := by have := smz.len; simpa using this
    have l3t : l3.length = t.length := by have := congrArg List.length M4.out; simpa using this
    have L3 := Lib.hid l3t
    have l34 : l3.length ≤ 400 := by omega
    have Sum := Lib.hid hsum
    clear hwz hrow hl3 hsum h1 smz l3t
    go_wp2
    go_loopw [9, 33] (fun nn i wr => ∃ j : Nat, j ≤ xs.length ∧ i = .int .i64 j ∧ nn = .int .i64 (posS ((xs.take j).map zOf)) ∧ 0 ≤ posS ((xs.take j).map zOf) ∧ posS ((xs.take j).map zOf) ≤ 1000000 * j ∧ Grow w4 wr) (fun _ i _ => xs.length - (intOf i).toNat)
    case atStart => exact ⟨0, Nat.zero_le _, rfl, rfl, Int.le_refl _, Int.le_refl _, Grow.refl _⟩
    case round =>
      rename World => wr
      obtain ⟨j, hj, rfl, rfl, ha0, ha1, hg⟩ := hrel
      by_cases hlt : j < xs.length
      · obtain ⟨r, hrk⟩ : ∃ r, xs[j]? = some r := ⟨_, List.getElem?_eq_getElem hlt⟩
        obtain ⟨gx, ox, eA, c1, c2, hrv⟩ := (Hs.out.z.grow (G4.trans hg)) j r hrk
        simp only at eA
        subst eA
        have rbd := Bdz.out (zOf r) (List.mem_map_of_mem (List.mem_of_getElem? hrk))
        have rb1 : r.w ≤ 1000000 := rbd.2
        have hs1 : posS ((xs.take (j + 1)).map zOf) = posS ((xs.take j).map zOf) + (if 0 < r.w then r.w else 0) := by
          rw [take_sn zOf hrk, posS_app]
          by_cases hh : 0 < r.w <;> simp [posS, zOf, hh]
        obtain ⟨sn, hsn⟩ : ∃ q, posS ((xs.take j).map zOf) = q := ⟨_, rfl⟩
        rw [hsn] at hs1 ha0 ha1 ⊢
        have HS1 := Lib.hid hs1
        clear hrk rbd hs1 hsn hrv
        go_upto_region 10 with fail
        refine wp_forget (fun X => Blk X wr.heap.size 51 #[.slice r.A r.row.length r.cap, .int .i64 r.w] ∧ Grow wr X) ⟨Blk.new _ _ _, (Grow.refl wr).al _⟩ ?_
        rintro X ⟨Bz, Gz⟩
        obtain ⟨bz, fz⟩ := Bz.rules
        clear c1 c2
        generalize wr.heap.size = gz at *
        by_cases hp : 0 < r.w
        · have dp : decide (0 < r.w) = true := decide_eq_true hp
          rw [if_pos hp] at HS1
          have hwp : IntKind.i64.wrap (sn + r.w) = sn + r.w := by rw [IntKind.wrap_i64]; omega
          go_wp2
          go_roundw
          case rel => exact ⟨j + 1, by omega, by go_num, by rw [HS1.out], by rw [HS1.out]; omega, by rw [HS1.out]; push_cast; omega, hg.trans Gz⟩
          case measure => simp [intOf]; omega
        · have dp : decide (0 < r.w) = false := decide_eq_false hp
          rw [if_neg hp, Int.add_zero] at HS1
          go_wp2
          go_roundw
          case rel => exact ⟨j + 1, by omega, by go_num, by rw [HS1.out], by rw [HS1.out]; omega, by rw [HS1.out]; push_cast; omega, hg.trans Gz⟩
          case measure => simp [intOf]; omega
      · obtain rfl : j = xs.length := by omega
        rw [List.take_length] at ha0 ha1 ⊢
        have sum := Sum.out
        obtain ⟨n, hn⟩ : ∃ q, posS (xs.map zOf) = q := ⟨_, rfl⟩
        rw [hn] at sum ha0 ha1 ⊢
        have Sum2 := Lib.hid sum
        rename World => wC
        have GC := G4.trans hg
        clear hn sum
        go_wp2
        go_loopw [10, 47] (fun mm i wr => ∃ j : Nat, j ≤ l3.length ∧ i = .int .i64 j ∧ mm = .int .i64 (sumN xs0.length ((l3.take j).map zOf)) ∧ Grow wC wr) (fun _ i _ => l3.length - (intOf i).toNat)
        case atStart => exact ⟨0, Nat.zero_le _, rfl, rfl, Grow.refl _⟩
        case round =>
          rename World => wr
          obtain ⟨j, hj, rfl, rfl, hg2⟩ := hrel
          by_cases hlt : j < l3.length
          · obtain ⟨y, hyk⟩ : ∃ y, l3[j]? = some y := ⟨_, List.getElem?_eq_getElem hlt⟩
            obtain ⟨gx, ox, eF, c1, c2, hyv⟩ := (I4.out.grow (hg.trans hg2)) j y hyk
            subst eF
            have hmt : zOf y ∈ t := by rw [← (show l3.map zOf = t from M4.out)]; exact List.mem_map_of_mem (List.mem_of_getElem? hyk)
            obtain ⟨y1, y2, y3⟩ := Row.out (zOf y) hmt
            have y1 : y.w = 1 := y1
            have y2 : y.row.length = xs0.length + 1 := y2
            obtain ⟨u, hu⟩ : ∃ u, y.row[xs0.length]? = some u := ⟨_, List.getElem?_eq_getElem (by omega)⟩
            have hgd : y.row.getD xs0.length nullV' = u := by rw [List.getD_eq_getElem?_getD, hu]; rfl
            have y3 : 0 ≤ u.n := by rw [← hgd]; exact y3
            have hs1 : sumN xs0.length ((l3.take (j + 1)).map zOf) = sumN xs0.length ((l3.take j).map zOf) + u.n := by
              rw [take_sn zOf hyk, sumN_app]
              simp [sumN, zOf]
              rw [← hgd]
              simp
            have hpos : ∀ l : List I, (∀ q ∈ l, q ∈ l3) → 0 ≤ sumN xs0.length (l.map zOf) := fun l hl => sumN_pos _ _ (fun q hq => by
              obtain ⟨p, hp, rfl⟩ := List.mem_map.1 hq
              exact (Row.out (zOf p) (by rw [← (show l3.map zOf = t from M4.out)]; exact List.mem_map_of_mem (hl p hp))).2.2)
            have hbd : 0 ≤ sumN xs0.length ((l3.take j).map zOf) ∧ sumN xs0.length ((l3.take j).map zOf) + u.n ≤ n := by
              have e1 : t = (l3.take (j + 1)).map zOf ++ (l3.drop (j + 1)).map zOf := by rw [← List.map_append, List.take_append_drop]; exact M4.out.symm
              have p1 := hpos (l3.take j) (fun q hq => List.mem_of_mem_take hq)
              have p2 := hpos (l3.drop (j + 1)) (fun q hq => List.mem_of_mem_drop hq)
              have e2 : sumN xs0.length t = sumN xs0.length ((l3.take (j + 1)).map zOf) + sumN xs0.length ((l3.drop (j + 1)).map zOf) := by rw [e1]; exact sumN_app _ _ _
              have := Sum2.out
              omega
            obtain ⟨sn, hsn⟩ : ∃ q, sumN xs0.length ((l3.take j).map zOf) = q := ⟨_, rfl⟩
            rw [hsn] at hs1 hbd ⊢
            obtain ⟨gu, ou, eA, u1, u2, u3⟩ := hyv _ u hu
            have HS1 := Lib.hid hs1
            have U := Lib.hid (And.intro eA u2)
            have Y1 := Lib.hid y1
            have Y2 := Lib.hid y2
            have hwp : IntKind.i64.wrap (sn + u.n) = sn + u.n := by rw [IntKind.wrap_i64]; omega
            have hw1 : IntKind.i64.wrap ((xs0.length : Int) + 1) = ((xs0.length + 1 : Nat) : Int) := by rw [IntKind.wrap_i64]; omega
            clear hyk hmt hu hgd hpos hs1 hsn hyv eA u1 u2 u3 y1 y2
            go_upto_region 16 with fail
            refine wp_forget (fun X => Blk X wr.heap.size 51 #[.slice y.A y.row.length y.cap, .int .i64 y.w] ∧ Grow wr X) ⟨Blk.new _ _ _, (Grow.refl wr).al _⟩ ?_
            rintro X ⟨Bz, Gz⟩
            have e1 := Y1.out
            have e2 := Y2.out
            have eA := U.out.1
            have q2 := Gz.cell U.out.2
            rw [e1, e2, eA] at Bz
            obtain ⟨bz, fz⟩ := Bz.rules
            clear c1 c2 e1 e2 eA Bz
            generalize wr.heap.size = gz at *
            have k1 : (0 : Int) ≤ (xs0.length : Int) := by omega
            have k2 : (xs0.length : Int) < ((xs0.length + 1 : Nat) : Int) := by omega
            go_wp2
            go_roundw
            case rel => exact ⟨j + 1, by omega, by go_num, by rw [HS1.out], hg2.trans Gz⟩
            case measure => simp [intOf]; omega
          · obtain rfl : j = l3.length := by omega
            rw [List.take_length, show l3.map zOf = t from M4.out, Sum2.out]
            have dn : (n == n) = true := by simp
            by_cases h0 : 0 < xs0.length
            · have d0 : decide ((0 : Int) < (xs0.length : Int)) = true := decide_eq_true (by omega)
              go_wp2
              go_ret
              exact ret_bool (by simp) (GC.trans hg2)
            · have d0 : decide ((0 : Int) < (xs0.length : Int)) = false := decide_eq_false (by omega)
              have e1 : l3.length = 1 := by rw [L3.out]; exact H1.out (by omega)
              have d1 : ((l3.length : Int) == 1) = true := by rw [e1]; rfl
              clear e1
              go_wp2
              go_ret
              exact ret_bool (by simp) (GC.trans hg2)
  · have d : (e != 0) = true := by simpa using he
    have e3 : l3 = [] := by
      have h1 := grp_bad HT.out he
      have h2 := M4.out
      rw [h1] at h2
      exact List.map_eq_nil_iff.1 h2
    subst e3
    go_wp2
    go_ret
    exact ret_bool (by simp) G4
end Go.Proofs.Ytigpbihjjadmlaa
