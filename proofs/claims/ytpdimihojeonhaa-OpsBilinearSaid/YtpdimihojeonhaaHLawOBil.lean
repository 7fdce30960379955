/-
  A text of the proof of the law OpsBilinear; no condition beside the row's own.
-/
import Derived.Test.YtpdimihojeonhaaGU
/-
  The law OpsBilinear, walked.
-/
namespace Go.Proofs.Ytpdimihojeonhaa
open Go.RowKit Go.Calm
set_option linter.unusedSimpArgs false
set_option linter.unusedVariables false

theorem in_nil0 (w : World) : In w ⟨none, [], 0⟩ := In.sml (zin_nil w none) SlOk.nil sml_nil
set_option maxRecDepth 100000 in
set_option maxHeartbeats 16000000 in
theorem law_obilinear (l r : L2 Int) (x : E) (a b c d : S) (w : World) (hll : l.xs.length ≤ 140737488355328) (hlr : r.xs.length ≤ 140737488355328) (hl : ISl w l.A l.xs) (hr : ISl w r.A r.xs) (hx : EX w x) (ha : In w a) (hb : In w b) (hc : In w c) (hd : In w d) :
    Calls Try.prog 3 #[.slice l.A l.xs.length l.cap, .slice r.A r.xs.length r.cap, x.val, .slice a.A a.xs.length a.cap, .slice b.A b.xs.length b.cap, .slice c.A c.xs.length c.cap, .slice d.A d.xs.length d.cap] w fun en w' => en = .returned (.bool true) ∧ Grow w w' := by
  have Ha := Lib.hid ha
  have Hb := Lib.hid hb
  have Hc := Lib.hid hc
  have Hd := Lib.hid hd
  obtain ⟨s, es, hs⟩ : ∃ s e, bothZ a.z b.z 1 = (s, e) := ⟨_, _, rfl⟩
  obtain ⟨t, et, ht⟩ : ∃ s e, bothZ c.z d.z 1 = (s, e) := ⟨_, _, rfl⟩
  obtain ⟨fs, hfs⟩ : ∃ f, decide (es = 0) = f := ⟨_, rfl⟩
  obtain ⟨ft, hft⟩ : ∃ f, decide (et = 0) = f := ⟨_, rfl⟩
  have cab := fun W (h : Grow w W) => plus_b a b W (Ha.out.grow h) (Hb.out.grow h) s es fs hs hfs
  have ccd := fun W (h : Grow w W) => plus_b c d W (Hc.out.grow h) (Hd.out.grow h) t et ft ht hft
  have HS := Lib.hid (And.intro hs hfs)
  have HT := Lib.hid (And.intro ht hft)
  have J := Lib.hid (fun (p q : S) (g1 g2 g3 : Nat) W (h : Grow w W) (hp : In W p) (hq : In W q) B1 B2 B3 z e f hz hf => bil1_b l r x p q g1 g2 g3 W hll hlr (hl.grow h) (hr.grow h) (hx.grow h) hp hq B1 B2 B3 z e f hz hf)
  clear hl hr hx ha hb hc hd hs ht hfs hft
  unfold E.val
  go_enter Try.func3, Try.ntmps3
  go_upto_region 1 with fail
  refine wp_forget (fun X => Blk X w.heap.size 22 #[.slice l.A l.xs.length l.cap] ∧ Blk X (w.heap.size + 1) 22 #[.slice r.A r.xs.length r.cap] ∧ Blk X (w.heap.size + 2) 27 (exCells x) ∧ Grow w X) ⟨(Blk.new _ _ _).grow (((Grow.refl _).al _).al _), (Blk.new' _ _ _ (by simp)).grow ((Grow.refl _).al _), Blk.new' _ _ _ (by simp), (((Grow.refl _).al _).al _).al _⟩ ?_
  generalize w.heap.size + 2 = g3
  generalize w.heap.size + 1 = g2
  generalize w.heap.size = g1
  rintro X ⟨B1, B2, B3, G⟩
  have BB := Lib.hid (And.intro B1 (And.intro B2 B3))
  clear B1 B2 B3
  go_upto_region 5 with (first
    | (go_at_call 8; ((with_reducible refine (alive4 _).mono ?_); rintro e w2 ⟨rfl, hg2⟩))
    | (go_at_call 9; ((with_reducible refine (cab _ (G.trans hg2)).mono ?_); rintro e w3 ⟨F3, l3, c3, rfl, hi3, hm3, hg3⟩; have I3 := Lib.hid hi3; have M3 := Lib.hid hm3; clear hi3 hm3))
    | (go_at_call 9; ((with_reducible refine (ccd _ (G.trans (hg2.trans hg3))).mono ?_); rintro e w4 ⟨F4, l4, c4, rfl, hi4, hm4, hg4⟩; have I4 := Lib.hid hi4; have M4 := Lib.hid hm4; clear hi4 hm4)))
  clear cab ccd
  have G4 := G.trans (hg2.trans (hg3.trans hg4))
  cases fs with
  | false =>
    go_wp2
    go_ret
    exact ret_bool (by simp) G4
  | true =>
  cases ft with
  | false =>
    go_wp2
    go_ret
    exact ret_bool (by simp) G4
  | true =>
  have Q1 := Lib.hid (BB.out.1.grow (hg2.trans (hg3.trans hg4)))
  have Q2 := Lib.hid (BB.out.2.1.grow (hg2.trans (hg3.trans hg4)))
  have Q3 := Lib.hid (BB.out.2.2.grow (hg2.trans (hg3.trans hg4)))
  clear BB
  obtain ⟨z, ez, hz⟩ : ∃ z e, joinZ l.xs r.xs x s t = (z, e) := ⟨_, _, rfl⟩
  obtain ⟨fz, hfz⟩ : ∃ f, decide (ez = 0) = f := ⟨_, rfl⟩
  obtain ⟨v1, ev1, hv1⟩ : ∃ z e, joinZ l.xs r.xs x a.z c.z = (z, e) := ⟨_, _, rfl⟩
  obtain ⟨fv1, hfv1⟩ : ∃ f, decide (ev1 = 0) = f := ⟨_, rfl⟩
  obtain ⟨v2, ev2, hv2⟩ : ∃ z e, joinZ l.xs r.xs x a.z d.z = (z, e) := ⟨_, _, rfl⟩
  obtain ⟨fv2, hfv2⟩ : ∃ f, decide (ev2 = 0) = f := ⟨_, rfl⟩
  obtain ⟨v3, ev3, hv3⟩ : ∃ z e, joinZ l.xs r.xs x b.z c.z = (z, e) := ⟨_, _, rfl⟩
  obtain ⟨fv3, hfv3⟩ : ∃ f, decide (ev3 = 0) = f := ⟨_, rfl⟩
  obtain ⟨v4, ev4, hv4⟩ : ∃ z e, joinZ l.xs r.xs x b.z d.z = (z, e) := ⟨_, _, rfl⟩
  obtain ⟨fv4, hfv4⟩ : ∃ f, decide (ev4 = 0) = f := ⟨_, rfl⟩
  have cz := fun W (h : Grow w4 W) => J.out ⟨F3, l3, c3⟩ ⟨F4, l4, c4⟩ g1 g2 g3 W (G4.trans h) (I3.out.grow (hg4.trans h)) (I4.out.grow h) (Q1.out.grow h) (Q2.out.grow h) (Q3.out.grow h) z ez fz (show joinZ l.xs r.xs x (S.z ⟨F3, l3, c3⟩) (S.z ⟨F4, l4, c4⟩) = (z, ez) from by rw [show S.z ⟨F3, l3, c3⟩ = s from M3.out, show S.z ⟨F4, l4, c4⟩ = t from M4.out]; exact hz) hfz
  have cv1 := fun W (h : Grow w4 W) => J.out a c g1 g2 g3 W (G4.trans h) (Ha.out.grow (G4.trans h)) (Hc.out.grow (G4.trans h)) (Q1.out.grow h) (Q2.out.grow h) (Q3.out.grow h) v1 ev1 fv1 hv1 hfv1
  have cv2 := fun W (h : Grow w4 W) => J.out a d g1 g2 g3 W (G4.trans h) (Ha.out.grow (G4.trans h)) (Hd.out.grow (G4.trans h)) (Q1.out.grow h) (Q2.out.grow h) (Q3.out.grow h) v2 ev2 fv2 hv2 hfv2
  have cv3 := fun W (h : Grow w4 W) => J.out b c g1 g2 g3 W (G4.trans h) (Hb.out.grow (G4.trans h)) (Hc.out.grow (G4.trans h)) (Q1.out.grow h) (Q2.out.grow h) (Q3.out.grow h) v3 ev3 fv3 hv3 hfv3
  have cv4 := fun W (h : Grow w4 W) => J.out b d g1 g2 g3 W (G4.trans h) (Hb.out.grow (G4.trans h)) (Hd.out.grow (G4.trans h)) (Q1.out.grow h) (Q2.out.grow h) (Q3.out.grow h) v4 ev4 fv4 hv4 hfv4
  have Hz := Lib.hid (And.intro hz hfz)
  have Hv1 := Lib.hid (And.intro hv1 hfv1)
  have Hv2 := Lib.hid (And.intro hv2 hfv2)
  have Hv3 := Lib.hid (And.intro hv3 hfv3)
  have Hv4 := Lib.hid (And.intro hv4 hfv4)
  clear hz hfz hv1 hfv1 hv2 hfv2 hv3 hfv3 hv4 hfv4
  go_upto_region 13 with (first
    | (go_at_call 10; ((with_reducible refine (cz _ (Grow.refl _)).mono ?_); rintro e w5 ⟨F5, l5, c5, rfl, hi5, hm5, hg5⟩; have I5 := Lib.hid hi5; have M5 := Lib.hid hm5; clear hi5 hm5))
    | (go_at_call 10; ((with_reducible refine (cv1 _ hg5).mono ?_); rintro e w6 ⟨F6, l6, c6, rfl, hi6, hm6, hg6⟩; have I6 := Lib.hid hi6; have M6 := Lib.hid hm6; clear hi6 hm6))
    | (go_at_call 10; ((with_reducible refine (cv2 _ (hg5.trans (hg6))).mono ?_); rintro e w7 ⟨F7, l7, c7, rfl, hi7, hm7, hg7⟩; have I7 := Lib.hid hi7; have M7 := Lib.hid hm7; clear hi7 hm7))
    | (go_at_call 10; ((with_reducible refine (cv3 _ (hg5.trans (hg6.trans (hg7)))).mono ?_); rintro e w8 ⟨F8, l8, c8, rfl, hi8, hm8, hg8⟩; have I8 := Lib.hid hi8; have M8 := Lib.hid hm8; clear hi8 hm8))
    | (go_at_call 10; ((with_reducible refine (cv4 _ (hg5.trans (hg6.trans (hg7.trans (hg8))))).mono ?_); rintro e w9 ⟨F9, l9, c9, rfl, hi9, hm9, hg9⟩; have I9 := Lib.hid hi9; have M9 := Lib.hid hm9; clear hi9 hm9)))
  clear cz cv1 cv2 cv3 cv4
  have G9 := G4.trans (hg5.trans (hg6.trans (hg7.trans (hg8.trans hg9))))
  cases fz with
  | false =>
    go_wp2
    go_ret
    exact ret_bool (by simp) G9
  | true =>
  cases fv1 with
  | false =>
    go_wp2
    go_ret
    exact ret_bool (by simp) G9
  | true =>
  cases fv2 with
  | false =>
    go_wp2
    go_ret
    exact ret_bool (by simp) G9
  | true =>
  cases fv3 with
  | false =>
    go_wp2
    go_ret
    exact ret_bool (by simp) G9
  | true =>
  cases fv4 with
  | false =>
    go_wp2
    go_ret
    exact ret_bool (by simp) G9
  | true =>
  go_upto_region 16 with fail
  refine wp_forget (fun Y => Blk Y w9.heap.size 28 #[.slice F6 l6.length c6, .slice F7 l7.length c7, .slice F8 l8.length c8, .slice F9 l9.length c9] ∧ Grow w9 Y) ⟨Blk.new _ _ _, (Grow.refl _).al _⟩ ?_
  generalize w9.heap.size = gY
  rintro Y ⟨By, Gy⟩
  have BY := Lib.hid By
  clear By
  have GY := Lib.hid (G9.trans Gy)
  have ss : ∀ k, k < 4 → ∃ (q : S) (zq : List Z), [v1, v2, v3, v4][k]? = some zq ∧ q.z = zq ∧ (∀ W, Grow Y W → W.cell? ⟨gY, k, none⟩ = some (.slice q.A q.xs.length q.cap)) ∧ In Y q := by
    intro k hk
    have hk4 : k = 0 ∨ k = 1 ∨ k = 2 ∨ k = 3 := by omega
    rcases hk4 with rfl | rfl | rfl | rfl
    · exact ⟨⟨F6, l6, c6⟩, v1, rfl, M6.out, fun W hW => by rw [(BY.out.grow hW).cell]; rfl, I6.out.grow (hg7.trans (hg8.trans (hg9.trans Gy)))⟩
    · exact ⟨⟨F7, l7, c7⟩, v2, rfl, M7.out, fun W hW => by rw [(BY.out.grow hW).cell]; rfl, I7.out.grow (hg8.trans (hg9.trans Gy))⟩
    · exact ⟨⟨F8, l8, c8⟩, v3, rfl, M8.out, fun W hW => by rw [(BY.out.grow hW).cell]; rfl, I8.out.grow (hg9.trans Gy)⟩
    · exact ⟨⟨F9, l9, c9⟩, v4, rfl, M9.out, fun W hW => by rw [(BY.out.grow hW).cell]; rfl, I9.out.grow Gy⟩
  have SS := Lib.hid ss
  have I5' := Lib.hid (I5.out.grow (hg6.trans (hg7.trans (hg8.trans (hg9.trans Gy)))))
  clear ss
  go_wp2
  go_loopw [16, 30, 114] (fun o sm i wr => ∃ (k : Nat) (T : S), k ≤ 4 ∧ i = .int .i64 k ∧ sm = .slice T.A T.xs.length T.cap ∧ In wr T ∧ foldP [] ([v1, v2, v3, v4].take k) T.z ∧ Grow Y wr) (fun _ _ i _ => 4 - (intOf i).toNat)
  case atStart => exact ⟨0, ⟨none, [], 0⟩, by omega, rfl, rfl, in_nil0 _, rfl, Grow.refl _⟩
  case round =>
    obtain ⟨k, T, hk, rfl, rfl, hT, hf, hg⟩ := hrel
    rename World => wr
    have HT2 := Lib.hid hT
    have HF := Lib.hid hf
    clear hT hf
    by_cases hlt : k < 4
    · obtain ⟨q, zq, hzq, eq, cell, hq⟩ := SS.out k hlt
      have c1 := cell wr hg
      have HQ := Lib.hid (And.intro hzq eq)
      obtain ⟨m, em, hm⟩ : ∃ z e, bothZ T.z q.z 1 = (z, e) := ⟨_, _, rfl⟩
      obtain ⟨fm, hfm⟩ : ∃ f, decide (em = 0) = f := ⟨_, rfl⟩
      have cp := fun W (h : Grow wr W) => plus_b T q W (HT2.out.grow h) (hq.grow (hg.trans h)) m em fm hm hfm
      have HM := Lib.hid (And.intro hm hfm)
      clear hzq eq cell hm hfm hq
      cases fm with
      | false =>
        go_wp2_with (go_at_call 9; ((with_reducible refine (cp _ (Grow.refl _)).mono ?_); rintro e w10 ⟨F10, l10, c10, rfl, hi10, hm10, hg10⟩; clear hi10 hm10))
        go_ret
        exact ret_bool (by simp) (GY.out.trans (hg.trans hg10))
      | true =>
        go_wp2_with (go_at_call 9; ((with_reducible refine (cp _ (Grow.refl _)).mono ?_); rintro e w10 ⟨F10, l10, c10, rfl, hi10, hm10, hg10⟩; have I10 := Lib.hid hi10; have M10 := Lib.hid hm10; clear hi10 hm10))
        go_roundw
        case rel =>
          refine ⟨k + 1, ⟨F10, l10, c10⟩, by omega, by go_num, rfl, I10.out, ?_, hg.trans hg10⟩
          have em0 := flag_zero HM.out.2 rfl
          have hb := HM.out.1
          rw [em0] at hb
          obtain ⟨h1, e1⟩ := List.getElem?_eq_some_iff.1 HQ.out.1
          rw [List.take_succ_eq_append_getElem h1, e1]
          refine foldP_snoc HF.out ?_
          rw [show S.z ⟨F10, l10, c10⟩ = m from M10.out, ← HQ.out.2]
          exact hb
        case measure => simp [intOf]; omega
    · obtain rfl : k = 4 := by omega
      have efin : z = T.z := by
        obtain ⟨m1, h1, m2, h2, m3, h3, m4, h4, e4⟩ := HF.out
        rw [← e4]
        have zz : ∀ {n : List Z} {e : Int} {p q : List Z}, joinZ l.xs r.xs x p q = (n, e) ∧ decide (e = 0) = true → joinZ l.xs r.xs x p q = (n, 0) := fun h => by rw [h.1, flag_zero h.2 rfl]
        have yy : ∀ {n : List Z} {e : Int} {p q : List Z}, bothZ p q 1 = (n, e) ∧ decide (e = 0) = true → bothZ p q 1 = (n, 0) := fun h => by rw [h.1, flag_zero h.2 rfl]
        exact bilin (yy HS.out) (yy HT.out) (zz Hz.out) (zz Hv1.out) (zz Hv2.out) (zz Hv3.out) (zz Hv4.out) h1 h2 h3 h4
      have sm := fun W (h : Grow wr W) => same_in ⟨F5, l5, c5⟩ T W (I5'.out.grow (hg.trans h)) (HT2.out.grow h) (by exact M5.out.trans efin)
      go_wp2_with (go_at_call 12; ((with_reducible refine (sm _ (Grow.refl _)).mono ?_); rintro e1 w8 ⟨rfl, hg8⟩))
      go_ret
      exact ret_bool (by simp) (GY.out.trans (hg.trans hg8))
end Go.Proofs.Ytpdimihojeonhaa
