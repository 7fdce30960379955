/-
  A text of the proof of the law StreamsUndo; no condition beside the row's own.
-/
import Derived.Test.YtjhcbehnopmnpaaGN
import Derived.Test.YtjhcbehnopmnpaaGP
/-
  Chapter 8's one, alive, bare; the law StreamsUndo, walked.
-/
namespace Go.Proofs.Ytjhcbehnopmnpaa
open Go.RowKit Go.Calm
set_option linter.unusedSimpArgs false
set_option linter.unusedVariables false

set_option maxRecDepth 100000 in
theorem one8_any (n m : Int) (w : World) : Calls Try.prog 133 #[.int .i64 n, .int .i64 m] w fun e w' => ∃ g g', e = .returned (.slice (some ⟨g, 0, none⟩) 1 1) ∧ DB w' g [⟨some ⟨g', 0, none⟩, [nV n], 1, m⟩] ∧ DV w' g' [nV n] ∧ Grow w w' := by
  go_enter Try.func133, Try.ntmps133
  go_wp2
  go_ret
  refine ⟨_, w.heap.size, rfl, ?_, ?_, ((Grow.refl w).al _).al _⟩
  · have h := Blk.new (w.alloc (.cells #[.int .i64 3, .int .i64 n, .string ⟨#[]⟩] 29)) 71 #[.slice (some ⟨w.heap.size, 0, none⟩) 1 1, .int .i64 m]
    simp at h
    exact h
  · exact (Blk.new w 29 #[.int .i64 3, .int .i64 n, .string ⟨#[]⟩]).al _
theorem one8_in {w : World} {g g' : Nat} {n m : Int} (h1 : DB w g [⟨some ⟨g', 0, none⟩, [nV n], 1, m⟩]) (h2 : DV w g' [nV n]) : In w ⟨some ⟨g, 0, none⟩, [⟨some ⟨g', 0, none⟩, [nV n], 1, m⟩], 1⟩ :=
  ⟨zin_db h1 (fun x hx => by simp at hx; subst hx; exact h2.vsl), ⟨Nat.le_refl _, fun e => by cases e⟩, by show (1 : Nat) ≤ _; omega, fun x hx => by simp at hx; subst hx; simp⟩
theorem alive8_plain : alongZ Fi [[([nV 1], 1)], [([nV 1], 2)]] = ([[([nV 1], 1)], [([nV 1], 3)]], 0, 0) := by kernel_rfl
set_option maxRecDepth 100000 in
set_option maxHeartbeats 8000000 in
theorem alive8 (w : World) : Calls Try.prog 85 #[] w fun e w' => e = .returned (.bool true) ∧ Grow w w' := by
  have ci : ∀ (g1 h1 g2 h2 g : Nat) (W : World), DB W g1 [⟨some ⟨h1, 0, none⟩, [nV 1], 1, 1⟩] → DV W h1 [nV 1] → DB W g2 [⟨some ⟨h2, 0, none⟩, [nV 1], 1, 2⟩] → DV W h2 [nV 1] → Blk W g 62 #[.slice (some ⟨g1, 0, none⟩) 1 1, .slice (some ⟨g2, 0, none⟩) 1 1] → Calls Try.prog 86 #[.slice (some ⟨g, 0, none⟩) 2 2] W fun en w' => GivesL W w' en ([[([nV 1], 1)], [([nV 1], 3)]], 0, 0) := fun g1 h1 g2 h2 g W a b c d hb => by
    have ia := one8_in a b
    have ic := one8_in c d
    have hs : InS W (some ⟨g, 0, none⟩) [S.mk (some ⟨g1, 0, none⟩) [⟨some ⟨h1, 0, none⟩, [nV 1], 1, 1⟩] 1, S.mk (some ⟨g2, 0, none⟩) [⟨some ⟨h2, 0, none⟩, [nV 1], 1, 2⟩] 1] 2 := ⟨sin_two hb ia.z ic.z, fun s hs => by simp at hs; rcases hs with rfl | rfl; exact ia; exact ic, ⟨Nat.le_refl _, fun e => by cases e⟩, by simp⟩
    have h9 := sint_any _ _ _ W hs
    rw [← alive8_plain]
    exact h9
  go_enter Try.func85, Try.ntmps85
  have hbl : ∀ (g1 g2 : Nat) (W : World), Blk (W.alloc (.cells #[.slice (some ⟨g1, 0, none⟩) 1 1, .slice (some ⟨g2, 0, none⟩) 1 1] 62)) W.heap.size 62 #[.slice (some ⟨g1, 0, none⟩) 1 1, .slice (some ⟨g2, 0, none⟩) 1 1] := fun g1 g2 W => Blk.new _ _ _
  go_upto_region 2 with (first
    | (go_at_call 133; ((with_reducible refine (one8_any 1 1 _).mono ?_); rintro e w2 ⟨g1, h1, rfl, d1, v1, hg1⟩))
    | (go_at_call 133; ((with_reducible refine (one8_any 1 2 _).mono ?_); rintro e w3 ⟨g2, h2, rfl, d2, v2, hg2⟩))
    | (go_at_call 86; ((with_reducible refine (ci g1 h1 g2 h2 _ _ (d1.grow (hg2.al _)) (v1.grow (hg2.al _)) (d2.grow ((Grow.refl _).al _)) (v2.grow ((Grow.refl _).al _)) (hbl g1 g2 w3)).mono ?_); rintro e w4 ⟨B, ys, cap, rfl, hi, hm, hg4⟩)))
  refine wp_forget (fun X => Blk X w4.heap.size 81 #[.int .i64 0, .int .i64 0] ∧ Grow w X ∧ Grow w4 X) ⟨Blk.new _ _ _, ((((Grow.refl w).trans hg1).trans hg2).al (.cells #[.slice (some ⟨g1, 0, none⟩) 1 1, .slice (some ⟨g2, 0, none⟩) 1 1] 62) |>.trans hg4).al _, (Grow.refl _).al _⟩ ?_
  rintro X ⟨Bx, G, G4⟩
  obtain ⟨bx, fx⟩ := Bx.rules
  rcases ys with _ | ⟨y1, _ | ⟨y2, _ | ⟨y3, t⟩⟩⟩
  · simp at hm
  · simp at hm
  · simp only [List.map_cons, List.map_nil, List.cons.injEq, and_true] at hm
    obtain ⟨gB, oB, rfl, c1, hz⟩ := (hi.s.grow G4) 1 y2 rfl
    obtain ⟨A2, xs2, cp2⟩ := y2
    obtain ⟨x, rfl, hr, hw⟩ := map_one (show xs2.map zOf = _ from hm.2)
    obtain ⟨gy, oy, eA, k1, k2, _⟩ := hz 0 x rfl
    have eA : A2 = some ⟨gy, oy, none⟩ := eA
    subst eA
    rw [hw] at k2
    simp only [Nat.zero_mul, Nat.add_zero, List.length_singleton] at c1 k1 k2
    clear hz hi hm hr hw k1
    go_wp2
    go_ret
    exact ret_bool (by simp) G
  · simp at hm
set_option maxRecDepth 100000 in
set_option maxHeartbeats 8000000 in
theorem bare8_any (ss : List S) (A : Option Addr) (c : Nat) (w : World) (h : InS w A ss c) (hl : ss.length ≤ 30) (hw : ∀ s ∈ ss, wrongZ s.z = 0) :
    Calls Try.prog 89 #[.slice A ss.length c] w fun en w' => ∃ (B : Option Addr) (ts : List S) (cap : Nat), en = .returned (.slice B ts.length cap) ∧ InS w' B ts cap ∧ ts.map S.z = (ss.map S.z).map brZ ∧ Grow w w' := by
  have H := Lib.hid h
  have Hw := Lib.hid hw
  clear h hw
  go_enter Try.func89, Try.ntmps89
  go_wp2
  go_loopw [3, 10] (fun t i wr => ∃ (k : Nat) (outs : List S), k ≤ ss.length ∧ i = .int .i64 k ∧ OwnS wr w.heap.size t outs.length outs ∧ (∀ s ∈ outs, In wr s) ∧ outs.length ≤ k ∧ outs.map S.z = ((ss.take k).map S.z).map brZ ∧ Grow w wr) (fun _ i _ => ss.length - (intOf i).toNat)
  case atStart => exact ⟨0, [], Nat.zero_le _, rfl, OwnS.nil _ _, fun s hs => by simp at hs, Nat.le_refl _, rfl, Grow.refl _⟩
  case round =>
    obtain ⟨k, outs, hk, rfl, hown, hos, hol, hmap, hg⟩ := hrel
    have Own := Lib.hid hown
    have Os := Lib.hid hos
    have Map := Lib.hid hmap
    clear hown hos hmap
    by_cases hlt : k < ss.length
    · obtain ⟨s, hsk⟩ : ∃ s, ss[k]? = some s := ⟨_, List.getElem?_eq_getElem hlt⟩
      have hmem := List.mem_of_getElem? hsk
      obtain ⟨g, o, rfl, c1, _⟩ := (H.out.s.grow hg) k s hsk
      have is := (H.out.each s hmem).grow hg
      have ws := Hw.out s hmem
      have ca : Calls Try.prog 77 #[.slice s.A s.xs.length s.cap, .slice none 0 0] wr fun en w' => Gives wr w' en (brZ s.z, 0) := by
        have h9 := add_any s ⟨none, [], 0⟩ wr is (in_nil _)
        rw [← both_bare ws]
        exact h9
      have sb := Lib.hid (show smlZ (brZ s.z) from by have := each_sml2 (fun n => n) s.z; unfold eachZ at this; rw [if_neg (by rw [ws]; simp)] at this; exact this)
      have em : ((ss.take (k + 1)).map S.z).map brZ = ((ss.take k).map S.z).map brZ ++ [brZ s.z] := by
        rw [List.take_succ_eq_append_getElem hlt, (List.getElem?_eq_some_iff.1 hsk).2]; simp
      have Em := Lib.hid em
      clear hsk hmem is ws em
      go_wp2_with (first
        | (go_at_call 77; ((with_reducible refine ca.mono ?_); rintro e w3 ⟨D, ds, cap3, rfl, hz3, hm3, hk3, hg3⟩; have Y := Lib.hid (And.intro (show S.z (S.mk D ds cap3) = brZ s.z from hm3) (In.sml hz3 hk3 (by rw [hm3]; exact sb.out))); have Own3 := Lib.hid (Own.out.grow hg3); clear hz3 hm3 hk3))
        | (at_builtin; refine wpList_append_S rfl _ _ rfl w.heap.size _ outs.length outs rfl (Own3.out.grow ((Grow.refl _).al _)) _ (S.mk D ds cap3) rfl _ (Blk.new _ _ _) (by omega) (by have := (hg.trans hg3).size; simp; omega) ?_; intro v7 w7 own7 gr7))
      have G7 : Grow w w7 := grow_own ((hg.trans hg3).al _) gr7 (Own3.out.grow ((Grow.refl _).al _)).1
      have K7 : ∀ s, In w3 s → In w7 s := fun s h => In.gb (h.grow ((Grow.refl _).al _)) (Own3.out.grow ((Grow.refl _).al _)).2 gr7
      have K := Lib.hid K7
      have Own7 := Lib.hid own7
      clear own7 gr7 K7
      go_roundw
      case rel =>
        refine ⟨k + 1, outs ++ [S.mk D ds cap3], by omega, by go_num, by simpa using Own7.out, fun u hu => ?_, by simp; omega, ?_, G7⟩
        · rcases List.mem_append.1 hu with hu | hu
          · exact K.out _ ((Os.out u hu).grow hg3)
          · simp at hu; subst hu; exact K.out _ Y.out.2
        · rw [Em.out, List.map_append, Map.out, List.map_cons, List.map_nil, show S.z (S.mk D ds cap3) = brZ s.z from Y.out.1]
      case measure => simp [intOf]; omega
    · obtain rfl : k = ss.length := by omega
      obtain ⟨D, cap, rfl, hin⟩ := own_ins Own.out.1 Os.out (by omega)
      have Hin := Lib.hid hin
      have hm2 : outs.map S.z = (ss.map S.z).map brZ := by have := Map.out; rw [List.take_length] at this; exact this
      have Hm2 := Lib.hid hm2
      clear hin hm2
      go_wp2
      go_ret
      exact ⟨D, outs, cap, rfl, Hin.out, Hm2.out, hg⟩
set_option maxRecDepth 100000 in
set_option maxHeartbeats 32000000 in
theorem law_sundo (ss : List S) (A : Option Addr) (c : Nat) (w : World) (h : InS w A ss c) :
    Calls Try.prog 20 #[.slice A ss.length c] w fun en w' => en = .returned (.bool true) ∧ Grow w w' := by
  have H := Lib.hid h
  obtain ⟨L1, e1, a1, h1⟩ : ∃ L e a, alongZ Fi (ss.map S.z) = (L, e, a) := ⟨_, _, _, rfl⟩
  obtain ⟨L2, e2, a2, h2⟩ : ∃ L e a, alongZ Fd (ss.map S.z) = (L, e, a) := ⟨_, _, _, rfl⟩
  have c1 := fun W (hg : Grow w W) => sint_any ss A c W (H.out.grow hg)
  have c2 := fun W (hg : Grow w W) => sdif_any ss A c W (H.out.grow hg)
  rw [h1] at c1
  rw [h2] at c2
  have H1 := Lib.hid h1
  have H2 := Lib.hid h2
  clear h h1 h2
  go_enter Try.func20, Try.ntmps20
  go_upto_region 3 with (go_at_call 85; ((with_reducible refine (alive8 _).mono ?_); rintro e w2 ⟨rfl, hg2⟩))
  have G2 := Lib.hid hg2
  clear hg2
  go_upto_region 4 with (go_at_call 86; ((with_reducible refine (c1 _ G2.out).mono ?_); rintro e x1w ⟨B1, ds1, cp1, rfl, hi, hm, hgx⟩; have Y1 := Lib.hid (And.intro hi (And.intro hm hgx)); clear hi hm hgx))
  refine wp_forget (fun X => Blk X x1w.heap.size 81 #[.int .i64 e1, .int .i64 a1] ∧ Grow x1w X) ⟨Blk.new _ _ _, (Grow.refl _).al _⟩ ?_
  rintro X1 ⟨Bx1, Gx1⟩
  have K1 := Lib.hid (G2.out.trans (Y1.out.2.2.trans Gx1))
  have I1 := Lib.hid (Y1.out.1.grow Gx1)
  obtain ⟨bx1, fx1⟩ := Bx1.rules
  by_cases he1 : e1 = 0
  · subst he1
    have un := undo1 H1.out
    have wr := Lib.hid (along_ok H1.out).1
    have cc : Calls Try.prog 87 #[.slice B1 ds1.length cp1] X1 fun en w' => GivesL X1 w' en ((ss.map S.z).map brZ, 0, 0) := by
      have h9 := sdif_any ds1 B1 cp1 X1 I1.out
      rw [Y1.out.2.1, un] at h9
      exact h9
    have cr := fun W (hg : Grow w W) => bare8_any ss A c W (H.out.grow hg) (by simpa using wr.out.1) (fun s hs => wr.out.2 _ (List.mem_map_of_mem hs))
    clear un
    go_upto_region 6 with (go_at_call 87; ((with_reducible refine cc.mono ?_); rintro e y1w ⟨D1, es1, cq1, rfl, hi, hm, hgy⟩; have Z1 := Lib.hid (And.intro hi (And.intro hm hgy)); clear hi hm hgy))
    refine wp_forget (fun X => Blk X y1w.heap.size 81 #[.int .i64 0, .int .i64 0] ∧ Grow y1w X) ⟨Blk.new _ _ _, (Grow.refl _).al _⟩ ?_
    rintro V1 ⟨By1, Gy1⟩
    have M1 := Lib.hid (K1.out.trans (Z1.out.2.2.trans Gy1))
    have J1 := Lib.hid (Z1.out.1.grow Gy1)
    clear bx1 fx1
    obtain ⟨by1, fy1⟩ := By1.rules
    go_upto_region 8 with (first
      | (go_at_call 89; ((with_reducible refine (cr _ M1.out).mono ?_); rintro e z1w ⟨E1, fs1, cr1, rfl, hi, hm, hgz⟩; have W1 := Lib.hid (And.intro hi (And.intro hm hgz)); clear hi hm hgz))
      | (go_at_call 88; ((with_reducible refine (same7_any es1 fs1 D1 E1 cq1 cr1 z1w (J1.out.grow W1.out.2.2) W1.out.1 (Z1.out.2.1.trans W1.out.2.1.symm)).mono ?_); rintro e u1w ⟨rfl, hgu⟩; have P1 := Lib.hid (M1.out.trans (W1.out.2.2.trans hgu)); clear hgu)))
    clear by1 fy1
    go_upto_region 9 with (go_at_call 87; ((with_reducible refine (c2 _ P1.out).mono ?_); rintro e x2w ⟨B2, ds2, cp2, rfl, hi, hm, hgx⟩; have Y2 := Lib.hid (And.intro hi (And.intro hm hgx)); clear hi hm hgx))
    refine wp_forget (fun X => Blk X x2w.heap.size 81 #[.int .i64 e2, .int .i64 a2] ∧ Grow x2w X) ⟨Blk.new _ _ _, (Grow.refl _).al _⟩ ?_
    rintro X2 ⟨Bx2, Gx2⟩
    have K2 := Lib.hid (P1.out.trans (Y2.out.2.2.trans Gx2))
    have I2 := Lib.hid (Y2.out.1.grow Gx2)
    obtain ⟨bx2, fx2⟩ := Bx2.rules
    by_cases he2 : e2 = 0
    · subst he2
      have un := undo2 H2.out
      have wr := Lib.hid (along_ok H2.out).1
      have cc : Calls Try.prog 86 #[.slice B2 ds2.length cp2] X2 fun en w' => GivesL X2 w' en ((ss.map S.z).map brZ, 0, 0) := by
        have h9 := sint_any ds2 B2 cp2 X2 I2.out
        rw [Y2.out.2.1, un] at h9
        exact h9
      have cr := fun W (hg : Grow w W) => bare8_any ss A c W (H.out.grow hg) (by simpa using wr.out.1) (fun s hs => wr.out.2 _ (List.mem_map_of_mem hs))
      clear un
      go_upto_region 11 with (go_at_call 86; ((with_reducible refine cc.mono ?_); rintro e y2w ⟨D2, es2, cq2, rfl, hi, hm, hgy⟩; have Z2 := Lib.hid (And.intro hi (And.intro hm hgy)); clear hi hm hgy))
      refine wp_forget (fun X => Blk X y2w.heap.size 81 #[.int .i64 0, .int .i64 0] ∧ Grow y2w X) ⟨Blk.new _ _ _, (Grow.refl _).al _⟩ ?_
      rintro V2 ⟨By2, Gy2⟩
      have M2 := Lib.hid (K2.out.trans (Z2.out.2.2.trans Gy2))
      have J2 := Lib.hid (Z2.out.1.grow Gy2)
      clear bx2 fx2
      obtain ⟨by2, fy2⟩ := By2.rules
      go_wp2_with (first
        | (go_at_call 89; ((with_reducible refine (cr _ M2.out).mono ?_); rintro e z2w ⟨E2, fs2, cr2, rfl, hi, hm, hgz⟩; have W2 := Lib.hid (And.intro hi (And.intro hm hgz)); clear hi hm hgz))
        | (go_at_call 88; ((with_reducible refine (same7_any es2 fs2 D2 E2 cq2 cr2 z2w (J2.out.grow W2.out.2.2) W2.out.1 (Z2.out.2.1.trans W2.out.2.1.symm)).mono ?_); rintro e u2w ⟨rfl, hgu⟩; have P2 := Lib.hid (M2.out.trans (W2.out.2.2.trans hgu)); clear hgu)))
      clear by2 fy2
      go_ret
      exact ret_bool (by simp) P2.out
    · have de2 : (e2 == 0) = false := by simpa using he2
      go_wp2
      go_ret
      exact ret_bool (by simp) K2.out
  · have de1 : (e1 == 0) = false := by simpa using he1
    go_upto_region 8 with fail
    clear bx1 fx1
    go_upto_region 9 with (go_at_call 87; ((with_reducible refine (c2 _ K1.out).mono ?_); rintro e x2w ⟨B2, ds2, cp2, rfl, hi, hm, hgx⟩; have Y2 := Lib.hid (And.intro hi (And.intro hm hgx)); clear hi hm hgx))
    refine wp_forget (fun X => Blk X x2w.heap.size 81 #[.int .i64 e2, .int .i64 a2] ∧ Grow x2w X) ⟨Blk.new _ _ _, (Grow.refl _).al _⟩ ?_
    rintro X2 ⟨Bx2, Gx2⟩
    have K2 := Lib.hid (K1.out.trans (Y2.out.2.2.trans Gx2))
    have I2 := Lib.hid (Y2.out.1.grow Gx2)
    obtain ⟨bx2, fx2⟩ := Bx2.rules
    by_cases he2 : e2 = 0
    · subst he2
      have un := undo2 H2.out
      have wr := Lib.hid (along_ok H2.out).1
      have cc : Calls Try.prog 86 #[.slice B2 ds2.length cp2] X2 fun en w' => GivesL X2 w' en ((ss.map S.z).map brZ, 0, 0) := by
        have h9 := sint_any ds2 B2 cp2 X2 I2.out
        rw [Y2.out.2.1, un] at h9
        exact h9
      have cr := fun W (hg : Grow w W) => bare8_any ss A c W (H.out.grow hg) (by simpa using wr.out.1) (fun s hs => wr.out.2 _ (List.mem_map_of_mem hs))
      clear un
      go_upto_region 11 with (go_at_call 86; ((with_reducible refine cc.mono ?_); rintro e y2w ⟨D2, es2, cq2, rfl, hi, hm, hgy⟩; have Z2 := Lib.hid (And.intro hi (And.intro hm hgy)); clear hi hm hgy))
      refine wp_forget (fun X => Blk X y2w.heap.size 81 #[.int .i64 0, .int .i64 0] ∧ Grow y2w X) ⟨Blk.new _ _ _, (Grow.refl _).al _⟩ ?_
      rintro V2 ⟨By2, Gy2⟩
      have M2 := Lib.hid (K2.out.trans (Z2.out.2.2.trans Gy2))
      have J2 := Lib.hid (Z2.out.1.grow Gy2)
      clear bx2 fx2
      obtain ⟨by2, fy2⟩ := By2.rules
      go_wp2_with (first
        | (go_at_call 89; ((with_reducible refine (cr _ M2.out).mono ?_); rintro e z2w ⟨E2, fs2, cr2, rfl, hi, hm, hgz⟩; have W2 := Lib.hid (And.intro hi (And.intro hm hgz)); clear hi hm hgz))
        | (go_at_call 88; ((with_reducible refine (same7_any es2 fs2 D2 E2 cq2 cr2 z2w (J2.out.grow W2.out.2.2) W2.out.1 (Z2.out.2.1.trans W2.out.2.1.symm)).mono ?_); rintro e u2w ⟨rfl, hgu⟩; have P2 := Lib.hid (M2.out.trans (W2.out.2.2.trans hgu)); clear hgu)))
      clear by2 fy2
      go_ret
      exact ret_bool (by simp) P2.out
    · have de2 : (e2 == 0) = false := by simpa using he2
      go_wp2
      go_ret
      exact ret_bool (by simp) K2.out
end Go.Proofs.Ytjhcbehnopmnpaa
