/-
  A text of the proof of the law ZsetsPlaces; no condition beside the row's own.
-/
import Derived.Test.YtjhcbehnopmnpaaHLawZSmall
/-
  The law ZsetsPlaces, walked.
-/
namespace Go.Proofs.Ytjhcbehnopmnpaa
open Go.RowKit Go.Calm
set_option linter.unusedSimpArgs false
set_option linter.unusedVariables false

theorem small_two (a b : S) (g : Nat) (w : World) (t : TypeId) (h : Blk w g t #[.slice a.A a.xs.length a.cap, .slice b.A b.xs.length b.cap]) (ha : In w a) (hb : In w b) :
    Calls Try.prog 90 #[.slice (some ⟨g, 0, none⟩) 2 2] w fun en w' => en = .returned (.bool (smallZ a.z && smallZ b.z)) ∧ Grow w w' :=
  small_any [a, b] (some ⟨g, 0, none⟩) 2 w (by simp) (sin_two h ha.z hb.z) (fun s hs => by simp at hs; rcases hs with rfl | rfl; exact ha.ok; exact hb.ok) _ (by simp)
/-- what the law says of each row -/
structure Pl2 (a b s p d : List Z) : Prop where
  ra : wrongZ a = 0
  rb : wrongZ b = 0
  rs : wrongZ s = 0
  rp : wrongZ p = 0
  rd : wrongZ d = 0
  ws : ∀ q, wtZ s q = wtZ a q + wtZ b q
  wp : ∀ q, wtZ p q = posF (wtZ a q)
  wd : ∀ q, wtZ d q = disF (wtZ a q)
  bd : ∀ q, (-100000 ≤ wtZ a q ∧ wtZ a q ≤ 100000) ∧ (-100000 ≤ wtZ b q ∧ wtZ b q ≤ 100000)
theorem places_plain {a b : List Z} (h1 : smallZ a = true) (h2 : smallZ b = true) : ∃ s p d, bothZ a b 1 = (s, 0) ∧ eachZ posF a = (p, 0) ∧ eachZ disF a = (d, 0) ∧ Pl2 a b s p d := by
  have s1 := small_sm h1
  have s2 := small_sm h2
  obtain ⟨s, es, _, ss, ws⟩ := both_sm s1 s2 1 (.inl rfl) (by omega) (by omega) (by omega) (by omega)
  obtain ⟨p, ep, _, sp, wp⟩ := pos_sm s1 (by omega) (by omega) (by omega)
  obtain ⟨d, ed, _, sd, wd⟩ := dis_sm s1 (by omega) (by omega) (by omega)
  exact ⟨s, p, d, es, ep, ed, s1.rz (by omega) (by omega), s2.rz (by omega) (by omega), ss.rz (by omega) (by omega), sp.rz (by omega) (by omega), sd.rz (by omega) (by omega), fun q => by rw [ws]; omega, wp, wd, fun q => ⟨wt_bd (by omega) s1.rv s1.up s1.bd q, wt_bd (by omega) s2.rv s2.up s2.bd q⟩⟩
theorem weight_in (s : S) (r : List V) (Ar : Option Addr) (cr : Nat) (W : World) (h : In W s) (hw : wrongZ s.z = 0) (hr : VSl W Ar r) (hre : rowE r = 0) (n : Int) (hn : wtZ s.z r = n) :
    Calls Try.prog 72 #[.slice s.A s.xs.length s.cap, .slice Ar r.length cr] W fun en w' => en = .returned (.int .i64 n) ∧ Grow W w' := by
  rw [← hn]
  exact zweight_any s.xs s.A s.cap r Ar cr W h.z hw hr hre

/-- the rows that the law asks -/
def plL (a b : S) (Ar : Option Addr) (r : List V) (cr : Nat) : List I := a.xs ++ b.xs ++ [I.mk Ar r cr 0]
theorem plL_vs {a b : S} {Ar : Option Addr} {r : List V} {cr : Nat} {W : World} (ha : In W a) (hb : In W b) (hr : VSl W Ar r) : ∀ y ∈ plL a b Ar r cr, VSl W y.A y.row := fun y hy => by
  simp only [plL, List.mem_append, List.mem_singleton] at hy
  rcases hy with (hy | hy) | rfl
  · exact ha.z.vsl y hy
  · exact hb.z.vsl y hy
  · exact hr
theorem plL_row {a b : S} {Ar : Option Addr} {r : List V} {cr : Nat} (ha : wrongZ a.z = 0) (hb : wrongZ b.z = 0) (hr : rowE r = 0) : ∀ y ∈ plL a b Ar r cr, rowE y.row = 0 := fun y hy => by
  simp only [plL, List.mem_append, List.mem_singleton] at hy
  obtain ⟨_, a2, a3, _⟩ := S.facts ha
  obtain ⟨_, b2, b3, _⟩ := S.facts hb
  rcases hy with (hy | hy) | rfl
  · exact (rowE_zero _).2 ⟨a2 y hy, a3 y hy⟩
  · exact (rowE_zero _).2 ⟨b2 y hy, b3 y hy⟩
  · exact hr
set_option maxRecDepth 100000 in
set_option maxHeartbeats 32000000 in
theorem law_zplaces (a b : S) (r : List V) (Ar : Option Addr) (cr : Nat) (w : World) (ha : In w a) (hb : In w b) (hr : VSl w Ar r) (hl : r.length ≤ 9223372036854775807) :
    Calls Try.prog 21 #[.slice a.A a.xs.length a.cap, .slice b.A b.xs.length b.cap, .slice Ar r.length cr] w fun en w' => en = .returned (.bool true) ∧ Grow w w' := by
  have Ha := Lib.hid ha
  have Hb := Lib.hid hb
  have Hr := Lib.hid hr
  clear ha hb hr
  obtain ⟨M, hM⟩ : ∃ M, (smallZ a.z && smallZ b.z) = M := ⟨_, rfl⟩
  obtain ⟨F, hF⟩ : ∃ F, rowE r = F := ⟨_, rfl⟩
  have cm := fun g W (h1 : Blk W g 62 #[.slice a.A a.xs.length a.cap, .slice b.A b.xs.length b.cap]) (hg : Grow w W) => small_two a b g W _ h1 (Ha.out.grow hg) (Hb.out.grow hg)
  have cf := fun W (h : Grow w W) => rrow_any r Ar cr W hl (Hr.out.grow h) F hF
  rw [hM] at cm
  have HM := Lib.hid hM
  have HF := Lib.hid hF
  clear hM hF
  go_enter Try.func21, Try.ntmps21
  go_upto_region 3 with (go_at_call 74; ((with_reducible refine (zalive _).mono ?_); rintro e1 w2 ⟨rfl, hg2⟩))
  cases M with
  | false =>
    go_wp2_with (go_at_call 90; ((with_reducible refine (cm _ _ (Blk.new _ _ _) (hg2.al _)).mono ?_); rintro e1 w3 ⟨rfl, hg3⟩))
    go_ret
    exact ret_bool (by simp) ((hg2.al _).trans hg3)
  | true =>
    by_cases h1 : F = 0
    · have d1 : (F != 0) = false := by simpa using h1
      have hsm := HM.out
      simp only [Bool.and_eq_true] at hsm
      obtain ⟨s, p, d, es, ep, ed, pl⟩ := places_plain hsm.1 hsm.2
      have Pl := Lib.hid pl
      have ss := Lib.hid (show smlZ s by have := both_sml a.z b.z 1; rw [es] at this; exact this)
      have sp := Lib.hid (show smlZ p by have := each_sml2 posF a.z; rw [ep] at this; exact this)
      have sd := Lib.hid (show smlZ d by have := each_sml2 disF a.z; rw [ed] at this; exact this)
      have c1 := fun W (h : Grow w W) => add_any a b W (Ha.out.grow h) (Hb.out.grow h)
      have c2 := fun W (h : Grow w W) => pos_any a W (Ha.out.grow h)
      have c3 := fun W (h : Grow w W) => dis_any a W (Ha.out.grow h)
      rw [es] at c1
      rw [ep] at c2
      rw [ed] at c3
      clear hsm es ep ed pl
      go_upto_region 5 with (first
        | (go_at_call 90; ((with_reducible refine (cm _ _ (Blk.new _ _ _) (hg2.al _)).mono ?_); rintro e1 w3 ⟨rfl, hg3⟩))
        | (go_at_call 71; ((with_reducible refine (cf _ ((hg2.al _).trans hg3)).mono ?_); rintro e1 w4 ⟨rfl, hg4⟩)))
      have G4 := ((hg2.al (.cells #[.slice a.A a.xs.length a.cap, .slice b.A b.xs.length b.cap] 62)).trans hg3).trans hg4
      go_upto_region 8 with (first
        | (go_at_call 77; ((with_reducible refine (c1 _ G4).mono ?_); rintro e1 w5 ⟨B5, ys5, cap5, rfl, hz, hm, hk, hg5⟩; have X5 := Lib.hid (And.intro (In.sml hz hk (by rw [hm]; exact ss.out)) hm); clear hz hm hk))
        | (go_at_call 76; ((with_reducible refine (c2 _ (G4.trans hg5)).mono ?_); rintro e1 w6 ⟨B6, ys6, cap6, rfl, hz, hm, hk, hg6⟩; have X6 := Lib.hid (And.intro (In.sml hz hk (by rw [hm]; exact sp.out)) hm); clear hz hm hk))
        | (go_at_call 75; ((with_reducible refine (c3 _ ((G4.trans hg5).trans hg6)).mono ?_); rintro e1 w7 ⟨B7, ys7, cap7, rfl, hz, hm, hk, hg7⟩; have X7 := Lib.hid (And.intro (In.sml hz hk (by rw [hm]; exact sd.out)) hm); clear hz hm hk)))
      have G7 := ((G4.trans hg5).trans hg6).trans hg7
      have i5 := Lib.hid (X5.out.1.grow (hg6.trans hg7))
      have i6 := Lib.hid (X6.out.1.grow hg7)
      have i7 := Lib.hid X7.out.1
      have k5 := fun W (h : Grow w7 W) => wrongz_any ys5 B5 cap5 W i5.out.ok.1 (i5.out.z.grow h) i5.out.ok.2 0 (by rw [X5.out.2]; exact Pl.out.rs)
      have k6 := fun W (h : Grow w7 W) => wrongz_any ys6 B6 cap6 W i6.out.ok.1 (i6.out.z.grow h) i6.out.ok.2 0 (by rw [X6.out.2]; exact Pl.out.rp)
      have k7 := fun W (h : Grow w7 W) => wrongz_any ys7 B7 cap7 W i7.out.ok.1 (i7.out.z.grow h) i7.out.ok.2 0 (by rw [X7.out.2]; exact Pl.out.rd)
      go_upto_region 10 with (first
        | (go_at_call 66; ((with_reducible refine (k5 _ (Grow.refl _)).mono ?_); rintro e1 w8 ⟨rfl, hg8⟩))
        | (go_at_call 66; ((with_reducible refine (k6 _ hg8).mono ?_); rintro e1 w9 ⟨rfl, hg9⟩))
        | (go_at_call 66; ((with_reducible refine (k7 _ (hg8.trans hg9)).mono ?_); rintro e1 w10 ⟨rfl, hg10⟩)))
      have G10' := (hg8.trans hg9).trans hg10
      have G10 := G7.trans G10'
      have j5 := Lib.hid (i5.out.grow G10')
      have j6 := Lib.hid (i6.out.grow G10')
      have j7 := Lib.hid (i7.out.grow G10')
      have sa := Lib.hid (src_all (Ha.out.grow G10).sl (Ha.out.grow G10).z)
      have sb := Lib.hid (src_all (Hb.out.grow G10).sl (Hb.out.grow G10).z)
      obtain ⟨la, _⟩ := S.facts Pl.out.ra
      obtain ⟨lb, _⟩ := S.facts Pl.out.rb
      clear c1 c2 c3 k5 k6 k7 cm cf
      go_upto_region 11 with (first
        | (at_builtin; refine wpList_append_src rfl _ _ rfl w10.heap.size _ 0 [] rfl (World.ownsRow_made _ _ 0 (Nat.le_refl _) (by unfold maxLen; omega) (by simp)) _ a.xs rfl (sa.out.grow ((Grow.refl _).al _)) (by omega) (by simp) ?_; intro v8 w11 own8 gr8)
        | (at_builtin; refine wpList_append_src rfl _ _ rfl w10.heap.size _ _ _ rfl own8 _ b.xs rfl (sb.out.grow (grow_own ((Grow.refl w10).al _) gr8 (World.ownsRow_made (e := 71) (size := 2) _ #[] 0 (Nat.le_refl _) (by unfold maxLen; omega) (by simp)))) (by omega) (by have := gr8.size; simp at this; omega) ?_; intro v9 w12 own9 gr9)
        | (at_builtin; refine wpList_append_src rfl _ _ rfl w10.heap.size _ _ _ rfl (own9.alloc _) _ [I.mk Ar r cr 0] rfl (src_one rfl (Blk.new _ _ _)) (by simp; omega) (by have h1 := gr8.size; have h2 := gr9.size; simp at h1 ⊢; omega) ?_; intro v10 w13 own10 gr10; have q8 : Grow w10 w11 := grow_own ((Grow.refl w10).al _) gr8 (World.ownsRow_made (e := 71) (size := 2) _ #[] 0 (Nat.le_refl _) (by unfold maxLen; omega) (by simp)); have q9 : Grow w10 w12 := grow_own q8 gr9 own8; have q10 : Grow w10 w13 := grow_own (q9.al _) gr10 (own9.alloc _); obtain ⟨BL, capL, rfl, hzL, hkL⟩ := own_zin2 (ys := plL a b Ar r cr) own10 (plL_vs (Ha.out.grow (G10.trans q10)) (Hb.out.grow (G10.trans q10)) (Hr.out.grow (G10.trans q10))); have ZL := Lib.hid hzL; clear hzL hkL own8 own9 own10 gr8 gr9 gr10 q8 q9))
      have hLlen : (plL a b Ar r cr).length ≤ 10000 := by simp [plL]; omega
      have LR := Lib.hid (plL_row (Ar := Ar) (r := r) (cr := cr) Pl.out.ra Pl.out.rb (HF.out.trans h1))
      obtain ⟨LL, hLL⟩ : ∃ LL, plL a b Ar r cr = LL := ⟨_, rfl⟩
      rw [hLL] at ZL LR hLlen ⊢
      clear hLL
      go_wp2
      go_loopw [80] (fun i wr => ∃ k : Nat, k ≤ LL.length ∧ i = .int .i64 k ∧ Grow w13 wr) (fun i _ => LL.length - (intOf i).toNat)
      case atStart => exact ⟨0, Nat.zero_le _, rfl, Grow.refl _⟩
      case round =>
        obtain ⟨k, hk, rfl, hgL⟩ := hrel
        by_cases hlt : k < LL.length
        · obtain ⟨x, hxk⟩ : ∃ x, LL[k]? = some x := ⟨_, List.getElem?_eq_getElem hlt⟩
          obtain ⟨gx, ox, rfl, c1, c2, hxv⟩ := (ZL.out.grow hgL) k x hxk
          have hre := LR.out x (List.mem_of_getElem? hxk)
          obtain ⟨n, hn⟩ : ∃ n, wtZ a.z x.row = n := ⟨_, rfl⟩
          obtain ⟨m, hm⟩ : ∃ m, wtZ b.z x.row = m := ⟨_, rfl⟩
          have hbd := Pl.out.bd x.row
          rw [hn, hm] at hbd
          have hwp : IntKind.i64.wrap (n + m) = n + m := by rw [IntKind.wrap_i64]; omega
          have Hn := Lib.hid hn
          have Hm := Lib.hid hm
          clear hxk hn hm
          go_upto_region 13 with fail
          refine wp_forget (fun X => Blk X wr.heap.size 71 #[.slice x.A x.row.length x.cap, .int .i64 x.w] ∧ Grow wr X) ⟨Blk.new _ _ _, (Grow.refl wr).al _⟩ ?_
          rintro X ⟨Bx, G⟩
          have GX : Grow w X := (G10.trans q10).trans (hgL.trans G)
          have Hxv := Lib.hid (hxv.grow G)
          have y5 := Lib.hid (j5.out.grow (q10.trans (hgL.trans G)))
          have y6 := Lib.hid (j6.out.grow (q10.trans (hgL.trans G)))
          have y7 := Lib.hid (j7.out.grow (q10.trans (hgL.trans G)))
          have ea := fun W (h : Grow X W) => weight_in a x.row x.A x.cap W (Ha.out.grow (GX.trans h)) Pl.out.ra (Hxv.out.grow h) hre n Hn.out
          have eb := fun W (h : Grow X W) => weight_in b x.row x.A x.cap W (Hb.out.grow (GX.trans h)) Pl.out.rb (Hxv.out.grow h) hre m Hm.out
          have e5 := fun W (h : Grow X W) => weight_in ⟨B5, ys5, cap5⟩ x.row x.A x.cap W (y5.out.grow h) (by rw [show S.z ⟨B5, ys5, cap5⟩ = _ from X5.out.2]; exact Pl.out.rs) (Hxv.out.grow h) hre (n + m) (by rw [show S.z ⟨B5, ys5, cap5⟩ = _ from X5.out.2, Pl.out.ws, Hn.out, Hm.out])
          obtain ⟨bx, fx⟩ := Bx.rules
          clear hxv
          go_upto_region 14 with (go_at_call 72; ((with_reducible refine (ea _ (Grow.refl _)).mono ?_); rintro e1 wa ⟨rfl, hga⟩))
          apply wp_region_calm 11 (by kernel_rfl) (by kernel_rfl)
          case h' =>
            intro Q0 hQ0
            simp only [List.take_succ_cons, List.take_zero]
            repeat (
              first
                | (apply calm_p rfl; case h1 => (intro w1 hw1 hF K hK; obtain ⟨bx, fx⟩ := (Blk.grow Bx (hga.trans hw1)).rules; go_simp; first | exact hK _ (Grow.refl _) | (go_at_call 72; ((with_reducible refine (e5 _ (hga.trans hw1)).mono ?_); rintro e w' ⟨rfl, hg⟩; exact ⟨_, rfl, hK _ hg⟩)) | (go_at_call 72; ((with_reducible refine (eb _ (hga.trans hw1)).mono ?_); rintro e w' ⟨rfl, hg⟩; exact ⟨_, rfl, hK _ hg⟩))))
                | (apply calm_y rfl rfl rfl; case h1 => (intro w1 hw1 hF K hK; obtain ⟨bx, fx⟩ := (Blk.grow Bx (hga.trans hw1)).rules; go_simp; first | exact hK _ (Grow.refl _) | (go_at_call 72; ((with_reducible refine (e5 _ (hga.trans hw1)).mono ?_); rintro e w' ⟨rfl, hg⟩; exact ⟨_, rfl, hK _ hg⟩)) | (go_at_call 72; ((with_reducible refine (eb _ (hga.trans hw1)).mono ?_); rintro e w' ⟨rfl, hg⟩; exact ⟨_, rfl, hK _ hg⟩))))
                | apply calm_n rfl rfl rfl rfl
              intro K hK
              go_simp
              apply hK
              clear hK K)
            refine calm_nil ?_
            intro w1 hw1 hF
            apply hQ0
            clear hQ0
            simp only [List.drop_succ_cons, List.drop_zero]
            clear hF
            have K4 := hga.trans hw1
            clear bx fx
            by_cases hneg : n < 0
            · have dn : decide (n < 0) = true := decide_eq_true hneg
              have e6 := fun W (h : Grow X W) => weight_in ⟨B6, ys6, cap6⟩ x.row x.A x.cap W (y6.out.grow h) (by rw [show S.z ⟨B6, ys6, cap6⟩ = _ from X6.out.2]; exact Pl.out.rp) (Hxv.out.grow h) hre (0) (by rw [show S.z ⟨B6, ys6, cap6⟩ = _ from X6.out.2, Pl.out.wp, Hn.out]; unfold posF; rw [if_pos hneg])
              have e7 := fun W (h : Grow X W) => weight_in ⟨B7, ys7, cap7⟩ x.row x.A x.cap W (y7.out.grow h) (by rw [show S.z ⟨B7, ys7, cap7⟩ = _ from X7.out.2]; exact Pl.out.rd) (Hxv.out.grow h) hre (0) (by rw [show S.z ⟨B7, ys7, cap7⟩ = _ from X7.out.2, Pl.out.wd, Hn.out]; unfold disF; rw [if_neg (by omega)])
              go_upto_region 21 with fail
              obtain ⟨bx5, fx5⟩ := (Bx.grow K4).rules
              go_wp2_with (first
                | (go_at_call 72; ((with_reducible refine (e6 _ K4).mono ?_); rintro e1 wp ⟨rfl, hgp⟩; obtain ⟨bx6, fx6⟩ := (Bx.grow (K4.trans hgp)).rules))
                | (go_at_call 72; ((with_reducible refine (e7 _ (K4.trans hgp)).mono ?_); rintro e1 wq ⟨rfl, hgq⟩)))
              go_roundw
              case rel => exact ⟨k + 1, by omega, by go_num, hgL.trans (G.trans ((K4.trans hgp).trans hgq))⟩
              case measure => simp [intOf]; omega
            · have dn : decide (n < 0) = false := decide_eq_false hneg
              by_cases hpos : 0 < n
              · have dp : decide (0 < n) = true := decide_eq_true hpos
                have e6 := fun W (h : Grow X W) => weight_in ⟨B6, ys6, cap6⟩ x.row x.A x.cap W (y6.out.grow h) (by rw [show S.z ⟨B6, ys6, cap6⟩ = _ from X6.out.2]; exact Pl.out.rp) (Hxv.out.grow h) hre (n) (by rw [show S.z ⟨B6, ys6, cap6⟩ = _ from X6.out.2, Pl.out.wp, Hn.out]; unfold posF; rw [if_neg hneg])
                have e7 := fun W (h : Grow X W) => weight_in ⟨B7, ys7, cap7⟩ x.row x.A x.cap W (y7.out.grow h) (by rw [show S.z ⟨B7, ys7, cap7⟩ = _ from X7.out.2]; exact Pl.out.rd) (Hxv.out.grow h) hre (1) (by rw [show S.z ⟨B7, ys7, cap7⟩ = _ from X7.out.2, Pl.out.wd, Hn.out]; unfold disF; rw [if_pos hpos])
                go_upto_region 21 with fail
                obtain ⟨bx5, fx5⟩ := (Bx.grow K4).rules
                go_wp2_with (first
                  | (go_at_call 72; ((with_reducible refine (e6 _ K4).mono ?_); rintro e1 wp ⟨rfl, hgp⟩; obtain ⟨bx6, fx6⟩ := (Bx.grow (K4.trans hgp)).rules))
                  | (go_at_call 72; ((with_reducible refine (e7 _ (K4.trans hgp)).mono ?_); rintro e1 wq ⟨rfl, hgq⟩)))
                go_roundw
                case rel => exact ⟨k + 1, by omega, by go_num, hgL.trans (G.trans ((K4.trans hgp).trans hgq))⟩
                case measure => simp [intOf]; omega
              · have dp : decide (0 < n) = false := decide_eq_false hpos
                have e6 := fun W (h : Grow X W) => weight_in ⟨B6, ys6, cap6⟩ x.row x.A x.cap W (y6.out.grow h) (by rw [show S.z ⟨B6, ys6, cap6⟩ = _ from X6.out.2]; exact Pl.out.rp) (Hxv.out.grow h) hre (n) (by rw [show S.z ⟨B6, ys6, cap6⟩ = _ from X6.out.2, Pl.out.wp, Hn.out]; unfold posF; rw [if_neg hneg])
                have e7 := fun W (h : Grow X W) => weight_in ⟨B7, ys7, cap7⟩ x.row x.A x.cap W (y7.out.grow h) (by rw [show S.z ⟨B7, ys7, cap7⟩ = _ from X7.out.2]; exact Pl.out.rd) (Hxv.out.grow h) hre (0) (by rw [show S.z ⟨B7, ys7, cap7⟩ = _ from X7.out.2, Pl.out.wd, Hn.out]; unfold disF; rw [if_neg hpos])
                go_upto_region 21 with fail
                obtain ⟨bx5, fx5⟩ := (Bx.grow K4).rules
                go_wp2_with (first
                  | (go_at_call 72; ((with_reducible refine (e6 _ K4).mono ?_); rintro e1 wp ⟨rfl, hgp⟩; obtain ⟨bx6, fx6⟩ := (Bx.grow (K4.trans hgp)).rules))
                  | (go_at_call 72; ((with_reducible refine (e7 _ (K4.trans hgp)).mono ?_); rintro e1 wq ⟨rfl, hgq⟩)))
                go_roundw
                case rel => exact ⟨k + 1, by omega, by go_num, hgL.trans (G.trans ((K4.trans hgp).trans hgq))⟩
                case measure => simp [intOf]; omega
          case hp' => trivial
        · obtain rfl : k = LL.length := by omega
          go_wp2
          go_ret
          exact ret_bool (by simp) ((G10.trans q10).trans hgL)
    · have d1 : (F != 0) = true := by simpa using h1
      go_wp2_with (first
        | (go_at_call 90; ((with_reducible refine (cm _ _ (Blk.new _ _ _) (hg2.al _)).mono ?_); rintro e1 w3 ⟨rfl, hg3⟩))
        | (go_at_call 71; ((with_reducible refine (cf _ ((hg2.al _).trans hg3)).mono ?_); rintro e1 w4 ⟨rfl, hg4⟩)))
      go_ret
      exact ret_bool (by simp) (((hg2.al _).trans hg3).trans hg4)
end Go.Proofs.Ytjhcbehnopmnpaa
