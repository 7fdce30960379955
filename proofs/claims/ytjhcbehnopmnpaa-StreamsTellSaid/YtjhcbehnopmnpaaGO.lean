/-
  Joined texts of this claim: St4. What each proves its own head says; no condition beside those that each theorem names.
-/
import Derived.Test.YtjhcbehnopmnpaaGN
/-
  The reference's Along.
-/
namespace Go.Proofs.Ytjhcbehnopmnpaa
open Go.RowKit Go.Calm
set_option linter.unusedSimpArgs false
set_option linter.unusedVariables false

/-- what is made, up to a place -/
def chZ (l : List (List Z)) : Nat → List Z
  | 0 => []
  | k + 1 => (bothZ (chZ l k) (l.getD k []) 1).1
theorem chZ_at {ss : List S} {k : Nat} {s : S} (h : ss[k]? = some s) : chZ (ss.map S.z) (k + 1) = (bothZ (chZ (ss.map S.z) k) s.z 1).1 := by
  have : (ss.map S.z).getD k [] = s.z := by
    rw [List.getD_eq_getElem?_getD, List.getElem?_map, h]; rfl
  show (bothZ (chZ (ss.map S.z) k) ((ss.map S.z).getD k []) 1).1 = _
  rw [this]
theorem rboth_s (a b : S) (t : Int) (ht : t = 1 ∨ t = -1) (W : World) (ha : In W a) (hb : In W b) :
    Calls Try.prog 78 #[.slice a.A a.xs.length a.cap, .slice b.A b.xs.length b.cap, .int .i64 t] W fun en w' => Gives W w' en (bothZ a.z b.z t) :=
  rboth_any a.xs b.xs a.A b.A a.cap b.cap t ht W ha hb
theorem rboth_nil (a : S) (W : World) (ha : In W a) :
    Calls Try.prog 78 #[.slice a.A a.xs.length a.cap, .slice none 0 0, .int .i64 1] W fun en w' => Gives W w' en (bothZ a.z [] 1) :=
  rboth_s a ⟨none, [], 0⟩ 1 (.inl rfl) W ha (in_nil W)
/-- the set ahead of a place -/
def lastZ (l : List (List Z)) : Nat → List Z
  | 0 => []
  | k + 1 => l.getD k []
theorem lastZ_at {ss : List S} {k : Nat} {s : S} (h : ss[k]? = some s) : lastZ (ss.map S.z) (k + 1) = s.z := by
  show (ss.map S.z).getD k [] = _
  rw [List.getD_eq_getElem?_getD, List.getElem?_map, h]; rfl
theorem alG_made (F : List Z → List Z → List Z → List Z × Int) (hF : ∀ m m' la z, F m la z = F m' la z) : ∀ (l : List (List Z)) (i : Nat) (m m' la : List Z), alG F i m la l = alG F i m' la l
  | [], _, _, _, _ => rfl
  | z :: l, i, m, m', la => by
    unfold alG
    rw [hF m m' la z]
set_option maxRecDepth 100000 in
set_option maxHeartbeats 32000000 in
theorem ralong_dif (ss : List S) (A : Option Addr) (c : Nat) (w : World) (h : InS w A ss c) :
    Calls Try.prog 92 #[.slice A ss.length c, .int .u8 100] w fun en w' => GivesL w w' en (alongZ Fd (ss.map S.z)) := by
  have mixed : Try.prog.follows .mixedOrders = true := by kernel_rfl
  have hlen := h.len
  have hcap := h.sl.1
  have H := Lib.hid h
  obtain ⟨R, hR⟩ : ∃ R, alongZ Fd (ss.map S.z) = R := ⟨_, rfl⟩
  rw [hR]
  have HR := Lib.hid hR
  clear hR
  obtain ⟨E, P, hE⟩ : ∃ E P, swrong (ss.map S.z) = (E, P) := ⟨_, _, rfl⟩
  have cw := fun W (hg : Grow w W) => rswrong_any ss A c W (H.out.grow hg) (E, P) hE
  have HE := Lib.hid hE
  clear h hE
  go_enter Try.func92, Try.ntmps92
  go_upto_region 1 with fail
  refine wp_forget (fun X => Blk X w.heap.size 81 #[.int .i64 0, .int .i64 0] ∧ Grow w X) ⟨Blk.new _ _ _, (Grow.refl w).al _⟩ ?_
  rintro X1 ⟨B1, G1⟩
  go_upto_region 2 with (go_at_call 138; ((with_reducible refine (cw _ G1).mono ?_); rintro e w2 ⟨rfl, hg2⟩))
  refine wp_forget (fun X => Blk X w2.heap.size 81 #[.int .i64 E, .int .i64 P] ∧ Blk X w.heap.size 81 #[.int .i64 0, .int .i64 0] ∧ Grow w X) ⟨Blk.new _ _ _, (B1.grow hg2).al _, (G1.trans hg2).al _⟩ ?_
  clear B1 cw
  generalize w2.heap.size = g6
  rintro X ⟨B6, B5, G⟩
  clear hg2 G1
  obtain ⟨b6, f6⟩ := B6.rules
  have HB5 := Lib.hid B5
  by_cases h0 : E = 0
  · subst h0
    have inv0 : alR (([] : List S).map S.z) (alG Fd 0 [] [] ((ss.drop 0).map S.z)) = R := by rw [← HR.out]; unfold alongZ; rw [HE.out, if_neg (by simp)]; rfl
    have sw := ((swrong_zero _).1 (show (swrong (ss.map S.z)).1 = 0 by rw [HE.out]))
    have Sw := Lib.hid (show ∀ s ∈ ss, wrongZ s.z = 0 from fun s hs => sw.2 _ (List.mem_map_of_mem hs))
    have l30 : ss.length ≤ 30 := by simpa using sw.1
    have Inv0 := Lib.hid inv0
    clear inv0 sw
    go_upto_region 5 with fail
    clear b6 f6 B6 B5
    go_wp2
    go_loopw [7, 22] (fun t i wr => ∃ (k : Nat) (outs : List S), k ≤ ss.length ∧ i = .int .i64 k ∧ OwnS wr X.heap.size t outs.length outs ∧ (∀ s ∈ outs, In wr s) ∧ outs.length ≤ k ∧ alR (outs.map S.z) (alG Fd k [] (lastZ (ss.map S.z) k) ((ss.drop k).map S.z)) = R ∧ (True) ∧ Grow X wr) (fun _ i _ => ss.length - (intOf i).toNat)
    case atStart => exact ⟨0, [], Nat.zero_le _, rfl, OwnS.nil _ _, fun s hs => by simp at hs, Nat.le_refl _, Inv0.out, trivial, Grow.refl _⟩
    case round =>
      rename World => wa
      obtain ⟨k, outs, hk, rfl, hown, hos, hol, hinv, hpre, hg⟩ := hrel
      have Own := Lib.hid hown
      have Os := Lib.hid hos
      have Inv := Lib.hid hinv
      have Pre := Lib.hid hpre
      clear hown hos hinv hpre
      by_cases hlt : k < ss.length
      · obtain ⟨s, hsk⟩ : ∃ s, ss[k]? = some s := ⟨_, List.getElem?_eq_getElem hlt⟩
        have hmem := List.mem_of_getElem? hsk
        have inv2 := Inv.out
        rw [alG_at Fd _ _ hsk] at inv2
        obtain ⟨g, o, rfl, c1, _⟩ := (H.out.s.grow (G.trans hg)) k s hsk
        have iz := Lib.hid ((H.out.each s hmem).grow (G.trans hg))
        have ws := Lib.hid (Sw.out s hmem)
        have Hsk := Lib.hid hsk
        have b0 : (0 : Int) ≤ (k : Int) := by omega
        have b1 : (k : Int) < (ss.length : Int) := by omega
        obtain ⟨T, e, hT⟩ : ∃ T e, Fd [] (lastZ (ss.map S.z) k) s.z = (T, e) := ⟨_, _, rfl⟩
        have sT := Lib.hid (show smlZ T by have this : smlZ (Fd [] (lastZ (ss.map S.z) k) s.z).1 := both_sml s.z (lastZ (ss.map S.z) k) (-1); rw [hT] at this; exact this)
        rw [hT] at inv2
        simp only at inv2
        have Inv2 := Lib.hid inv2
        have HT := Lib.hid hT
        clear hsk hmem inv2 hT
        by_cases hk0 : k = 0
        · have dk : decide (0 < k) = false := decide_eq_false (by omega)
          have l0 : lastZ (ss.map S.z) k = [] := by rw [hk0]; rfl
          clear hk0
          have e0 : bothZ s.z [] (-1) = (T, e) := by have h9 := HT.out; rw [l0] at h9; exact h9
          have cb : Calls Try.prog 78 #[.slice s.A s.xs.length s.cap, .slice none 0 0, .int .i64 (-1)] wa fun en w' => Gives wa w' en (T, e) := by
            have h9 := rboth_s s ⟨none, [], 0⟩ (-1) (.inr rfl) wa iz.out (in_nil _)
            rw [← e0]
            exact h9
          clear e0 l0
          go_upto_region 22 with (go_at_call 78; go_loud ((with_reducible refine (cb).mono ?_); rintro e1 w3 ⟨D, ds, cap3, rfl, hz3, hm3, hk3, hg3⟩; have Y := Lib.hid (And.intro (show S.z (S.mk D ds cap3) = T from hm3) (In.sml hz3 hk3 (by rw [hm3]; exact sT.out))); clear hz3 hm3 hk3))
          have Own3 := Lib.hid (Own.out.grow hg3)
          by_cases he : e = 0
          · have de : (e != 0) = false := by simpa using he
            go_wp2_with (at_builtin; refine wpList_append_S rfl _ _ rfl X.heap.size _ outs.length outs rfl (Own3.out.grow ((Grow.refl _).al _)) _ (S.mk D ds cap3) rfl _ (Blk.new _ _ _) (by omega) (by have := (hg.trans hg3).size; simp; omega) ?_; intro v7 w7 own7 gr7)
            have G7 : Grow X w7 := grow_own ((hg.trans hg3).al _) gr7 (Own3.out.grow ((Grow.refl _).al _)).1
            have K7 : ∀ s, In w3 s → In w7 s := fun s h => In.gb (h.grow ((Grow.refl _).al _)) (Own3.out.grow ((Grow.refl _).al _)).2 gr7
            have K := Lib.hid K7
            have Own7 := Lib.hid own7
            clear own7 gr7 K7
            go_roundw
            case rel =>
              refine ⟨k + 1, outs ++ [S.mk D ds cap3], by omega, by go_num, by simpa using Own7.out, fun u hu => ?_, by simp; omega, ?_, ?_, G7⟩
              · rcases List.mem_append.1 hu with hu | hu
                · exact K.out _ ((Os.out u hu).grow hg3)
                · simp at hu; subst hu; exact K.out _ Y.out.2
              · have h9 := Inv2.out
                rw [if_neg (by simpa using he), alR_alR] at h9
                rw [List.map_append, List.map_cons, List.map_nil, show S.z (S.mk D ds cap3) = T from Y.out.1]
                rw [lastZ_at Hsk.out]; rw [alG_made _ (fun _ _ _ _ => rfl) _ _ [] T]; exact h9
              · trivial
            case measure => simp [intOf]; omega
          · have de : (e != 0) = true := by simpa using he
            have eR : R = ([], e, (k : Int)) := by have := Inv2.out; rw [if_pos he, alR_err _ he] at this; exact this.symm
            obtain ⟨b5, f5⟩ := (HB5.out.grow (hg.trans hg3)).rules
            go_wp2
            have hB : Blk ((w3.setCell ⟨w.heap.size, 0, none⟩ (.int .i64 e)).setCell ⟨w.heap.size, 1, none⟩ (.int .i64 k)) w.heap.size 81 #[.int .i64 e, .int .i64 k] := ((HB5.out.grow (hg.trans hg3)).set 0 _).set 1 _
            have hG : Grow w ((w3.setCell ⟨w.heap.size, 0, none⟩ (.int .i64 e)).setCell ⟨w.heap.size, 1, none⟩ (.int .i64 k)) := Grow.set (Grow.set (G.trans (hg.trans hg3)) (Nat.le_refl _) _) (Nat.le_refl _) _
            revert hB hG
            generalize ((w3.setCell ⟨w.heap.size, 0, none⟩ (.int .i64 e)).setCell ⟨w.heap.size, 1, none⟩ (.int .i64 k)) = Y9
            intro hB hG
            obtain ⟨b9, f9⟩ := hB.rules
            refine bodyPost_ret (v := .tuple #[.slice none 0 0, .agg #[.int .i64 e, .int .i64 k]]) (by simp [results, Try.results92, go_sem, b9]) rfl ?_
            exact ⟨none, [], 0, by rw [eR]; rfl, ins_nil _, by rw [eR]; rfl, hG⟩
        · obtain ⟨j, hj⟩ : ∃ j, k = j + 1 := ⟨k - 1, by omega⟩
          obtain ⟨p, hpk⟩ : ∃ p, ss[j]? = some p := ⟨_, List.getElem?_eq_getElem (by omega)⟩
          obtain ⟨gy, oy, ey, cy1, _⟩ := (H.out.s.grow (G.trans hg)) j p hpk
          cases ey
          have ip := Lib.hid ((H.out.each p (List.mem_of_getElem? hpk)).grow (G.trans hg))
          have l0 : lastZ (ss.map S.z) k = p.z := by rw [hj]; exact lastZ_at hpk
          have dk : decide (0 < k) = true := decide_eq_true (by omega)
          have hwp : IntKind.i64.wrap ((k : Int) - 1) = (j : Int) := by rw [IntKind.wrap_i64]; omega
          have j0 : (0 : Int) ≤ (j : Int) := by omega
          have j1 : (j : Int) < (ss.length : Int) := by omega
          have j2 : j < ss.length := by omega
          clear hpk hj hk0
          have e0 : bothZ s.z p.z (-1) = (T, e) := by have h9 := HT.out; rw [l0] at h9; exact h9
          have cb : Calls Try.prog 78 #[.slice s.A s.xs.length s.cap, .slice p.A p.xs.length p.cap, .int .i64 (-1)] wa fun en w' => Gives wa w' en (T, e) := by
            have h9 := rboth_s s p (-1) (.inr rfl) wa iz.out ip.out
            rw [← e0]
            exact h9
          clear e0 l0
          go_upto_region 22 with (go_at_call 78; go_loud ((with_reducible refine (cb).mono ?_); rintro e1 w3 ⟨D, ds, cap3, rfl, hz3, hm3, hk3, hg3⟩; have Y := Lib.hid (And.intro (show S.z (S.mk D ds cap3) = T from hm3) (In.sml hz3 hk3 (by rw [hm3]; exact sT.out))); clear hz3 hm3 hk3))
          have Own3 := Lib.hid (Own.out.grow hg3)
          by_cases he : e = 0
          · have de : (e != 0) = false := by simpa using he
            go_wp2_with (at_builtin; refine wpList_append_S rfl _ _ rfl X.heap.size _ outs.length outs rfl (Own3.out.grow ((Grow.refl _).al _)) _ (S.mk D ds cap3) rfl _ (Blk.new _ _ _) (by omega) (by have := (hg.trans hg3).size; simp; omega) ?_; intro v7 w7 own7 gr7)
            have G7 : Grow X w7 := grow_own ((hg.trans hg3).al _) gr7 (Own3.out.grow ((Grow.refl _).al _)).1
            have K7 : ∀ s, In w3 s → In w7 s := fun s h => In.gb (h.grow ((Grow.refl _).al _)) (Own3.out.grow ((Grow.refl _).al _)).2 gr7
            have K := Lib.hid K7
            have Own7 := Lib.hid own7
            clear own7 gr7 K7
            go_roundw
            case rel =>
              refine ⟨k + 1, outs ++ [S.mk D ds cap3], by omega, by go_num, by simpa using Own7.out, fun u hu => ?_, by simp; omega, ?_, ?_, G7⟩
              · rcases List.mem_append.1 hu with hu | hu
                · exact K.out _ ((Os.out u hu).grow hg3)
                · simp at hu; subst hu; exact K.out _ Y.out.2
              · have h9 := Inv2.out
                rw [if_neg (by simpa using he), alR_alR] at h9
                rw [List.map_append, List.map_cons, List.map_nil, show S.z (S.mk D ds cap3) = T from Y.out.1]
                rw [lastZ_at Hsk.out]; rw [alG_made _ (fun _ _ _ _ => rfl) _ _ [] T]; exact h9
              · trivial
            case measure => simp [intOf]; omega
          · have de : (e != 0) = true := by simpa using he
            have eR : R = ([], e, (k : Int)) := by have := Inv2.out; rw [if_pos he, alR_err _ he] at this; exact this.symm
            obtain ⟨b5, f5⟩ := (HB5.out.grow (hg.trans hg3)).rules
            go_wp2
            have hB : Blk ((w3.setCell ⟨w.heap.size, 0, none⟩ (.int .i64 e)).setCell ⟨w.heap.size, 1, none⟩ (.int .i64 k)) w.heap.size 81 #[.int .i64 e, .int .i64 k] := ((HB5.out.grow (hg.trans hg3)).set 0 _).set 1 _
            have hG : Grow w ((w3.setCell ⟨w.heap.size, 0, none⟩ (.int .i64 e)).setCell ⟨w.heap.size, 1, none⟩ (.int .i64 k)) := Grow.set (Grow.set (G.trans (hg.trans hg3)) (Nat.le_refl _) _) (Nat.le_refl _) _
            revert hB hG
            generalize ((w3.setCell ⟨w.heap.size, 0, none⟩ (.int .i64 e)).setCell ⟨w.heap.size, 1, none⟩ (.int .i64 k)) = Y9
            intro hB hG
            obtain ⟨b9, f9⟩ := hB.rules
            refine bodyPost_ret (v := .tuple #[.slice none 0 0, .agg #[.int .i64 e, .int .i64 k]]) (by simp [results, Try.results92, go_sem, b9]) rfl ?_
            exact ⟨none, [], 0, by rw [eR]; rfl, ins_nil _, by rw [eR]; rfl, hG⟩
      · obtain rfl : k = ss.length := by omega
        have eR : R = (outs.map S.z, 0, 0) := by have h9 := Inv.out; rw [List.drop_length] at h9; rw [← h9]; exact alR_end _
        obtain ⟨D, cap, rfl, hin⟩ := own_ins Own.out.1 Os.out (by omega)
        have Hin := Lib.hid hin
        obtain ⟨b5, f5⟩ := (HB5.out.grow hg).rules
        clear hin
        go_wp2
        have hB : Blk ((wa.setCell ⟨w.heap.size, 0, none⟩ (.int .i64 0)).setCell ⟨w.heap.size, 1, none⟩ (.int .i64 0)) w.heap.size 81 #[.int .i64 0, .int .i64 0] := ((HB5.out.grow hg).set 0 _).set 1 _
        have hG : Grow w ((wa.setCell ⟨w.heap.size, 0, none⟩ (.int .i64 0)).setCell ⟨w.heap.size, 1, none⟩ (.int .i64 0)) := Grow.set (Grow.set (G.trans hg) (Nat.le_refl _) _) (Nat.le_refl _) _
        have hiY : InS ((wa.setCell ⟨w.heap.size, 0, none⟩ (.int .i64 0)).setCell ⟨w.heap.size, 1, none⟩ (.int .i64 0)) D outs cap := InS.fault Hin.out (HB5.out.grow hg) 0 0
        revert hB hG hiY
        generalize ((wa.setCell ⟨w.heap.size, 0, none⟩ (.int .i64 0)).setCell ⟨w.heap.size, 1, none⟩ (.int .i64 0)) = Y9
        intro hB hG hi
        obtain ⟨b9, f9⟩ := hB.rules
        refine bodyPost_ret (v := .tuple #[.slice D outs.length cap, .agg #[.int .i64 0, .int .i64 0]]) (by simp [results, Try.results92, go_sem, b9]) rfl ?_
        exact ⟨D, outs, cap, by rw [eR], hi, by rw [eR], hG⟩
  · have d0 : (E != 0) = true := by simpa using h0
    obtain ⟨b5, f5⟩ := B5.rules
    go_wp2
    go_big_region_o
    go_wp2
    have eR : R = ([], E, P) := by rw [← HR.out]; unfold alongZ; rw [HE.out, if_pos h0]
    have hB : Blk (((X.setCell ⟨w.heap.size, 0, none⟩ (.int .i64 E)).setCell ⟨w.heap.size, 1, none⟩ (.int .i64 P)).drew) w.heap.size 81 #[.int .i64 E, .int .i64 P] := Blk.drew ((HB5.out.set 0 _).set 1 _)
    have hG : Grow w (((X.setCell ⟨w.heap.size, 0, none⟩ (.int .i64 E)).setCell ⟨w.heap.size, 1, none⟩ (.int .i64 P)).drew) := Grow.drew (Grow.set (Grow.set G (Nat.le_refl _) _) (Nat.le_refl _) _)
    revert hB hG
    generalize (((X.setCell ⟨w.heap.size, 0, none⟩ (.int .i64 E)).setCell ⟨w.heap.size, 1, none⟩ (.int .i64 P)).drew) = Y9
    intro hB hG
    obtain ⟨b9, f9⟩ := hB.rules
    refine bodyPost_ret (v := .tuple #[.slice none 0 0, .agg #[.int .i64 E, .int .i64 P]]) (by simp [results, Try.results92, go_sem, b9]) rfl ?_
    exact ⟨none, [], 0, by rw [eR]; rfl, ins_nil _, by rw [eR]; rfl, hG⟩
set_option maxRecDepth 100000 in
set_option maxHeartbeats 32000000 in
theorem ralong_del (ss : List S) (A : Option Addr) (c : Nat) (w : World) (h : InS w A ss c) :
    Calls Try.prog 92 #[.slice A ss.length c, .int .u8 122] w fun en w' => GivesL w w' en (alongZ Fz (ss.map S.z)) := by
  have mixed : Try.prog.follows .mixedOrders = true := by kernel_rfl
  have hlen := h.len
  have hcap := h.sl.1
  have H := Lib.hid h
  obtain ⟨R, hR⟩ : ∃ R, alongZ Fz (ss.map S.z) = R := ⟨_, rfl⟩
  rw [hR]
  have HR := Lib.hid hR
  clear hR
  obtain ⟨E, P, hE⟩ : ∃ E P, swrong (ss.map S.z) = (E, P) := ⟨_, _, rfl⟩
  have cw := fun W (hg : Grow w W) => rswrong_any ss A c W (H.out.grow hg) (E, P) hE
  have HE := Lib.hid hE
  clear h hE
  go_enter Try.func92, Try.ntmps92
  go_upto_region 1 with fail
  refine wp_forget (fun X => Blk X w.heap.size 81 #[.int .i64 0, .int .i64 0] ∧ Grow w X) ⟨Blk.new _ _ _, (Grow.refl w).al _⟩ ?_
  rintro X1 ⟨B1, G1⟩
  go_upto_region 2 with (go_at_call 138; ((with_reducible refine (cw _ G1).mono ?_); rintro e w2 ⟨rfl, hg2⟩))
  refine wp_forget (fun X => Blk X w2.heap.size 81 #[.int .i64 E, .int .i64 P] ∧ Blk X w.heap.size 81 #[.int .i64 0, .int .i64 0] ∧ Grow w X) ⟨Blk.new _ _ _, (B1.grow hg2).al _, (G1.trans hg2).al _⟩ ?_
  clear B1 cw
  generalize w2.heap.size = g6
  rintro X ⟨B6, B5, G⟩
  clear hg2 G1
  obtain ⟨b6, f6⟩ := B6.rules
  have HB5 := Lib.hid B5
  by_cases h0 : E = 0
  · subst h0
    have inv0 : alR (([] : List S).map S.z) (alG Fz 0 [] [] ((ss.drop 0).map S.z)) = R := by rw [← HR.out]; unfold alongZ; rw [HE.out, if_neg (by simp)]; rfl
    have sw := ((swrong_zero _).1 (show (swrong (ss.map S.z)).1 = 0 by rw [HE.out]))
    have Sw := Lib.hid (show ∀ s ∈ ss, wrongZ s.z = 0 from fun s hs => sw.2 _ (List.mem_map_of_mem hs))
    have l30 : ss.length ≤ 30 := by simpa using sw.1
    have Inv0 := Lib.hid inv0
    clear inv0 sw
    go_upto_region 5 with fail
    clear b6 f6 B6 B5
    go_wp2
    go_loopw [7, 22] (fun t i wr => ∃ (k : Nat) (outs : List S), k ≤ ss.length ∧ i = .int .i64 k ∧ OwnS wr X.heap.size t outs.length outs ∧ (∀ s ∈ outs, In wr s) ∧ outs.length ≤ k ∧ alR (outs.map S.z) (alG Fz k [] (lastZ (ss.map S.z) k) ((ss.drop k).map S.z)) = R ∧ (True) ∧ Grow X wr) (fun _ i _ => ss.length - (intOf i).toNat)
    case atStart => exact ⟨0, [], Nat.zero_le _, rfl, OwnS.nil _ _, fun s hs => by simp at hs, Nat.le_refl _, Inv0.out, trivial, Grow.refl _⟩
    case round =>
      rename World => wa
      obtain ⟨k, outs, hk, rfl, hown, hos, hol, hinv, hpre, hg⟩ := hrel
      have Own := Lib.hid hown
      have Os := Lib.hid hos
      have Inv := Lib.hid hinv
      have Pre := Lib.hid hpre
      clear hown hos hinv hpre
      by_cases hlt : k < ss.length
      · obtain ⟨s, hsk⟩ : ∃ s, ss[k]? = some s := ⟨_, List.getElem?_eq_getElem hlt⟩
        have hmem := List.mem_of_getElem? hsk
        have inv2 := Inv.out
        rw [alG_at Fz _ _ hsk] at inv2
        obtain ⟨g, o, rfl, c1, _⟩ := (H.out.s.grow (G.trans hg)) k s hsk
        have iz := Lib.hid ((H.out.each s hmem).grow (G.trans hg))
        have ws := Lib.hid (Sw.out s hmem)
        have Hsk := Lib.hid hsk
        have b0 : (0 : Int) ≤ (k : Int) := by omega
        have b1 : (k : Int) < (ss.length : Int) := by omega
        obtain ⟨T, e, hT⟩ : ∃ T e, Fz [] (lastZ (ss.map S.z) k) s.z = (T, e) := ⟨_, _, rfl⟩
        have sT := Lib.hid (show smlZ T by have this : smlZ (Fz [] (lastZ (ss.map S.z) k) s.z).1 := both_sml (lastZ (ss.map S.z) k) [] 1; rw [hT] at this; exact this)
        rw [hT] at inv2
        simp only at inv2
        have Inv2 := Lib.hid inv2
        have HT := Lib.hid hT
        clear hsk hmem inv2 hT
        by_cases hk0 : k = 0
        · have dk : decide (0 < k) = false := decide_eq_false (by omega)
          have l0 : lastZ (ss.map S.z) k = [] := by rw [hk0]; rfl
          clear hk0
          have e0 : bothZ [] [] 1 = (T, e) := by have h9 := HT.out; rw [l0] at h9; exact h9
          have cb : Calls Try.prog 78 #[.slice none 0 0, .slice none 0 0, .int .i64 1] wa fun en w' => Gives wa w' en (T, e) := by
            have h9 := rboth_nil ⟨none, [], 0⟩ wa (in_nil _)
            rw [← e0]
            exact h9
          clear e0 l0
          go_upto_region 22 with (go_at_call 78; go_loud ((with_reducible refine (cb).mono ?_); rintro e1 w3 ⟨D, ds, cap3, rfl, hz3, hm3, hk3, hg3⟩; have Y := Lib.hid (And.intro (show S.z (S.mk D ds cap3) = T from hm3) (In.sml hz3 hk3 (by rw [hm3]; exact sT.out))); clear hz3 hm3 hk3))
          have Own3 := Lib.hid (Own.out.grow hg3)
          by_cases he : e = 0
          · have de : (e != 0) = false := by simpa using he
            go_wp2_with (at_builtin; refine wpList_append_S rfl _ _ rfl X.heap.size _ outs.length outs rfl (Own3.out.grow ((Grow.refl _).al _)) _ (S.mk D ds cap3) rfl _ (Blk.new _ _ _) (by omega) (by have := (hg.trans hg3).size; simp; omega) ?_; intro v7 w7 own7 gr7)
            have G7 : Grow X w7 := grow_own ((hg.trans hg3).al _) gr7 (Own3.out.grow ((Grow.refl _).al _)).1
            have K7 : ∀ s, In w3 s → In w7 s := fun s h => In.gb (h.grow ((Grow.refl _).al _)) (Own3.out.grow ((Grow.refl _).al _)).2 gr7
            have K := Lib.hid K7
            have Own7 := Lib.hid own7
            clear own7 gr7 K7
            go_roundw
            case rel =>
              refine ⟨k + 1, outs ++ [S.mk D ds cap3], by omega, by go_num, by simpa using Own7.out, fun u hu => ?_, by simp; omega, ?_, ?_, G7⟩
              · rcases List.mem_append.1 hu with hu | hu
                · exact K.out _ ((Os.out u hu).grow hg3)
                · simp at hu; subst hu; exact K.out _ Y.out.2
              · have h9 := Inv2.out
                rw [if_neg (by simpa using he), alR_alR] at h9
                rw [List.map_append, List.map_cons, List.map_nil, show S.z (S.mk D ds cap3) = T from Y.out.1]
                rw [lastZ_at Hsk.out]; rw [alG_made _ (fun _ _ _ _ => rfl) _ _ [] T]; exact h9
              · trivial
            case measure => simp [intOf]; omega
          · have de : (e != 0) = true := by simpa using he
            have eR : R = ([], e, (k : Int)) := by have := Inv2.out; rw [if_pos he, alR_err _ he] at this; exact this.symm
            obtain ⟨b5, f5⟩ := (HB5.out.grow (hg.trans hg3)).rules
            go_wp2
            have hB : Blk ((w3.setCell ⟨w.heap.size, 0, none⟩ (.int .i64 e)).setCell ⟨w.heap.size, 1, none⟩ (.int .i64 k)) w.heap.size 81 #[.int .i64 e, .int .i64 k] := ((HB5.out.grow (hg.trans hg3)).set 0 _).set 1 _
            have hG : Grow w ((w3.setCell ⟨w.heap.size, 0, none⟩ (.int .i64 e)).setCell ⟨w.heap.size, 1, none⟩ (.int .i64 k)) := Grow.set (Grow.set (G.trans (hg.trans hg3)) (Nat.le_refl _) _) (Nat.le_refl _) _
            revert hB hG
            generalize ((w3.setCell ⟨w.heap.size, 0, none⟩ (.int .i64 e)).setCell ⟨w.heap.size, 1, none⟩ (.int .i64 k)) = Y9
            intro hB hG
            obtain ⟨b9, f9⟩ := hB.rules
            refine bodyPost_ret (v := .tuple #[.slice none 0 0, .agg #[.int .i64 e, .int .i64 k]]) (by simp [results, Try.results92, go_sem, b9]) rfl ?_
            exact ⟨none, [], 0, by rw [eR]; rfl, ins_nil _, by rw [eR]; rfl, hG⟩
        · obtain ⟨j, hj⟩ : ∃ j, k = j + 1 := ⟨k - 1, by omega⟩
          obtain ⟨p, hpk⟩ : ∃ p, ss[j]? = some p := ⟨_, List.getElem?_eq_getElem (by omega)⟩
          obtain ⟨gy, oy, ey, cy1, _⟩ := (H.out.s.grow (G.trans hg)) j p hpk
          cases ey
          have ip := Lib.hid ((H.out.each p (List.mem_of_getElem? hpk)).grow (G.trans hg))
          have l0 : lastZ (ss.map S.z) k = p.z := by rw [hj]; exact lastZ_at hpk
          have dk : decide (0 < k) = true := decide_eq_true (by omega)
          have hwp : IntKind.i64.wrap ((k : Int) - 1) = (j : Int) := by rw [IntKind.wrap_i64]; omega
          have j0 : (0 : Int) ≤ (j : Int) := by omega
          have j1 : (j : Int) < (ss.length : Int) := by omega
          have j2 : j < ss.length := by omega
          clear hpk hj hk0
          have e0 : bothZ p.z [] 1 = (T, e) := by have h9 := HT.out; rw [l0] at h9; exact h9
          have cb : Calls Try.prog 78 #[.slice p.A p.xs.length p.cap, .slice none 0 0, .int .i64 1] wa fun en w' => Gives wa w' en (T, e) := by
            have h9 := rboth_nil p wa ip.out
            rw [← e0]
            exact h9
          clear e0 l0
          go_upto_region 22 with (go_at_call 78; go_loud ((with_reducible refine (cb).mono ?_); rintro e1 w3 ⟨D, ds, cap3, rfl, hz3, hm3, hk3, hg3⟩; have Y := Lib.hid (And.intro (show S.z (S.mk D ds cap3) = T from hm3) (In.sml hz3 hk3 (by rw [hm3]; exact sT.out))); clear hz3 hm3 hk3))
          have Own3 := Lib.hid (Own.out.grow hg3)
          by_cases he : e = 0
          · have de : (e != 0) = false := by simpa using he
            go_wp2_with (at_builtin; refine wpList_append_S rfl _ _ rfl X.heap.size _ outs.length outs rfl (Own3.out.grow ((Grow.refl _).al _)) _ (S.mk D ds cap3) rfl _ (Blk.new _ _ _) (by omega) (by have := (hg.trans hg3).size; simp; omega) ?_; intro v7 w7 own7 gr7)
            have G7 : Grow X w7 := grow_own ((hg.trans hg3).al _) gr7 (Own3.out.grow ((Grow.refl _).al _)).1
            have K7 : ∀ s, In w3 s → In w7 s := fun s h => In.gb (h.grow ((Grow.refl _).al _)) (Own3.out.grow ((Grow.refl _).al _)).2 gr7
            have K := Lib.hid K7
            have Own7 := Lib.hid own7
            clear own7 gr7 K7
            go_roundw
            case rel =>
              refine ⟨k + 1, outs ++ [S.mk D ds cap3], by omega, by go_num, by simpa using Own7.out, fun u hu => ?_, by simp; omega, ?_, ?_, G7⟩
              · rcases List.mem_append.1 hu with hu | hu
                · exact K.out _ ((Os.out u hu).grow hg3)
                · simp at hu; subst hu; exact K.out _ Y.out.2
              · have h9 := Inv2.out
                rw [if_neg (by simpa using he), alR_alR] at h9
                rw [List.map_append, List.map_cons, List.map_nil, show S.z (S.mk D ds cap3) = T from Y.out.1]
                rw [lastZ_at Hsk.out]; rw [alG_made _ (fun _ _ _ _ => rfl) _ _ [] T]; exact h9
              · trivial
            case measure => simp [intOf]; omega
          · have de : (e != 0) = true := by simpa using he
            have eR : R = ([], e, (k : Int)) := by have := Inv2.out; rw [if_pos he, alR_err _ he] at this; exact this.symm
            obtain ⟨b5, f5⟩ := (HB5.out.grow (hg.trans hg3)).rules
            go_wp2
            have hB : Blk ((w3.setCell ⟨w.heap.size, 0, none⟩ (.int .i64 e)).setCell ⟨w.heap.size, 1, none⟩ (.int .i64 k)) w.heap.size 81 #[.int .i64 e, .int .i64 k] := ((HB5.out.grow (hg.trans hg3)).set 0 _).set 1 _
            have hG : Grow w ((w3.setCell ⟨w.heap.size, 0, none⟩ (.int .i64 e)).setCell ⟨w.heap.size, 1, none⟩ (.int .i64 k)) := Grow.set (Grow.set (G.trans (hg.trans hg3)) (Nat.le_refl _) _) (Nat.le_refl _) _
            revert hB hG
            generalize ((w3.setCell ⟨w.heap.size, 0, none⟩ (.int .i64 e)).setCell ⟨w.heap.size, 1, none⟩ (.int .i64 k)) = Y9
            intro hB hG
            obtain ⟨b9, f9⟩ := hB.rules
            refine bodyPost_ret (v := .tuple #[.slice none 0 0, .agg #[.int .i64 e, .int .i64 k]]) (by simp [results, Try.results92, go_sem, b9]) rfl ?_
            exact ⟨none, [], 0, by rw [eR]; rfl, ins_nil _, by rw [eR]; rfl, hG⟩
      · obtain rfl : k = ss.length := by omega
        have eR : R = (outs.map S.z, 0, 0) := by have h9 := Inv.out; rw [List.drop_length] at h9; rw [← h9]; exact alR_end _
        obtain ⟨D, cap, rfl, hin⟩ := own_ins Own.out.1 Os.out (by omega)
        have Hin := Lib.hid hin
        obtain ⟨b5, f5⟩ := (HB5.out.grow hg).rules
        clear hin
        go_wp2
        have hB : Blk ((wa.setCell ⟨w.heap.size, 0, none⟩ (.int .i64 0)).setCell ⟨w.heap.size, 1, none⟩ (.int .i64 0)) w.heap.size 81 #[.int .i64 0, .int .i64 0] := ((HB5.out.grow hg).set 0 _).set 1 _
        have hG : Grow w ((wa.setCell ⟨w.heap.size, 0, none⟩ (.int .i64 0)).setCell ⟨w.heap.size, 1, none⟩ (.int .i64 0)) := Grow.set (Grow.set (G.trans hg) (Nat.le_refl _) _) (Nat.le_refl _) _
        have hiY : InS ((wa.setCell ⟨w.heap.size, 0, none⟩ (.int .i64 0)).setCell ⟨w.heap.size, 1, none⟩ (.int .i64 0)) D outs cap := InS.fault Hin.out (HB5.out.grow hg) 0 0
        revert hB hG hiY
        generalize ((wa.setCell ⟨w.heap.size, 0, none⟩ (.int .i64 0)).setCell ⟨w.heap.size, 1, none⟩ (.int .i64 0)) = Y9
        intro hB hG hi
        obtain ⟨b9, f9⟩ := hB.rules
        refine bodyPost_ret (v := .tuple #[.slice D outs.length cap, .agg #[.int .i64 0, .int .i64 0]]) (by simp [results, Try.results92, go_sem, b9]) rfl ?_
        exact ⟨D, outs, cap, by rw [eR], hi, by rw [eR], hG⟩
  · have d0 : (E != 0) = true := by simpa using h0
    obtain ⟨b5, f5⟩ := B5.rules
    go_wp2
    go_big_region_o
    go_wp2
    have eR : R = ([], E, P) := by rw [← HR.out]; unfold alongZ; rw [HE.out, if_pos h0]
    have hB : Blk (((X.setCell ⟨w.heap.size, 0, none⟩ (.int .i64 E)).setCell ⟨w.heap.size, 1, none⟩ (.int .i64 P)).drew) w.heap.size 81 #[.int .i64 E, .int .i64 P] := Blk.drew ((HB5.out.set 0 _).set 1 _)
    have hG : Grow w (((X.setCell ⟨w.heap.size, 0, none⟩ (.int .i64 E)).setCell ⟨w.heap.size, 1, none⟩ (.int .i64 P)).drew) := Grow.drew (Grow.set (Grow.set G (Nat.le_refl _) _) (Nat.le_refl _) _)
    revert hB hG
    generalize (((X.setCell ⟨w.heap.size, 0, none⟩ (.int .i64 E)).setCell ⟨w.heap.size, 1, none⟩ (.int .i64 P)).drew) = Y9
    intro hB hG
    obtain ⟨b9, f9⟩ := hB.rules
    refine bodyPost_ret (v := .tuple #[.slice none 0 0, .agg #[.int .i64 E, .int .i64 P]]) (by simp [results, Try.results92, go_sem, b9]) rfl ?_
    exact ⟨none, [], 0, by rw [eR]; rfl, ins_nil _, by rw [eR]; rfl, hG⟩
set_option maxRecDepth 100000 in
set_option maxHeartbeats 32000000 in
theorem ralong_int (ss : List S) (A : Option Addr) (c : Nat) (w : World) (h : InS w A ss c) :
    Calls Try.prog 92 #[.slice A ss.length c, .int .u8 105] w fun en w' => GivesL w w' en (alongZ Fi (ss.map S.z)) := by
  have mixed : Try.prog.follows .mixedOrders = true := by kernel_rfl
  have hlen := h.len
  have hcap := h.sl.1
  have H := Lib.hid h
  obtain ⟨R, hR⟩ : ∃ R, alongZ Fi (ss.map S.z) = R := ⟨_, rfl⟩
  rw [hR]
  have HR := Lib.hid hR
  clear hR
  obtain ⟨E, P, hE⟩ : ∃ E P, swrong (ss.map S.z) = (E, P) := ⟨_, _, rfl⟩
  have cw := fun W (hg : Grow w W) => rswrong_any ss A c W (H.out.grow hg) (E, P) hE
  have HE := Lib.hid hE
  clear h hE
  go_enter Try.func92, Try.ntmps92
  go_upto_region 1 with fail
  refine wp_forget (fun X => Blk X w.heap.size 81 #[.int .i64 0, .int .i64 0] ∧ Grow w X) ⟨Blk.new _ _ _, (Grow.refl w).al _⟩ ?_
  rintro X1 ⟨B1, G1⟩
  go_upto_region 2 with (go_at_call 138; ((with_reducible refine (cw _ G1).mono ?_); rintro e w2 ⟨rfl, hg2⟩))
  refine wp_forget (fun X => Blk X w2.heap.size 81 #[.int .i64 E, .int .i64 P] ∧ Blk X w.heap.size 81 #[.int .i64 0, .int .i64 0] ∧ Grow w X) ⟨Blk.new _ _ _, (B1.grow hg2).al _, (G1.trans hg2).al _⟩ ?_
  clear B1 cw
  generalize w2.heap.size = g6
  rintro X ⟨B6, B5, G⟩
  clear hg2 G1
  obtain ⟨b6, f6⟩ := B6.rules
  have HB5 := Lib.hid B5
  by_cases h0 : E = 0
  · subst h0
    have inv0 : alR (([] : List S).map S.z) (alG Fi 0 [] [] ((ss.drop 0).map S.z)) = R := by rw [← HR.out]; unfold alongZ; rw [HE.out, if_neg (by simp)]; rfl
    have sw := ((swrong_zero _).1 (show (swrong (ss.map S.z)).1 = 0 by rw [HE.out]))
    have Sw := Lib.hid (show ∀ s ∈ ss, wrongZ s.z = 0 from fun s hs => sw.2 _ (List.mem_map_of_mem hs))
    have l30 : ss.length ≤ 30 := by simpa using sw.1
    have Inv0 := Lib.hid inv0
    clear inv0 sw
    go_upto_region 5 with fail
    clear b6 f6 B6 B5
    go_wp2
    go_loopw [7, 22] (fun t i wr => ∃ (k : Nat) (outs : List S), k ≤ ss.length ∧ i = .int .i64 k ∧ OwnS wr X.heap.size t outs.length outs ∧ (∀ s ∈ outs, In wr s) ∧ outs.length ≤ k ∧ alR (outs.map S.z) (alG Fi k (chZ (ss.map S.z) k) (lastZ (ss.map S.z) k) ((ss.drop k).map S.z)) = R ∧ (∀ j, j < k → ∀ p : S, ss[j]? = some p → (bothZ (chZ (ss.map S.z) j) p.z 1).2 = 0) ∧ Grow X wr) (fun _ i _ => ss.length - (intOf i).toNat)
    case atStart => exact ⟨0, [], Nat.zero_le _, rfl, OwnS.nil _ _, fun s hs => by simp at hs, Nat.le_refl _, Inv0.out, fun j hj => by omega, Grow.refl _⟩
    case round =>
      rename World => wa
      obtain ⟨k, outs, hk, rfl, hown, hos, hol, hinv, hpre, hg⟩ := hrel
      have Own := Lib.hid hown
      have Os := Lib.hid hos
      have Inv := Lib.hid hinv
      have Pre := Lib.hid hpre
      clear hown hos hinv hpre
      by_cases hlt : k < ss.length
      · obtain ⟨s, hsk⟩ : ∃ s, ss[k]? = some s := ⟨_, List.getElem?_eq_getElem hlt⟩
        have hmem := List.mem_of_getElem? hsk
        have inv2 := Inv.out
        rw [alG_at Fi _ _ hsk] at inv2
        obtain ⟨g, o, rfl, c1, _⟩ := (H.out.s.grow (G.trans hg)) k s hsk
        have iz := Lib.hid ((H.out.each s hmem).grow (G.trans hg))
        have ws := Lib.hid (Sw.out s hmem)
        have Hsk := Lib.hid hsk
        have b0 : (0 : Int) ≤ (k : Int) := by omega
        have b1 : (k : Int) < (ss.length : Int) := by omega
        obtain ⟨T, e, hT⟩ : ∃ T e, Fi (chZ (ss.map S.z) k) (lastZ (ss.map S.z) k) s.z = (T, e) := ⟨_, _, rfl⟩
        have sT := Lib.hid (show smlZ T by have this : smlZ (Fi (chZ (ss.map S.z) k) (lastZ (ss.map S.z) k) s.z).1 := both_sml (chZ (ss.map S.z) k) s.z 1; rw [hT] at this; exact this)
        rw [hT] at inv2
        simp only at inv2
        have Inv2 := Lib.hid inv2
        have HT := Lib.hid hT
        clear hsk hmem inv2 hT
        by_cases hk0 : k = 0
        · have dk : decide (0 < k) = false := decide_eq_false (by omega)
          have l0 : lastZ (ss.map S.z) k = [] := by rw [hk0]; rfl
          clear hk0
          clear l0
          go_upto_region 13 with fail
          have hc1 : k + 1 ≤ c := by omega
          go_wp2
          go_loopw [9, 11, 38] (fun uz ue j wr => ∃ (q : Nat) (Q : S) (ee : Int), q ≤ k + 1 ∧ j = .int .i64 q ∧ uz = .slice Q.A Q.xs.length Q.cap ∧ ue = .int .i64 ee ∧ In wr Q ∧ Q.z = chZ (ss.map S.z) q ∧ (q ≤ k → ee = 0) ∧ (q = k + 1 → ee = e) ∧ Grow wa wr) (fun _ _ j _ => k + 1 - (intOf j).toNat)
          case atStart => exact ⟨0, S.mk none [] 0, 0, by omega, rfl, rfl, rfl, in_nil _, rfl, fun _ => rfl, fun h => by omega, Grow.refl _⟩
          case round =>
            obtain ⟨q, Q, ee, hq, rfl, rfl, rfl, iQ, zQ, hee0, hee, hgq⟩ := hrel
            have IQ := Lib.hid (And.intro iQ zQ)
            clear iQ zQ
            by_cases hql : q < k + 1
            · have dq : decide ((q : Int) < (k : Int) + 1) = true := decide_eq_true (by omega)
              obtain ⟨p, hpk⟩ : ∃ p, ss[q]? = some p := ⟨_, List.getElem?_eq_getElem (by omega)⟩
              obtain ⟨gy, oy, ey, cy1, _⟩ := (H.out.s.grow (G.trans (hg.trans hgq))) q p hpk
              cases ey
              have ip := Lib.hid ((H.out.each p (List.mem_of_getElem? hpk)).grow (G.trans (hg.trans hgq)))
              obtain ⟨T', e', hT'⟩ : ∃ T' e', bothZ (chZ (ss.map S.z) q) p.z 1 = (T', e') := ⟨_, _, rfl⟩
              have sT' := Lib.hid (show smlZ T' by have this : smlZ (bothZ (chZ (ss.map S.z) q) p.z 1).1 := both_sml _ _ _; rw [hT'] at this; exact this)
              have hch : chZ (ss.map S.z) (q + 1) = T' := by rw [chZ_at hpk, hT']
              have he1 : q + 1 ≤ k → e' = 0 := fun h => by have := Pre.out q (by omega) p hpk; rw [hT'] at this; exact this
              have he2 : q + 1 = k + 1 → e' = e := fun h => by
                obtain rfl : q = k := by omega
                have hps : p = s := by have := hpk.symm.trans Hsk.out; simpa using this
                subst hps
                have h9 : bothZ (chZ (ss.map S.z) q) p.z 1 = (T, e) := HT.out
                rw [hT'] at h9
                exact (Prod.mk.inj h9).2
              have Hch := Lib.hid (And.intro hch (And.intro he1 he2))
              have cb : Calls Try.prog 78 #[.slice Q.A Q.xs.length Q.cap, .slice p.A p.xs.length p.cap, .int .i64 1] wr fun en w' => Gives wr w' en (T', e') := by
                have := rboth_s Q p 1 (.inl rfl) wr IQ.out.1 ip.out
                rw [IQ.out.2, hT'] at this
                exact this
              have j0 : (0 : Int) ≤ (q : Int) := by omega
              have j1 : (q : Int) < (k : Int) + 1 := by omega
              clear hpk hT' hch he1 he2 hee0 hee
              go_wp2_with (go_at_call 78; ((with_reducible refine cb.mono ?_); rintro e1 w3 ⟨D, ds, cap3, rfl, hz3, hm3, hk3, hg3⟩; have Y := Lib.hid (And.intro (show S.z (S.mk D ds cap3) = T' from hm3) (In.sml hz3 hk3 (by rw [hm3]; exact sT'.out))); clear hz3 hm3 hk3))
              go_roundw
              case rel => exact ⟨q + 1, S.mk D ds cap3, e', by omega, by go_num, rfl, rfl, Y.out.2, by rw [Hch.out.1]; exact Y.out.1, Hch.out.2.1, Hch.out.2.2, hgq.trans hg3⟩
              case measure => simp [intOf]; omega
            · obtain rfl : q = k + 1 := by omega
              have dq : decide ((((k + 1 : Nat) : Int)) < (k : Int) + 1) = false := decide_eq_false (by omega)
              have eee : e = ee := (hee rfl).symm
              subst eee
              obtain ⟨D, ds, cap3⟩ := Q
              have hT1 : chZ (ss.map S.z) (k + 1) = T := by rw [chZ_at Hsk.out]; exact congrArg Prod.fst HT.out
              have Y := Lib.hid (And.intro (show S.z (S.mk D ds cap3) = T from IQ.out.2.trans hT1) IQ.out.1)
              have HT1 := Lib.hid hT1
              have hg3 := hgq
              rename World => w3
              clear hT1 hgq hee hee0
              have Own3 := Lib.hid (Own.out.grow hg3)
              by_cases he : e = 0
              · have de : (e != 0) = false := by simpa using he
                go_wp2_with (at_builtin; refine wpList_append_S rfl _ _ rfl X.heap.size _ outs.length outs rfl (Own3.out.grow ((Grow.refl _).al _)) _ (S.mk D ds cap3) rfl _ (Blk.new _ _ _) (by omega) (by have := (hg.trans hg3).size; simp; omega) ?_; intro v7 w7 own7 gr7)
                have G7 : Grow X w7 := grow_own ((hg.trans hg3).al _) gr7 (Own3.out.grow ((Grow.refl _).al _)).1
                have K7 : ∀ s, In w3 s → In w7 s := fun s h => In.gb (h.grow ((Grow.refl _).al _)) (Own3.out.grow ((Grow.refl _).al _)).2 gr7
                have K := Lib.hid K7
                have Own7 := Lib.hid own7
                clear own7 gr7 K7
                go_roundw
                case rel =>
                  refine ⟨k + 1, outs ++ [S.mk D ds cap3], by omega, by go_num, by simpa using Own7.out, fun u hu => ?_, by simp; omega, ?_, ?_, G7⟩
                  · rcases List.mem_append.1 hu with hu | hu
                    · exact K.out _ ((Os.out u hu).grow hg3)
                    · simp at hu; subst hu; exact K.out _ Y.out.2
                  · have h9 := Inv2.out
                    rw [if_neg (by simpa using he), alR_alR] at h9
                    rw [List.map_append, List.map_cons, List.map_nil, show S.z (S.mk D ds cap3) = T from Y.out.1]
                    rw [lastZ_at Hsk.out, HT1.out]; exact h9
                  · intro j hj p hp; by_cases hjk : j < k; exact Pre.out j hjk p hp; obtain rfl : j = k := (by omega); have hps : p = s := by (have := hp.symm.trans Hsk.out; simpa using this)
                    subst hps
                    have h9 : bothZ (chZ (ss.map S.z) j) p.z 1 = (T, e) := HT.out
                    rw [h9]; exact he
                case measure => simp [intOf]; omega
              · have de : (e != 0) = true := by simpa using he
                have eR : R = ([], e, (k : Int)) := by have := Inv2.out; rw [if_pos he, alR_err _ he] at this; exact this.symm
                obtain ⟨b5, f5⟩ := (HB5.out.grow (hg.trans hg3)).rules
                go_wp2
                have hB : Blk ((w3.setCell ⟨w.heap.size, 0, none⟩ (.int .i64 e)).setCell ⟨w.heap.size, 1, none⟩ (.int .i64 k)) w.heap.size 81 #[.int .i64 e, .int .i64 k] := ((HB5.out.grow (hg.trans hg3)).set 0 _).set 1 _
                have hG : Grow w ((w3.setCell ⟨w.heap.size, 0, none⟩ (.int .i64 e)).setCell ⟨w.heap.size, 1, none⟩ (.int .i64 k)) := Grow.set (Grow.set (G.trans (hg.trans hg3)) (Nat.le_refl _) _) (Nat.le_refl _) _
                revert hB hG
                generalize ((w3.setCell ⟨w.heap.size, 0, none⟩ (.int .i64 e)).setCell ⟨w.heap.size, 1, none⟩ (.int .i64 k)) = Y9
                intro hB hG
                obtain ⟨b9, f9⟩ := hB.rules
                refine bodyPost_ret (v := .tuple #[.slice none 0 0, .agg #[.int .i64 e, .int .i64 k]]) (by simp [results, Try.results92, go_sem, b9]) rfl ?_
                exact ⟨none, [], 0, by rw [eR]; rfl, ins_nil _, by rw [eR]; rfl, hG⟩
        · obtain ⟨j, hj⟩ : ∃ j, k = j + 1 := ⟨k - 1, by omega⟩
          obtain ⟨p, hpk⟩ : ∃ p, ss[j]? = some p := ⟨_, List.getElem?_eq_getElem (by omega)⟩
          obtain ⟨gy, oy, ey, cy1, _⟩ := (H.out.s.grow (G.trans hg)) j p hpk
          cases ey
          have ip := Lib.hid ((H.out.each p (List.mem_of_getElem? hpk)).grow (G.trans hg))
          have l0 : lastZ (ss.map S.z) k = p.z := by rw [hj]; exact lastZ_at hpk
          have dk : decide (0 < k) = true := decide_eq_true (by omega)
          have hwp : IntKind.i64.wrap ((k : Int) - 1) = (j : Int) := by rw [IntKind.wrap_i64]; omega
          have j0 : (0 : Int) ≤ (j : Int) := by omega
          have j1 : (j : Int) < (ss.length : Int) := by omega
          have j2 : j < ss.length := by omega
          clear hpk hj hk0
          clear l0
          go_upto_region 13 with fail
          have hc1 : k + 1 ≤ c := by omega
          go_wp2
          go_loopw [9, 11, 38] (fun uz ue j wr => ∃ (q : Nat) (Q : S) (ee : Int), q ≤ k + 1 ∧ j = .int .i64 q ∧ uz = .slice Q.A Q.xs.length Q.cap ∧ ue = .int .i64 ee ∧ In wr Q ∧ Q.z = chZ (ss.map S.z) q ∧ (q ≤ k → ee = 0) ∧ (q = k + 1 → ee = e) ∧ Grow wa wr) (fun _ _ j _ => k + 1 - (intOf j).toNat)
          case atStart => exact ⟨0, S.mk none [] 0, 0, by omega, rfl, rfl, rfl, in_nil _, rfl, fun _ => rfl, fun h => by omega, Grow.refl _⟩
          case round =>
            obtain ⟨q, Q, ee, hq, rfl, rfl, rfl, iQ, zQ, hee0, hee, hgq⟩ := hrel
            have IQ := Lib.hid (And.intro iQ zQ)
            clear iQ zQ
            by_cases hql : q < k + 1
            · have dq : decide ((q : Int) < (k : Int) + 1) = true := decide_eq_true (by omega)
              obtain ⟨p, hpk⟩ : ∃ p, ss[q]? = some p := ⟨_, List.getElem?_eq_getElem (by omega)⟩
              obtain ⟨gy, oy, ey, cy1, _⟩ := (H.out.s.grow (G.trans (hg.trans hgq))) q p hpk
              cases ey
              have ip := Lib.hid ((H.out.each p (List.mem_of_getElem? hpk)).grow (G.trans (hg.trans hgq)))
              obtain ⟨T', e', hT'⟩ : ∃ T' e', bothZ (chZ (ss.map S.z) q) p.z 1 = (T', e') := ⟨_, _, rfl⟩
              have sT' := Lib.hid (show smlZ T' by have this : smlZ (bothZ (chZ (ss.map S.z) q) p.z 1).1 := both_sml _ _ _; rw [hT'] at this; exact this)
              have hch : chZ (ss.map S.z) (q + 1) = T' := by rw [chZ_at hpk, hT']
              have he1 : q + 1 ≤ k → e' = 0 := fun h => by have := Pre.out q (by omega) p hpk; rw [hT'] at this; exact this
              have he2 : q + 1 = k + 1 → e' = e := fun h => by
                obtain rfl : q = k := by omega
                have hps : p = s := by have := hpk.symm.trans Hsk.out; simpa using this
                subst hps
                have h9 : bothZ (chZ (ss.map S.z) q) p.z 1 = (T, e) := HT.out
                rw [hT'] at h9
                exact (Prod.mk.inj h9).2
              have Hch := Lib.hid (And.intro hch (And.intro he1 he2))
              have cb : Calls Try.prog 78 #[.slice Q.A Q.xs.length Q.cap, .slice p.A p.xs.length p.cap, .int .i64 1] wr fun en w' => Gives wr w' en (T', e') := by
                have := rboth_s Q p 1 (.inl rfl) wr IQ.out.1 ip.out
                rw [IQ.out.2, hT'] at this
                exact this
              have j0 : (0 : Int) ≤ (q : Int) := by omega
              have j1 : (q : Int) < (k : Int) + 1 := by omega
              clear hpk hT' hch he1 he2 hee0 hee
              go_wp2_with (go_at_call 78; ((with_reducible refine cb.mono ?_); rintro e1 w3 ⟨D, ds, cap3, rfl, hz3, hm3, hk3, hg3⟩; have Y := Lib.hid (And.intro (show S.z (S.mk D ds cap3) = T' from hm3) (In.sml hz3 hk3 (by rw [hm3]; exact sT'.out))); clear hz3 hm3 hk3))
              go_roundw
              case rel => exact ⟨q + 1, S.mk D ds cap3, e', by omega, by go_num, rfl, rfl, Y.out.2, by rw [Hch.out.1]; exact Y.out.1, Hch.out.2.1, Hch.out.2.2, hgq.trans hg3⟩
              case measure => simp [intOf]; omega
            · obtain rfl : q = k + 1 := by omega
              have dq : decide ((((k + 1 : Nat) : Int)) < (k : Int) + 1) = false := decide_eq_false (by omega)
              have eee : e = ee := (hee rfl).symm
              subst eee
              obtain ⟨D, ds, cap3⟩ := Q
              have hT1 : chZ (ss.map S.z) (k + 1) = T := by rw [chZ_at Hsk.out]; exact congrArg Prod.fst HT.out
              have Y := Lib.hid (And.intro (show S.z (S.mk D ds cap3) = T from IQ.out.2.trans hT1) IQ.out.1)
              have HT1 := Lib.hid hT1
              have hg3 := hgq
              rename World => w3
              clear hT1 hgq hee hee0
              have Own3 := Lib.hid (Own.out.grow hg3)
              by_cases he : e = 0
              · have de : (e != 0) = false := by simpa using he
                go_wp2_with (at_builtin; refine wpList_append_S rfl _ _ rfl X.heap.size _ outs.length outs rfl (Own3.out.grow ((Grow.refl _).al _)) _ (S.mk D ds cap3) rfl _ (Blk.new _ _ _) (by omega) (by have := (hg.trans hg3).size; simp; omega) ?_; intro v7 w7 own7 gr7)
                have G7 : Grow X w7 := grow_own ((hg.trans hg3).al _) gr7 (Own3.out.grow ((Grow.refl _).al _)).1
                have K7 : ∀ s, In w3 s → In w7 s := fun s h => In.gb (h.grow ((Grow.refl _).al _)) (Own3.out.grow ((Grow.refl _).al _)).2 gr7
                have K := Lib.hid K7
                have Own7 := Lib.hid own7
                clear own7 gr7 K7
                go_roundw
                case rel =>
                  refine ⟨k + 1, outs ++ [S.mk D ds cap3], by omega, by go_num, by simpa using Own7.out, fun u hu => ?_, by simp; omega, ?_, ?_, G7⟩
                  · rcases List.mem_append.1 hu with hu | hu
                    · exact K.out _ ((Os.out u hu).grow hg3)
                    · simp at hu; subst hu; exact K.out _ Y.out.2
                  · have h9 := Inv2.out
                    rw [if_neg (by simpa using he), alR_alR] at h9
                    rw [List.map_append, List.map_cons, List.map_nil, show S.z (S.mk D ds cap3) = T from Y.out.1]
                    rw [lastZ_at Hsk.out, HT1.out]; exact h9
                  · intro j hj p hp; by_cases hjk : j < k; exact Pre.out j hjk p hp; obtain rfl : j = k := (by omega); have hps : p = s := by (have := hp.symm.trans Hsk.out; simpa using this)
                    subst hps
                    have h9 : bothZ (chZ (ss.map S.z) j) p.z 1 = (T, e) := HT.out
                    rw [h9]; exact he
                case measure => simp [intOf]; omega
              · have de : (e != 0) = true := by simpa using he
                have eR : R = ([], e, (k : Int)) := by have := Inv2.out; rw [if_pos he, alR_err _ he] at this; exact this.symm
                obtain ⟨b5, f5⟩ := (HB5.out.grow (hg.trans hg3)).rules
                go_wp2
                have hB : Blk ((w3.setCell ⟨w.heap.size, 0, none⟩ (.int .i64 e)).setCell ⟨w.heap.size, 1, none⟩ (.int .i64 k)) w.heap.size 81 #[.int .i64 e, .int .i64 k] := ((HB5.out.grow (hg.trans hg3)).set 0 _).set 1 _
                have hG : Grow w ((w3.setCell ⟨w.heap.size, 0, none⟩ (.int .i64 e)).setCell ⟨w.heap.size, 1, none⟩ (.int .i64 k)) := Grow.set (Grow.set (G.trans (hg.trans hg3)) (Nat.le_refl _) _) (Nat.le_refl _) _
                revert hB hG
                generalize ((w3.setCell ⟨w.heap.size, 0, none⟩ (.int .i64 e)).setCell ⟨w.heap.size, 1, none⟩ (.int .i64 k)) = Y9
                intro hB hG
                obtain ⟨b9, f9⟩ := hB.rules
                refine bodyPost_ret (v := .tuple #[.slice none 0 0, .agg #[.int .i64 e, .int .i64 k]]) (by simp [results, Try.results92, go_sem, b9]) rfl ?_
                exact ⟨none, [], 0, by rw [eR]; rfl, ins_nil _, by rw [eR]; rfl, hG⟩
      · obtain rfl : k = ss.length := by omega
        have eR : R = (outs.map S.z, 0, 0) := by have h9 := Inv.out; rw [List.drop_length] at h9; rw [← h9]; exact alR_end _
        obtain ⟨D, cap, rfl, hin⟩ := own_ins Own.out.1 Os.out (by omega)
        have Hin := Lib.hid hin
        obtain ⟨b5, f5⟩ := (HB5.out.grow hg).rules
        clear hin
        go_wp2
        have hB : Blk ((wa.setCell ⟨w.heap.size, 0, none⟩ (.int .i64 0)).setCell ⟨w.heap.size, 1, none⟩ (.int .i64 0)) w.heap.size 81 #[.int .i64 0, .int .i64 0] := ((HB5.out.grow hg).set 0 _).set 1 _
        have hG : Grow w ((wa.setCell ⟨w.heap.size, 0, none⟩ (.int .i64 0)).setCell ⟨w.heap.size, 1, none⟩ (.int .i64 0)) := Grow.set (Grow.set (G.trans hg) (Nat.le_refl _) _) (Nat.le_refl _) _
        have hiY : InS ((wa.setCell ⟨w.heap.size, 0, none⟩ (.int .i64 0)).setCell ⟨w.heap.size, 1, none⟩ (.int .i64 0)) D outs cap := InS.fault Hin.out (HB5.out.grow hg) 0 0
        revert hB hG hiY
        generalize ((wa.setCell ⟨w.heap.size, 0, none⟩ (.int .i64 0)).setCell ⟨w.heap.size, 1, none⟩ (.int .i64 0)) = Y9
        intro hB hG hi
        obtain ⟨b9, f9⟩ := hB.rules
        refine bodyPost_ret (v := .tuple #[.slice D outs.length cap, .agg #[.int .i64 0, .int .i64 0]]) (by simp [results, Try.results92, go_sem, b9]) rfl ?_
        exact ⟨D, outs, cap, by rw [eR], hi, by rw [eR], hG⟩
  · have d0 : (E != 0) = true := by simpa using h0
    obtain ⟨b5, f5⟩ := B5.rules
    go_wp2
    go_big_region_o
    go_wp2
    have eR : R = ([], E, P) := by rw [← HR.out]; unfold alongZ; rw [HE.out, if_pos h0]
    have hB : Blk (((X.setCell ⟨w.heap.size, 0, none⟩ (.int .i64 E)).setCell ⟨w.heap.size, 1, none⟩ (.int .i64 P)).drew) w.heap.size 81 #[.int .i64 E, .int .i64 P] := Blk.drew ((HB5.out.set 0 _).set 1 _)
    have hG : Grow w (((X.setCell ⟨w.heap.size, 0, none⟩ (.int .i64 E)).setCell ⟨w.heap.size, 1, none⟩ (.int .i64 P)).drew) := Grow.drew (Grow.set (Grow.set G (Nat.le_refl _) _) (Nat.le_refl _) _)
    revert hB hG
    generalize (((X.setCell ⟨w.heap.size, 0, none⟩ (.int .i64 E)).setCell ⟨w.heap.size, 1, none⟩ (.int .i64 P)).drew) = Y9
    intro hB hG
    obtain ⟨b9, f9⟩ := hB.rules
    refine bodyPost_ret (v := .tuple #[.slice none 0 0, .agg #[.int .i64 E, .int .i64 P]]) (by simp [results, Try.results92, go_sem, b9]) rfl ?_
    exact ⟨none, [], 0, by rw [eR]; rfl, ins_nil _, by rw [eR]; rfl, hG⟩
end Go.Proofs.Ytjhcbehnopmnpaa
