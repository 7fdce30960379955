/-
  Joined texts of this claim: St1, St2, ReadS, St3. What each proves its own head says; no condition beside those that each theorem names.
-/
import Derived.Test.YtjhcbehnopmnpaaHLawZSmall
import Derived.Test.YtjhcbehnopmnpaaGH
/-
  Streams: what is wrong with one.
-/
namespace Go.Proofs.Ytjhcbehnopmnpaa
open Go.RowKit Go.Calm
set_option linter.unusedSimpArgs false
set_option linter.unusedVariables false

/-- the first set that is wrong, and where -/
def swgo : Nat → List (List Z) → Int × Int
  | _, [] => (0, 0)
  | i, z :: l => if wrongZ z ≠ 0 then (wrongZ z, (i : Int)) else swgo (i + 1) l
def swrong (l : List (List Z)) : Int × Int := if 30 < l.length then (5, 0) else swgo 0 l
theorem swgo_at {ss : List S} {k : Nat} {s : S} (h : ss[k]? = some s) : swgo k ((ss.drop k).map S.z) = if wrongZ s.z ≠ 0 then (wrongZ s.z, (k : Int)) else swgo (k + 1) ((ss.drop (k + 1)).map S.z) := by
  obtain ⟨h1, e1⟩ := List.getElem?_eq_some_iff.1 h
  rw [List.drop_eq_getElem_cons h1, e1]; rfl
theorem swgo_zero : ∀ (l : List (List Z)) (i : Nat), (swgo i l).1 = 0 ↔ ∀ z ∈ l, wrongZ z = 0
  | [], i => by simp [swgo]
  | z :: l, i => by
    have ih := swgo_zero l (i + 1)
    unfold swgo
    simp only [List.mem_cons, forall_eq_or_imp]
    split
    · rename_i h; exact ⟨fun e => absurd e h, fun e => absurd e.1 h⟩
    · rename_i h
      have h : wrongZ z = 0 := by simpa using h
      rw [ih]; exact ⟨fun e => ⟨h, e⟩, fun e => e.2⟩
theorem swrong_zero (l : List (List Z)) : (swrong l).1 = 0 ↔ l.length ≤ 30 ∧ ∀ z ∈ l, wrongZ z = 0 := by
  unfold swrong
  split
  · exact ⟨fun h => by simp at h, fun h => by omega⟩
  · rw [swgo_zero]; exact ⟨fun h => ⟨by omega, h⟩, fun h => h.2⟩
/-- a stream in memory -/
structure InS (w : World) (A : Option Addr) (ss : List S) (c : Nat) : Prop where
  s : SIn w A ss
  each : ∀ s ∈ ss, In w s
  sl : SlOk A ss.length c
  len : ss.length ≤ 9223372036854775807
theorem InS.grow {w w' : World} {A : Option Addr} {ss : List S} {c : Nat} (h : InS w A ss c) (hg : Grow w w') : InS w' A ss c := ⟨h.s.grow hg, fun s hs => (h.each s hs).grow hg, h.sl, h.len⟩
set_option maxRecDepth 100000 in
set_option maxHeartbeats 8000000 in
theorem swrong_any (ss : List S) (A : Option Addr) (c : Nat) (w : World) (h : InS w A ss c) (R : Int × Int) (hR : swrong (ss.map S.z) = R) :
    Calls Try.prog 153 #[.slice A ss.length c] w fun en w' => en = .returned (.agg #[.int .i64 R.1, .int .i64 R.2]) ∧ Grow w w' := by
  have hlen := h.len
  have H := Lib.hid h
  have HR := Lib.hid hR
  clear h hR
  go_enter Try.func153, Try.ntmps153
  go_upto_region 1 with fail
  refine wp_forget (fun X => Blk X w.heap.size 81 #[.int .i64 0, .int .i64 0] ∧ Grow w X) ⟨Blk.new _ _ _, (Grow.refl w).al _⟩ ?_
  rintro X ⟨Bx, G⟩
  by_cases h8 : 30 < ss.length
  · have d8 : decide ((30 : Int) < (ss.length : Int)) = true := decide_eq_true (by omega)
    obtain ⟨bx, fx⟩ := Bx.rules
    have e : R = (5, 0) := by rw [← HR.out]; unfold swrong; rw [if_pos (by simpa using h8)]
    subst e
    go_wp2
    have hB : Blk ((X.setCell ⟨w.heap.size, 0, none⟩ (.int .i64 5)).setCell ⟨w.heap.size, 1, none⟩ (.int .i64 0)) w.heap.size 81 #[.int .i64 5, .int .i64 0] := (Bx.set 0 _).set 1 _
    have hG : Grow w ((X.setCell ⟨w.heap.size, 0, none⟩ (.int .i64 5)).setCell ⟨w.heap.size, 1, none⟩ (.int .i64 0)) := Grow.set (Grow.set G (Nat.le_refl _) _) (Nat.le_refl _) _
    revert hB hG
    generalize ((X.setCell ⟨w.heap.size, 0, none⟩ (.int .i64 5)).setCell ⟨w.heap.size, 1, none⟩ (.int .i64 0)) = Y
    intro hB hG
    obtain ⟨b9, f9⟩ := hB.rules
    refine bodyPost_ret (v := .agg #[.int .i64 5, .int .i64 0]) (by simp [results, Try.results153, go_sem, b9]) rfl ?_
    exact ⟨rfl, hG⟩
  · have d8 : decide ((30 : Int) < (ss.length : Int)) = false := decide_eq_false (by omega)
    have inv0 : swgo 0 ((ss.drop 0).map S.z) = R := by rw [← HR.out]; unfold swrong; rw [if_neg (by simpa using h8), List.drop_zero]
    have Inv0 := Lib.hid inv0
    clear inv0
    have Bx := Lib.hid Bx
    go_wp2
    go_loopw [12] (fun i wr => ∃ k : Nat, k ≤ ss.length ∧ i = .int .i64 k ∧ swgo k ((ss.drop k).map S.z) = R ∧ Grow X wr) (fun i _ => ss.length - (intOf i).toNat)
    case atStart => exact ⟨0, Nat.zero_le _, rfl, Inv0.out, Grow.refl _⟩
    case round =>
      obtain ⟨k, hk, rfl, hinv, hg⟩ := hrel
      have Inv := Lib.hid hinv
      clear hinv
      by_cases hlt : k < ss.length
      · obtain ⟨s, hsk⟩ : ∃ s, ss[k]? = some s := ⟨_, List.getElem?_eq_getElem hlt⟩
        have inv2 := (swgo_at hsk).symm.trans Inv.out
        have is := H.out.each s (List.mem_of_getElem? hsk)
        obtain ⟨g, o, rfl, c1, _⟩ := (H.out.s.grow (G.trans hg)) k s hsk
        obtain ⟨E, hE⟩ : ∃ E, wrongZ s.z = E := ⟨_, rfl⟩
        rw [hE] at inv2
        have cs := fun W (h : Grow wr W) => wrongz_any s.xs s.A s.cap W is.ok.1 (is.z.grow ((G.trans hg).trans h)) is.ok.2 E hE
        have Inv2 := Lib.hid inv2
        clear inv2 hsk is hE
        by_cases h0 : E = 0
        · have d0 : (E != 0) = false := by simpa using h0
          go_wp2_with (go_at_call 66; ((with_reducible refine (cs _ (Grow.refl _)).mono ?_); rintro e w2 ⟨rfl, hg2⟩))
          go_roundw
          case rel => exact ⟨k + 1, by omega, by go_num, by have := Inv2.out; rw [if_neg (by simpa using h0)] at this; exact this, hg.trans hg2⟩
          case measure => simp [intOf]; omega
        · have d0 : (E != 0) = true := by simpa using h0
          have e : R = (E, (k : Int)) := by have := Inv2.out; rw [if_pos h0] at this; exact this.symm
          subst e
          go_upto_region 8 with (go_at_call 66; ((with_reducible refine (cs _ (Grow.refl _)).mono ?_); rintro e w2 ⟨rfl, hg2⟩))
          obtain ⟨bx, fx⟩ := (Bx.out.grow (hg.trans hg2)).rules
          go_wp2
          have hB : Blk ((w2.setCell ⟨w.heap.size, 0, none⟩ (.int .i64 E)).setCell ⟨w.heap.size, 1, none⟩ (.int .i64 (k : Int))) w.heap.size 81 #[.int .i64 E, .int .i64 (k : Int)] := ((Bx.out.grow (hg.trans hg2)).set 0 _).set 1 _
          have hG : Grow w ((w2.setCell ⟨w.heap.size, 0, none⟩ (.int .i64 E)).setCell ⟨w.heap.size, 1, none⟩ (.int .i64 (k : Int))) := Grow.set (Grow.set (G.trans (hg.trans hg2)) (Nat.le_refl _) _) (Nat.le_refl _) _
          revert hB hG
          generalize ((w2.setCell ⟨w.heap.size, 0, none⟩ (.int .i64 E)).setCell ⟨w.heap.size, 1, none⟩ (.int .i64 (k : Int))) = Y
          intro hB hG
          obtain ⟨b9, f9⟩ := hB.rules
          refine bodyPost_ret (v := .agg #[.int .i64 E, .int .i64 (k : Int)]) (by simp [results, Try.results153, go_sem, b9]) rfl ?_
          exact ⟨rfl, hG⟩
      · obtain rfl : k = ss.length := by omega
        have e : R = (0, 0) := by have := Inv.out; rw [List.drop_length] at this; exact this.symm
        subst e
        obtain ⟨bx, fx⟩ := (Bx.out.grow hg).rules
        go_wp2
        have hB : Blk ((wr.setCell ⟨w.heap.size, 0, none⟩ (.int .i64 0)).setCell ⟨w.heap.size, 1, none⟩ (.int .i64 0)) w.heap.size 81 #[.int .i64 0, .int .i64 0] := ((Bx.out.grow hg).set 0 _).set 1 _
        have hG : Grow w ((wr.setCell ⟨w.heap.size, 0, none⟩ (.int .i64 0)).setCell ⟨w.heap.size, 1, none⟩ (.int .i64 0)) := Grow.set (Grow.set (G.trans hg) (Nat.le_refl _) _) (Nat.le_refl _) _
        revert hB hG
        generalize ((wr.setCell ⟨w.heap.size, 0, none⟩ (.int .i64 0)).setCell ⟨w.heap.size, 1, none⟩ (.int .i64 0)) = Y
        intro hB hG
        obtain ⟨b9, f9⟩ := hB.rules
        refine bodyPost_ret (v := .agg #[.int .i64 0, .int .i64 0]) (by simp [results, Try.results153, go_sem, b9]) rfl ?_
        exact ⟨rfl, hG⟩
set_option maxRecDepth 100000 in
set_option maxHeartbeats 8000000 in
theorem rswrong_any (ss : List S) (A : Option Addr) (c : Nat) (w : World) (h : InS w A ss c) (R : Int × Int) (hR : swrong (ss.map S.z) = R) :
    Calls Try.prog 138 #[.slice A ss.length c] w fun en w' => en = .returned (.agg #[.int .i64 R.1, .int .i64 R.2]) ∧ Grow w w' := by
  have hlen := h.len
  have H := Lib.hid h
  have HR := Lib.hid hR
  clear h hR
  go_enter Try.func138, Try.ntmps138
  go_upto_region 1 with fail
  refine wp_forget (fun X => Blk X w.heap.size 81 #[.int .i64 0, .int .i64 0] ∧ Grow w X) ⟨Blk.new _ _ _, (Grow.refl w).al _⟩ ?_
  rintro X ⟨Bx, G⟩
  by_cases h8 : 30 < ss.length
  · have d8 : decide ((30 : Int) < (ss.length : Int)) = true := decide_eq_true (by omega)
    obtain ⟨bx, fx⟩ := Bx.rules
    have e : R = (5, 0) := by rw [← HR.out]; unfold swrong; rw [if_pos (by simpa using h8)]
    subst e
    go_wp2
    have hB : Blk ((X.setCell ⟨w.heap.size, 0, none⟩ (.int .i64 5)).setCell ⟨w.heap.size, 1, none⟩ (.int .i64 0)) w.heap.size 81 #[.int .i64 5, .int .i64 0] := (Bx.set 0 _).set 1 _
    have hG : Grow w ((X.setCell ⟨w.heap.size, 0, none⟩ (.int .i64 5)).setCell ⟨w.heap.size, 1, none⟩ (.int .i64 0)) := Grow.set (Grow.set G (Nat.le_refl _) _) (Nat.le_refl _) _
    revert hB hG
    generalize ((X.setCell ⟨w.heap.size, 0, none⟩ (.int .i64 5)).setCell ⟨w.heap.size, 1, none⟩ (.int .i64 0)) = Y
    intro hB hG
    obtain ⟨b9, f9⟩ := hB.rules
    refine bodyPost_ret (v := .agg #[.int .i64 5, .int .i64 0]) (by simp [results, Try.results138, go_sem, b9]) rfl ?_
    exact ⟨rfl, hG⟩
  · have d8 : decide ((30 : Int) < (ss.length : Int)) = false := decide_eq_false (by omega)
    have inv0 : swgo 0 ((ss.drop 0).map S.z) = R := by rw [← HR.out]; unfold swrong; rw [if_neg (by simpa using h8), List.drop_zero]
    have Inv0 := Lib.hid inv0
    clear inv0
    have Bx := Lib.hid Bx
    go_wp2
    go_loopw [11] (fun i wr => ∃ k : Nat, k ≤ ss.length ∧ i = .int .i64 k ∧ swgo k ((ss.drop k).map S.z) = R ∧ Grow X wr) (fun i _ => ss.length - (intOf i).toNat)
    case atStart => exact ⟨0, Nat.zero_le _, rfl, Inv0.out, Grow.refl _⟩
    case round =>
      obtain ⟨k, hk, rfl, hinv, hg⟩ := hrel
      have Inv := Lib.hid hinv
      clear hinv
      by_cases hlt : k < ss.length
      · obtain ⟨s, hsk⟩ : ∃ s, ss[k]? = some s := ⟨_, List.getElem?_eq_getElem hlt⟩
        have inv2 := (swgo_at hsk).symm.trans Inv.out
        have is := H.out.each s (List.mem_of_getElem? hsk)
        obtain ⟨g, o, rfl, c1, _⟩ := (H.out.s.grow (G.trans hg)) k s hsk
        obtain ⟨E, hE⟩ : ∃ E, wrongZ s.z = E := ⟨_, rfl⟩
        rw [hE] at inv2
        have cs := fun W (h : Grow wr W) => rwrongz_any s.xs s.A s.cap W is.ok.1 (is.z.grow ((G.trans hg).trans h)) is.ok.2 E hE
        have Inv2 := Lib.hid inv2
        clear inv2 hsk is hE
        by_cases h0 : E = 0
        · have d0 : (E != 0) = false := by simpa using h0
          go_wp2_with (go_at_call 67; ((with_reducible refine (cs _ (Grow.refl _)).mono ?_); rintro e w2 ⟨rfl, hg2⟩))
          go_roundw
          case rel => exact ⟨k + 1, by omega, by go_num, by have := Inv2.out; rw [if_neg (by simpa using h0)] at this; exact this, hg.trans hg2⟩
          case measure => simp [intOf]; omega
        · have d0 : (E != 0) = true := by simpa using h0
          have e : R = (E, (k : Int)) := by have := Inv2.out; rw [if_pos h0] at this; exact this.symm
          subst e
          go_upto_region 8 with (go_at_call 67; ((with_reducible refine (cs _ (Grow.refl _)).mono ?_); rintro e w2 ⟨rfl, hg2⟩))
          obtain ⟨bx, fx⟩ := (Bx.out.grow (hg.trans hg2)).rules
          go_wp2
          have hB : Blk ((w2.setCell ⟨w.heap.size, 0, none⟩ (.int .i64 E)).setCell ⟨w.heap.size, 1, none⟩ (.int .i64 (k : Int))) w.heap.size 81 #[.int .i64 E, .int .i64 (k : Int)] := ((Bx.out.grow (hg.trans hg2)).set 0 _).set 1 _
          have hG : Grow w ((w2.setCell ⟨w.heap.size, 0, none⟩ (.int .i64 E)).setCell ⟨w.heap.size, 1, none⟩ (.int .i64 (k : Int))) := Grow.set (Grow.set (G.trans (hg.trans hg2)) (Nat.le_refl _) _) (Nat.le_refl _) _
          revert hB hG
          generalize ((w2.setCell ⟨w.heap.size, 0, none⟩ (.int .i64 E)).setCell ⟨w.heap.size, 1, none⟩ (.int .i64 (k : Int))) = Y
          intro hB hG
          obtain ⟨b9, f9⟩ := hB.rules
          refine bodyPost_ret (v := .agg #[.int .i64 E, .int .i64 (k : Int)]) (by simp [results, Try.results138, go_sem, b9]) rfl ?_
          exact ⟨rfl, hG⟩
      · obtain rfl : k = ss.length := by omega
        have e : R = (0, 0) := by have := Inv.out; rw [List.drop_length] at this; exact this.symm
        subst e
        obtain ⟨bx, fx⟩ := (Bx.out.grow hg).rules
        go_wp2
        have hB : Blk ((wr.setCell ⟨w.heap.size, 0, none⟩ (.int .i64 0)).setCell ⟨w.heap.size, 1, none⟩ (.int .i64 0)) w.heap.size 81 #[.int .i64 0, .int .i64 0] := ((Bx.out.grow hg).set 0 _).set 1 _
        have hG : Grow w ((wr.setCell ⟨w.heap.size, 0, none⟩ (.int .i64 0)).setCell ⟨w.heap.size, 1, none⟩ (.int .i64 0)) := Grow.set (Grow.set (G.trans hg) (Nat.le_refl _) _) (Nat.le_refl _) _
        revert hB hG
        generalize ((wr.setCell ⟨w.heap.size, 0, none⟩ (.int .i64 0)).setCell ⟨w.heap.size, 1, none⟩ (.int .i64 0)) = Y
        intro hB hG
        obtain ⟨b9, f9⟩ := hB.rules
        refine bodyPost_ret (v := .agg #[.int .i64 0, .int .i64 0]) (by simp [results, Try.results138, go_sem, b9]) rfl ?_
        exact ⟨rfl, hG⟩
end Go.Proofs.Ytjhcbehnopmnpaa

/-
  Streams, plainly; lists of sets in rows of the call's own; the reference's Same of lists.
-/
namespace Go.Proofs.Ytjhcbehnopmnpaa
open Go.RowKit Go.Calm
set_option linter.unusedSimpArgs false
set_option linter.unusedVariables false

/-- what was made, ahead of what comes of the rest -/
def alR (outs : List (List Z)) (r : List (List Z) × Int × Int) : List (List Z) × Int × Int := if r.2.1 ≠ 0 then ([], r.2) else (outs ++ r.1, 0, 0)
theorem alR_alR (outs : List (List Z)) (s : List Z) (r : List (List Z) × Int × Int) : alR outs (alR [s] r) = alR (outs ++ [s]) r := by
  unfold alR
  by_cases h : r.2.1 = 0
  · simp [h]
  · simp [h]
/-- along a stream, with what was made ahead and what came ahead -/
def alG (F : List Z → List Z → List Z → List Z × Int) : Nat → List Z → List Z → List (List Z) → List (List Z) × Int × Int
  | _, _, _, [] => ([], 0, 0)
  | i, m, la, z :: l => if (F m la z).2 ≠ 0 then ([], (F m la z).2, (i : Int)) else alR [(F m la z).1] (alG F (i + 1) (F m la z).1 z l)
def alongZ (F : List Z → List Z → List Z → List Z × Int) (l : List (List Z)) : List (List Z) × Int × Int := if (swrong l).1 ≠ 0 then ([], swrong l) else alR [] (alG F 0 [] [] l)
theorem alG_at (F : List Z → List Z → List Z → List Z × Int) {ss : List S} {k : Nat} {s : S} (m la : List Z) (h : ss[k]? = some s) : alG F k m la ((ss.drop k).map S.z) = if (F m la s.z).2 ≠ 0 then ([], (F m la s.z).2, (k : Int)) else alR [(F m la s.z).1] (alG F (k + 1) (F m la s.z).1 s.z ((ss.drop (k + 1)).map S.z)) := by
  obtain ⟨h1, e1⟩ := List.getElem?_eq_some_iff.1 h
  rw [List.drop_eq_getElem_cons h1, e1]; rfl
theorem alR_err (outs : List (List Z)) {e a : Int} (h : e ≠ 0) : alR outs ([], e, a) = ([], e, a) := by unfold alR; rw [if_pos h]
theorem alR_end (outs : List (List Z)) : alR outs ([], 0, 0) = (outs, 0, 0) := by unfold alR; simp
def Fi (m la z : List Z) : List Z × Int := bothZ m z 1
def Fd (m la z : List Z) : List Z × Int := bothZ z la (-1)
def Fz (m la z : List Z) : List Z × Int := bothZ la [] 1
theorem wrong_nil : wrongZ [] = 0 := rfl
theorem both_nil {l : List Z} (h : wrongZ l = 0) : bothZ l [] 1 = sumZ l := by
  unfold bothZ
  rw [if_neg (by rw [h]; simp), if_neg (by rw [wrong_nil]; simp)]
  simp [scaleZ]

/-! lists of sets in own rows -/
def S.v' (s : S) : Value := .slice s.A s.xs.length s.cap
def flatS (ss : List S) : List Value := ss.map S.v'
theorem flatS_append (a b : List S) : flatS (a ++ b) = flatS a ++ flatS b := by simp [flatS]
theorem info_zrs : ∃ ti, Try.prog.info? 62 = some ti ∧ ti.zero = some (.slice none 0 0) ∧ ti.size = 1 ∧ ti.bytes = 24 := by
  have h : (Try.prog.info? 62).map (fun i => (i.zero, i.size, i.bytes)) = some (some (.slice none 0 0), 1, 24) := by kernel_rfl
  cases hi : Try.prog.info? 62 with
  | none => rw [hi] at h; simp at h
  | some i => rw [hi] at h; simp at h; exact ⟨i, rfl, h⟩
/-- the row's block holds slices alone -/
def allS (w : World) (v : Value) : Prop := ∀ g, v.ownBlock = some g → ∀ j u, w.cell? ⟨g, j, none⟩ = some u → ∃ a l c, u = .slice a l c
def OwnS (w : World) (base : Nat) (v : Value) (n : Nat) (ss : List S) : Prop := w.ownsRow base 62 1 v n (flatS ss) ∧ allS w v
theorem OwnS.grow {w w' : World} {base n : Nat} {v : Value} {ss : List S} (h : OwnS w base v n ss) (hg : Grow w w') : OwnS w' base v n ss := by
  refine ⟨own_grow h.1 hg, fun g hv j u hu => h.2 g hv j u ?_⟩
  rw [← hg.rules.1 g j (h.1.lt g hv).2]; exact hu
theorem OwnS.nil (w : World) (base : Nat) : OwnS w base (.slice none 0 0) 0 [] := ⟨World.ownsRow_nil _ _ _ _, fun g hv => by simp [Value.ownBlock] at hv⟩
theorem ZIn.gb {w w' : World} {A : Option Addr} {xs : List I} {v : Value} (h : ZIn w A xs) (ha : allS w v) (hg : w.grownBy w' v.ownBlock) : ZIn w' A xs := fun i x hx => by
  obtain ⟨g, o, e, c1, c2, hv⟩ := h i x hx
  have hne : some g ≠ v.ownBlock := fun e2 => by
    obtain ⟨_, _, _, e3⟩ := ha g e2.symm _ _ c2
    cases e3
  refine ⟨g, o, e, World.grownBy.cell hg c1 hne, World.grownBy.cell hg c2 hne, fun k u hu => ?_⟩
  obtain ⟨g', o', e', d1, d2, d3⟩ := hv k u hu
  have hne' : some g' ≠ v.ownBlock := fun e2 => by
    obtain ⟨_, _, _, e3⟩ := ha g' e2.symm _ _ d1
    cases e3
  exact ⟨g', o', e', World.grownBy.cell hg d1 hne', World.grownBy.cell hg d2 hne', World.grownBy.cell hg d3 hne'⟩
theorem In.gb {w w' : World} {s : S} {v : Value} (h : In w s) (ha : allS w v) (hg : w.grownBy w' v.ownBlock) : In w' s := ⟨h.z.gb ha hg, h.sl, h.ok⟩
theorem blk_allS {w : World} {g : Nat} {t : TypeId} {cs : Array Value} {n c : Nat} (hb : Blk w g t cs) (h : ∀ u ∈ cs.toList, ∃ a l c, u = Value.slice a l c) : allS w (.slice (some ⟨g, 0, none⟩) n c) := fun g' e j u hu => by
  simp [Value.ownBlock] at e
  subst e
  rw [hb.cell] at hu
  exact h u (by rw [← Array.getElem?_toList] at hu; exact List.mem_of_getElem? hu)
theorem zeros_slice (n : Nat) : ∀ u ∈ (Builtin.zeroCells #[.slice none 0 0] n).toList, ∃ a l c, u = Value.slice a l c := fun u hu => by
  simp [Builtin.zeroCells] at hu
  obtain ⟨a, ha, rfl⟩ := hu
  refine ⟨none, 0, 0, ?_⟩
  have : a % 1 = 0 := Nat.mod_one a
  simp [this]
theorem flatS_slice (ss : List S) : ∀ u ∈ flatS ss, ∃ a l c, u = Value.slice a l c := fun u hu => by
  obtain ⟨s, _, rfl⟩ := List.mem_map.1 hu
  exact ⟨_, _, _, rfl⟩
theorem run_append_S {w : World} (ty : TypeId) (base : Nat) (v : Value) (n : Nat) (ss : List S) (hown : OwnS w base v n ss) (g : Nat) (y : S) (t : TypeId) (hb : Blk w g t #[.slice y.A y.xs.length y.cap]) (hB : n + 1 ≤ 100000) (hbase : base ≤ w.heap.size) :
    ∃ v' w', (Builtin.append_ #[79, 79] ty #[v, .slice (some ⟨g, 0, none⟩) 1 1]).run Try.prog w = .ok v' w' ∧ OwnS w' base v' (n + 1) (ss ++ [y]) ∧ w.grownBy w' v.ownBlock := by
  obtain ⟨ti, hti, hz0, hz1, hz2⟩ := info_zrs
  have hnews : ∀ (j : Nat) u, ([y.v'] : List Value)[j]? = some u → w.cell? ((⟨g, 0, none⟩ : Addr).add j) = some u := fun j u hj => by
    match j, hj with
    | 0, hj => simp at hj; subst hj; rw [addr_add, hb.cell]; rfl
  obtain ⟨v', w', hr, h2, h3, _⟩ := run_append_own (P := Try.prog) w base 79 ty 62 ti (.slice none 0 0) 1 24 Try.underlying79 hti hz0 hz1 hz2 rfl (by decide) v n (flatS ss) hown.1 ⟨g, 0, none⟩ 1 1 [y.v'] rfl hnews (fun u hu => by simp at hu; subst hu; rfl) (by unfold maxLen; omega) (by omega) hbase
  refine ⟨v', w', hr, ⟨by rw [flatS_append]; exact h2, ?_⟩, h3⟩
  have hy : ∃ a l c, y.v' = Value.slice a l c := ⟨_, _, _, rfl⟩
  rcases hown.1.2 with ⟨rfl, rfl⟩ | ⟨g0, cap, cur, rfl, hB0, hg0, hle, hmx, hcs, htk⟩
  · have hr2 := run_append_nil (P := Try.prog) w 79 ty 62 ti (.slice none 0 0) Try.underlying79 hti hz0 ⟨g, 0, none⟩ 1 1 [y.v'] (by rw [hz1]; rfl) hnews (by omega) (by omega) (by rw [hz2]; omega)
    have e := hr.symm.trans hr2
    simp only [Result.ok.injEq] at e
    obtain ⟨rfl, rfl⟩ := e
    refine blk_allS (Blk.new w.drew 62 _) (fun u hu => ?_)
    simp only [Array.toList_append, List.mem_append] at hu
    rcases hu with hu | hu
    · simp at hu; rw [hu]; exact hy
    · exact zeros_slice _ u hu
  · by_cases hroom : n + 1 ≤ cap
    · have hfit : n * ti.size + [y.v'].length ≤ cur.size := by rw [hz1, hcs]; simp; omega
      have hr2 := run_append_room (P := Try.prog) w 79 ty 62 ti Try.underlying79 hti g0 n cap cur hg0 ⟨g, 0, none⟩ 1 1 [y.v'] (by rw [hz1]; rfl) hnews (fun u hu => by simp at hu; subst hu; rfl) hroom hfit
      have e := hr.symm.trans hr2
      simp only [Result.ok.injEq] at e
      obtain ⟨rfl, rfl⟩ := e
      have hb0 : Blk w g0 62 cur := hg0
      have hcur : ∀ u ∈ cur.toList, ∃ a l c, u = Value.slice a l c := fun u hu => by
        obtain ⟨j, hj, ej⟩ := List.mem_iff_getElem.1 hu
        exact hown.2 g0 rfl j u (by rw [hb0.cell, ← Array.getElem?_toList, ← ej]; exact List.getElem?_eq_getElem hj)
      refine blk_allS (setRow_heap w g0 cur _ _ _ hg0) (fun u hu => ?_)
      simp only [List.toList_toArray, List.mem_append] at hu
      rcases hu with (hu | hu) | hu
      · exact hcur u (List.mem_of_mem_take hu)
      · simp at hu; rw [hu]; exact hy
      · exact hcur u (List.mem_of_mem_drop hu)
    · have holds : ∀ j u, (flatS ss)[j]? = some u → w.cell? ((⟨g0, 0, none⟩ : Addr).add j) = some u := hown.1.cells (g := g0) rfl
      have hr2 := run_append_grow (P := Try.prog) w 79 ty 62 ti (.slice none 0 0) Try.underlying79 hti hz0 ⟨g0, 0, none⟩ n cap (flatS ss) (by rw [hz1]; exact hown.1.1) holds ⟨g, 0, none⟩ 1 1 [y.v'] (by rw [hz1]; rfl) hnews (by omega) (by omega) (growslice_fits (by omega) (by rw [hz2]; omega))
      have e := hr.symm.trans hr2
      simp only [Result.ok.injEq] at e
      obtain ⟨rfl, rfl⟩ := e
      refine blk_allS (Blk.new w.drew 62 _) (fun u hu => ?_)
      simp only [Array.toList_append, List.mem_append] at hu
      rcases hu with (hu | hu) | hu
      · exact flatS_slice ss u (by simpa using hu)
      · simp at hu; rw [hu]; exact hy
      · exact zeros_slice _ u hu
theorem wpList_append_S {w : World} {ops : Array Oper} {rest : List Oper} {o : Oper} {a : Act} {Q : Exit → Act → World → Prop} (hgd : o.guard = none) (s x : Operand)
    (ho : o.op = .call { callee := .builtin .append, args := #[s, x], argTypes := #[79, 79] })
    (base : Nat) (v : Value) (n : Nat) (ss : List S) (hs : a.eval s = v) (hown : OwnS w base v n ss) (g : Nat) (y : S) (hx : a.eval x = .slice (some ⟨g, 0, none⟩) 1 1) (t : TypeId) (hb : Blk w g t #[.slice y.A y.xs.length y.cap]) (hB : n + 1 ≤ 100000) (hbase : base ≤ w.heap.size)
    (h : ∀ v' w', OwnS w' base v' (n + 1) (ss ++ [y]) → w.grownBy w' v.ownBlock → wpList Try.prog ops Q rest (a.put o.dst v') w') : wpList Try.prog ops Q (o :: rest) a w := by
  obtain ⟨v', w', hr, h1, h2⟩ := run_append_S o.type base v n ss hown g y t hb hB hbase
  exact Lib.wpList_append_run w hgd s x _ _ ho v (.slice (some ⟨g, 0, none⟩) 1 1) hs hx v' w' hr (h v' w' h1 h2)
theorem own_ins {w : World} {base : Nat} {v : Value} {n : Nat} {ss : List S} (h : w.ownsRow base 62 1 v n (flatS ss)) (hv : ∀ s ∈ ss, In w s) (hle : n ≤ 100000) : ∃ (B : Option Addr) (cap : Nat), v = .slice B ss.length cap ∧ InS w B ss cap := by
  have h1 := h.1
  simp only [flatS, List.length_map] at h1
  obtain rfl : n = ss.length := by omega
  obtain ⟨_, h⟩ := h
  rcases h with ⟨rfl, h0⟩ | ⟨gb, cap, cur, rfl, hB, hgb, hle2, hmx, hcs, htk⟩
  · have : ss = [] := List.length_eq_zero_iff.1 h0
    subst this
    exact ⟨none, 0, rfl, fun i x hx => by simp at hx, hv, SlOk.nil, by simp⟩
  · have hb : Blk w gb 62 cur := hgb
    refine ⟨some ⟨gb, 0, none⟩, cap, rfl, fun i s hs => ⟨gb, 0, rfl, ?_, (hv s (List.mem_of_getElem? hs)).z⟩, hv, ⟨hle2, fun e => by cases e⟩, by omega⟩
    have hi' : i < ss.length := (List.getElem?_eq_some_iff.1 hs).1
    have e : (flatS ss)[i]? = some s.v' := by simp [flatS, hs]
    rw [← htk, List.getElem?_take, if_pos (by omega)] at e
    rw [Nat.zero_add, hb.cell]
    simpa [S.v'] using e
/-- a list of sets and what is wrong, returned -/
def GivesL (w w' : World) (e : Ending) (r : List (List Z) × Int × Int) : Prop := ∃ (B : Option Addr) (ss : List S) (cap : Nat), e = .returned (.tuple #[.slice B ss.length cap, .agg #[.int .i64 r.2.1, .int .i64 r.2.2]]) ∧ InS w' B ss cap ∧ ss.map S.z = r.1 ∧ Grow w w'
theorem ins_nil (w : World) : InS w none [] 0 := ⟨fun i x hx => by simp at hx, fun s hs => by simp at hs, SlOk.nil, by simp⟩

theorem cell_other {w : World} {p q : Addr} (u : Value) (h : q.block ≠ p.block) {v : Value} (hc : w.cell? q = some v) : (w.setCell p u).cell? q = some v :=
  (World.cell?_of_block (Below.heap_setCell w p u q.block h)).trans hc
theorem ints_only {w : World} {g : Nat} {t : TypeId} {a b : Int} (hb : Blk w g t #[.int .i64 a, .int .i64 b]) {j : Nat} {v : Value} (h : w.cell? ⟨g, j, none⟩ = some v) : ∃ n, v = .int .i64 n := by
  rw [hb.cell] at h
  match j, h with
  | 0, h => simp at h; exact ⟨_, h.symm⟩
  | 1, h => simp at h; exact ⟨_, h.symm⟩
theorem ZIn.fset {w : World} {A : Option Addr} {xs : List I} {g : Nat} {t : TypeId} {a b : Int} (h : ZIn w A xs) (hb : Blk w g t #[.int .i64 a, .int .i64 b]) (j : Nat) (u : Value) : ZIn (w.setCell ⟨g, j, none⟩ u) A xs := fun i x hx => by
  obtain ⟨g1, o, e, c1, c2, hv⟩ := h i x hx
  have hne : g1 ≠ g := fun e2 => by
    subst e2
    obtain ⟨n, e3⟩ := ints_only hb c1
    cases e3
  refine ⟨g1, o, e, cell_other u hne c1, cell_other u hne c2, fun k y hy => ?_⟩
  obtain ⟨g', o', e', d1, d2, d3⟩ := hv k y hy
  have hne' : g' ≠ g := fun e2 => by
    subst e2
    obtain ⟨n, e3⟩ := ints_only hb d3
    cases e3
  exact ⟨g', o', e', cell_other u hne' d1, cell_other u hne' d2, cell_other u hne' d3⟩
theorem In.fset {w : World} {s : S} {g : Nat} {t : TypeId} {a b : Int} (h : In w s) (hb : Blk w g t #[.int .i64 a, .int .i64 b]) (j : Nat) (u : Value) : In (w.setCell ⟨g, j, none⟩ u) s := ⟨h.z.fset hb j u, h.sl, h.ok⟩
theorem InS.fset {w : World} {A : Option Addr} {ss : List S} {c g : Nat} {t : TypeId} {a b : Int} (h : InS w A ss c) (hb : Blk w g t #[.int .i64 a, .int .i64 b]) (j : Nat) (u : Value) : InS (w.setCell ⟨g, j, none⟩ u) A ss c := by
  refine ⟨fun i s hs => ?_, fun s hs => (h.each s hs).fset hb j u, h.sl, h.len⟩
  obtain ⟨g1, o, e, c1, hz⟩ := h.s i s hs
  have hne : g1 ≠ g := fun e2 => by
    subst e2
    obtain ⟨n, e3⟩ := ints_only hb c1
    cases e3
  exact ⟨g1, o, e, cell_other u hne c1, hz.fset hb j u⟩
theorem InS.fault {w : World} {A : Option Addr} {ss : List S} {c g : Nat} {t : TypeId} {a b : Int} (h : InS w A ss c) (hb : Blk w g t #[.int .i64 a, .int .i64 b]) (x y : Int) : InS ((w.setCell ⟨g, 0, none⟩ (.int .i64 x)).setCell ⟨g, 1, none⟩ (.int .i64 y)) A ss c := by
  have h1 := h.fset hb 0 (.int .i64 x)
  have h2 : Blk (w.setCell ⟨g, 0, none⟩ (.int .i64 x)) g t #[.int .i64 x, .int .i64 b] := hb.set 0 _
  exact h1.fset h2 1 _
set_option maxRecDepth 100000 in
set_option maxHeartbeats 8000000 in
theorem same7_any (ss ts : List S) (A B : Option Addr) (c d : Nat) (w : World) (hs : InS w A ss c) (ht : InS w B ts d) (h : ss.map S.z = ts.map S.z) :
    Calls Try.prog 88 #[.slice A ss.length c, .slice B ts.length d] w fun en w' => en = .returned (.bool true) ∧ Grow w w' := by
  have hl : ss.length = ts.length := by simpa using congrArg List.length h
  have hlen := hs.len
  have Hs := Lib.hid hs
  have Ht := Lib.hid ht
  have HL := Lib.hid hl
  have H := Lib.hid h
  have d0 : ((ss.length : Int) != (ts.length : Int)) = false := by simp; omega
  clear hs ht hl h
  go_enter Try.func88, Try.ntmps88
  go_wp2
  go_loopw [13] (fun i wr => ∃ k : Nat, k ≤ ss.length ∧ i = .int .i64 k ∧ Grow w wr) (fun i _ => ss.length - (intOf i).toNat)
  case atStart => exact ⟨0, Nat.zero_le _, rfl, Grow.refl _⟩
  case round =>
    obtain ⟨k, hk, rfl, hg⟩ := hrel
    by_cases hlt : k < ss.length
    · have hlt2 : k < ts.length := by have := HL.out; omega
      obtain ⟨s, hsk⟩ : ∃ s, ss[k]? = some s := ⟨_, List.getElem?_eq_getElem hlt⟩
      obtain ⟨t, htk⟩ : ∃ t, ts[k]? = some t := ⟨_, List.getElem?_eq_getElem hlt2⟩
      have e : s.z = t.z := by
        have h1 : (ss.map S.z)[k]? = some s.z := by rw [List.getElem?_map, hsk]; rfl
        rw [H.out, List.getElem?_map, htk] at h1
        simpa using h1.symm
      have is := (Hs.out.each s (List.mem_of_getElem? hsk)).grow hg
      have it := (Ht.out.each t (List.mem_of_getElem? htk)).grow hg
      obtain ⟨gx, ox, rfl, c1, _⟩ := (Hs.out.s.grow hg) k s hsk
      obtain ⟨gy, oy, rfl, c2, _⟩ := (Ht.out.s.grow hg) k t htk
      have cc := fun W (h : Grow wr W) => same_any s.xs t.xs s.A t.A s.cap t.cap W is.ok.1 it.ok.1 (is.z.grow h) (it.z.grow h) is.ok.2 it.ok.2 true ((sameG_iff _ _).2 e)
      have Cx := Lib.hid (And.intro c1 c2)
      have b0 : (0 : Int) ≤ (k : Int) := by omega
      have b1 : (k : Int) < (ts.length : Int) := by omega
      have b2 : (k : Int) < (ss.length : Int) := by omega
      clear hsk htk e is it c1 c2
      go_wp2
      apply wp_region_calm 10 (by kernel_rfl) (by kernel_rfl)
      case h' =>
        intro Q0 hQ0
        simp only [List.take_succ_cons, List.take_zero]
        repeat (
          first
            | (apply calm_p rfl; case h1 => (intro w1 hw1 hF K hK; obtain ⟨c1, c2⟩ := And.intro (hw1.cell Cx.out.1) (hw1.cell Cx.out.2); go_simp; first | exact hK _ (Grow.refl _) | (go_at_call 70; ((with_reducible refine (cc _ hw1).mono ?_); rintro e w' ⟨rfl, hg⟩; exact ⟨_, rfl, hK _ hg⟩))))
            | (apply calm_y rfl rfl rfl; case h1 => (intro w1 hw1 hF K hK; obtain ⟨c1, c2⟩ := And.intro (hw1.cell Cx.out.1) (hw1.cell Cx.out.2); go_simp; first | exact hK _ (Grow.refl _) | (go_at_call 70; ((with_reducible refine (cc _ hw1).mono ?_); rintro e w' ⟨rfl, hg⟩; exact ⟨_, rfl, hK _ hg⟩))))
            | apply calm_n rfl rfl rfl rfl
          intro K hK
          go_simp
          apply hK
          clear hK K)
        refine calm_nil ?_
        intro w1 hw1 hF
        apply hQ0
        clear hQ0
        simp only [List.drop_succ_cons, List.drop_zero]
        clear hF
        go_wp2
        go_roundw
        case rel => exact ⟨k + 1, by omega, by go_num, hg.trans hw1⟩
        case measure => simp [intOf]; omega
      case hp' => trivial
    · obtain rfl : k = ss.length := by omega
      go_wp2
      go_ret
      exact ret_bool (by simp) hg
end Go.Proofs.Ytjhcbehnopmnpaa

/-
  How lists of sets are read out of memory.
-/
namespace Go.Proofs.Ytjhcbehnopmnpaa
open Go.ChangeShapes Go.WideShapes Go.ChangeAt Go.RowKit Go.Calm
set_option maxRecDepth 100000
set_option linter.unusedVariables false
set_option linter.unusedSimpArgs false
section
variable {H : Type} {enc : TypeId × Value → H} {w : World} {base : Nat} {spare : Nat → Bool} {held : Bool}
theorem zsets_cells {fuel : Nat} {cs : List Value} {x : DataW H × List MemPlace} (h : DataW.trod enc Try.prog w base spare held fuel 79 cs = some x) :
    ∃ (A : Option Addr) (ss : List S) (cap : Nat), cs = [.slice A ss.length cap] ∧ InS w A ss cap := by
  obtain ⟨A, len, cap, n, D, hcs, hl, hcap, hi⟩ := slice_cells (c := 1) Try.underlying79 (by kernel_rfl) (by omega) h
  obtain ⟨ss, hsl, hs⟩ := list_of (α := S) (P := fun i s => In w s ∧ ∃ g o, A = some ⟨g, o, none⟩ ∧ w.cell? ⟨g, o + i, none⟩ = some (.slice s.A s.xs.length s.cap)) len (fun i hlt => by
    obtain ⟨g, o, ys, hA, hyl, hat, hd⟩ := hi i hlt
    obtain ⟨B, xs, c, hx, hz, hxl, hok, hb⟩ := zrows_cells hd
    subst hx
    refine ⟨⟨B, xs, c⟩, ⟨hz, hok, by show xs.length ≤ _; unfold maxLen at hxl; omega, fun x hx => by have := (hb x hx).len; unfold maxLen at this; omega⟩, g, o, hA, ?_⟩
    have := hat 0 _ rfl
    simpa using this)
  have hn : A = none → cap = 0 := by
    rcases DataW.trod_slice Try.underlying79 h with ⟨h0, _⟩ | ⟨a, len', cap', elems, rest, n', _, hcs', _⟩
    · rw [h0] at hcs; simp at hcs; exact fun _ => hcs.2.2.symm
    · rw [hcs'] at hcs; simp at hcs; exact fun e => by rw [e] at hcs; simp at hcs
  refine ⟨A, ss, cap, by rw [hcs, hsl], fun i s h => ?_, fun s h => ?_, ⟨by omega, hn⟩, by unfold maxLen at hl; omega⟩
  · obtain ⟨hin, g, o, e, c⟩ := hs i s h
    exact ⟨g, o, e, c, hin.z⟩
  · obtain ⟨i, h1, h2⟩ := List.mem_iff_getElem.1 h
    exact (hs i s (by rw [← h2]; exact List.getElem?_eq_getElem h1)).1
theorem zsets_read {r : Reach} {b0 : Nat} {v : Value} {d : DataW H} {p : List MemPlace} (hv : Value.okWide Try.prog w r b0 79 v) (h : DataW.Trod enc Try.prog w base spare held 79 v d p) :
    ∃ (A : Option Addr) (ss : List S) (cap : Nat), v = .slice A ss.length cap ∧ InS w A ss cap := by
  obtain ⟨a, len, cap, rfl⟩ := okWide_slice Try.underlying79 hv
  obtain ⟨fuel, hf⟩ := h
  obtain ⟨A, ss, c, hcs, h1⟩ := zsets_cells hf
  simp [Value.cells] at hcs
  obtain ⟨rfl, rfl, rfl⟩ := hcs
  exact ⟨_, ss, _, rfl, h1⟩
end
end Go.Proofs.Ytjhcbehnopmnpaa

/-
  streams.along, Integrate, Differentiate, Delay.
-/
namespace Go.Proofs.Ytjhcbehnopmnpaa
open Go.RowKit Go.Calm
set_option linter.unusedSimpArgs false
set_option linter.unusedVariables false

set_option maxRecDepth 100000 in
theorem int_fn (m la z : S) (W : World) (h1 : In W m) (h2 : In W la) (h3 : In W z) (h4 : wrongZ la.z = 0) :
    Calls Try.prog 135 #[.slice m.A m.xs.length m.cap, .slice la.A la.xs.length la.cap, .slice z.A z.xs.length z.cap] W fun e w' => Gives W w' e (Fi m.z la.z z.z) := by
  have cs : Calls Try.prog 77 #[.slice m.A m.xs.length m.cap, .slice z.A z.xs.length z.cap] W fun e w' => Gives W w' e (Fi m.z la.z z.z) := by
    exact add_any m z W h1 h3
  clear h1 h2 h3 h4
  go_enter Try.func135, Try.ntmps135
  go_wp2_with (go_at_call 77; ((with_reducible refine cs.mono ?_); rintro en w3 ⟨C, zs, cap2, rfl, hz3, hm, hk3, hg3⟩; have Fin := Lib.hid (And.intro hz3 (And.intro hm hk3)); clear hz3 hm hk3))
  refine bodyPost_ret (by simp [results, Try.results135, go_sem] <;> rfl) rfl ?_
  exact ⟨C, zs, cap2, rfl, Fin.out.1, Fin.out.2.1, Fin.out.2.2, hg3⟩
set_option maxRecDepth 100000 in
theorem dif_fn (m la z : S) (W : World) (h1 : In W m) (h2 : In W la) (h3 : In W z) (h4 : wrongZ la.z = 0) :
    Calls Try.prog 136 #[.slice m.A m.xs.length m.cap, .slice la.A la.xs.length la.cap, .slice z.A z.xs.length z.cap] W fun e w' => Gives W w' e (Fd m.z la.z z.z) := by
  have cs : Calls Try.prog 79 #[.slice z.A z.xs.length z.cap, .slice la.A la.xs.length la.cap] W fun e w' => Gives W w' e (Fd m.z la.z z.z) := by
    exact sub_any z la W h3 h2
  clear h1 h2 h3 h4
  go_enter Try.func136, Try.ntmps136
  go_wp2_with (go_at_call 79; ((with_reducible refine cs.mono ?_); rintro en w3 ⟨C, zs, cap2, rfl, hz3, hm, hk3, hg3⟩; have Fin := Lib.hid (And.intro hz3 (And.intro hm hk3)); clear hz3 hm hk3))
  refine bodyPost_ret (by simp [results, Try.results136, go_sem] <;> rfl) rfl ?_
  exact ⟨C, zs, cap2, rfl, Fin.out.1, Fin.out.2.1, Fin.out.2.2, hg3⟩
set_option maxRecDepth 100000 in
theorem del_fn (m la z : S) (W : World) (h1 : In W m) (h2 : In W la) (h3 : In W z) (h4 : wrongZ la.z = 0) :
    Calls Try.prog 137 #[.slice m.A m.xs.length m.cap, .slice la.A la.xs.length la.cap, .slice z.A z.xs.length z.cap] W fun e w' => Gives W w' e (Fz m.z la.z z.z) := by
  have cs : Calls Try.prog 118 #[.slice la.A la.xs.length la.cap] W fun e w' => Gives W w' e (Fz m.z la.z z.z) := by
    obtain ⟨a1, a2, a3, a4⟩ := S.facts h4
    unfold Fz
    rw [both_nil h4]
    exact sum_any la.xs la.A la.cap W (by omega) h2.z (fun x hx => by have := a2 x hx; omega) a3 a4
  clear h1 h2 h3 h4
  go_enter Try.func137, Try.ntmps137
  go_wp2_with (go_at_call 118; ((with_reducible refine cs.mono ?_); rintro en w3 ⟨C, zs, cap2, rfl, hz3, hm, hk3, hg3⟩; have Fin := Lib.hid (And.intro hz3 (And.intro hm hk3)); clear hz3 hm hk3))
  refine bodyPost_ret (by simp [results, Try.results137, go_sem] <;> rfl) rfl ?_
  exact ⟨C, zs, cap2, rfl, Fin.out.1, Fin.out.2.1, Fin.out.2.2, hg3⟩
set_option maxRecDepth 100000 in
set_option maxHeartbeats 16000000 in
theorem along_int (ss : List S) (A : Option Addr) (c : Nat) (w : World) (h : InS w A ss c) :
    Calls Try.prog 134 #[.slice A ss.length c, .func (.func 135) #[] #[]] w fun en w' => GivesL w w' en (alongZ Fi (ss.map S.z)) := by
  have mixed : Try.prog.follows .mixedOrders = true := by kernel_rfl
  have hlen := h.len
  have H := Lib.hid h
  obtain ⟨R, hR⟩ : ∃ R, alongZ Fi (ss.map S.z) = R := ⟨_, rfl⟩
  rw [hR]
  have HR := Lib.hid hR
  clear hR
  obtain ⟨E, P, hE⟩ : ∃ E P, swrong (ss.map S.z) = (E, P) := ⟨_, _, rfl⟩
  have cw := fun W (hg : Grow w W) => swrong_any ss A c W (H.out.grow hg) (E, P) hE
  have HE := Lib.hid hE
  clear h hE
  go_enter Try.func134, Try.ntmps134
  go_upto_region 1 with fail
  refine wp_forget (fun X => Blk X w.heap.size 81 #[.int .i64 0, .int .i64 0] ∧ Grow w X) ⟨Blk.new _ _ _, (Grow.refl w).al _⟩ ?_
  rintro X1 ⟨B1, G1⟩
  go_upto_region 2 with (go_at_call 153; ((with_reducible refine (cw _ G1).mono ?_); rintro e w2 ⟨rfl, hg2⟩))
  refine wp_forget (fun X => Blk X w2.heap.size 81 #[.int .i64 E, .int .i64 P] ∧ Blk X w.heap.size 81 #[.int .i64 0, .int .i64 0] ∧ Grow w X) ⟨Blk.new _ _ _, (B1.grow hg2).al _, (G1.trans hg2).al _⟩ ?_
  clear B1 cw
  generalize w2.heap.size = g6
  rintro X ⟨B6, B5, G⟩
  clear hg2 G1
  obtain ⟨b6, f6⟩ := B6.rules
  have HB5 := Lib.hid B5
  by_cases h0 : E = 0
  · subst h0
    have inv0 : alR (([] : List S).map S.z) (alG Fi 0 [] [] ((ss.drop 0).map S.z)) = R := by rw [← HR.out]; unfold alongZ; rw [HE.out, if_neg (by simp)]; rfl
    have sw := ((swrong_zero _).1 (show (swrong (ss.map S.z)).1 = 0 by rw [HE.out]))
    have Sw := Lib.hid (show ∀ s ∈ ss, wrongZ s.z = 0 from fun s hs => sw.2 _ (List.mem_map_of_mem hs))
    have l30 : ss.length ≤ 30 := by simpa using sw.1
    have Inv0 := Lib.hid inv0
    clear inv0 sw
    go_upto_region 7 with fail
    clear b6 f6 B6 B5
    go_wp2
    go_loopw [7, 8, 9, 22] (fun t um ul i wr => ∃ (k : Nat) (outs : List S) (M L : S), k ≤ ss.length ∧ i = .int .i64 k ∧ OwnS wr X.heap.size t outs.length outs ∧ um = .slice M.A M.xs.length M.cap ∧ ul = .slice L.A L.xs.length L.cap ∧ In wr M ∧ In wr L ∧ wrongZ L.z = 0 ∧ (∀ s ∈ outs, In wr s) ∧ outs.length ≤ k ∧ alR (outs.map S.z) (alG Fi k M.z L.z ((ss.drop k).map S.z)) = R ∧ Grow X wr) (fun _ _ _ i _ => ss.length - (intOf i).toNat)
    case atStart => exact ⟨0, [], ⟨none, [], 0⟩, ⟨none, [], 0⟩, Nat.zero_le _, rfl, OwnS.nil _ _, rfl, rfl, in_nil _, in_nil _, rfl, fun s hs => by simp at hs, Nat.le_refl _, Inv0.out, Grow.refl _⟩
    case round =>
      obtain ⟨k, outs, M, L, hk, rfl, hown, rfl, rfl, iM, iL, wL, hos, hol, hinv, hg⟩ := hrel
      have Own := Lib.hid hown
      have Ms := Lib.hid (And.intro iM (And.intro iL wL))
      have Os := Lib.hid hos
      have Inv := Lib.hid hinv
      clear hown iM iL wL hos hinv
      by_cases hlt : k < ss.length
      · obtain ⟨s, hsk⟩ : ∃ s, ss[k]? = some s := ⟨_, List.getElem?_eq_getElem hlt⟩
        have hmem := List.mem_of_getElem? hsk
        have inv2 := Inv.out
        rw [alG_at Fi _ _ hsk] at inv2
        obtain ⟨g, o, rfl, c1, _⟩ := (H.out.s.grow (G.trans hg)) k s hsk
        have iz := Lib.hid ((H.out.each s hmem).grow (G.trans hg))
        have ws := Lib.hid (Sw.out s hmem)
        have cf := int_fn M L s wr Ms.out.1 Ms.out.2.1 iz.out Ms.out.2.2
        obtain ⟨T, e, hT⟩ : ∃ T e, Fi M.z L.z s.z = (T, e) := ⟨_, _, rfl⟩
        have sT := Lib.hid (show smlZ T by have this : smlZ (Fi M.z L.z s.z).1 := both_sml M.z s.z 1; rw [hT] at this; exact this)
        rw [hT] at cf inv2
        simp only at inv2
        have Inv2 := Lib.hid inv2
        clear hsk hmem inv2 hT
        go_upto_region 10 with (go_at_call 135; ((with_reducible refine cf.mono ?_); rintro e1 w3 ⟨D, ds, cap3, rfl, hz3, hm3, hk3, hg3⟩; have Y := Lib.hid (And.intro hm3 (In.sml hz3 hk3 (by rw [hm3]; exact sT.out))); clear hz3 hm3 hk3))
        have Own3 := Lib.hid (Own.out.grow hg3)
        by_cases he : e = 0
        · have de : (e != 0) = false := by simpa using he
          go_wp2_with (at_builtin; refine wpList_append_S rfl _ _ rfl X.heap.size _ outs.length outs rfl (Own3.out.grow ((Grow.refl _).al _)) _ (S.mk D ds cap3) rfl _ (Blk.new _ _ _) (by omega) (by have := (hg.trans hg3).size; simp; omega) ?_; intro v7 w7 own7 gr7)
          have G7 : Grow X w7 := grow_own ((hg.trans hg3).al _) gr7 (Own3.out.grow ((Grow.refl _).al _)).1
          have K7 : ∀ s, In w3 s → In w7 s := fun s h => In.gb (h.grow ((Grow.refl _).al _)) (Own3.out.grow ((Grow.refl _).al _)).2 gr7
          have K := Lib.hid K7
          have Own7 := Lib.hid own7
          clear own7 gr7 K7
          go_roundw
          case rel =>
            refine ⟨k + 1, outs ++ [S.mk D ds cap3], S.mk D ds cap3, s, by omega, by go_num, by simpa using Own7.out, rfl, rfl, K.out _ Y.out.2, K.out _ (iz.out.grow hg3), ws.out, fun u hu => ?_, by simp; omega, ?_, G7⟩
            · rcases List.mem_append.1 hu with hu | hu
              · exact K.out _ ((Os.out u hu).grow hg3)
              · simp at hu; subst hu; exact K.out _ Y.out.2
            · have h9 := Inv2.out
              rw [if_neg (by simpa using he), alR_alR] at h9
              rw [show S.z (S.mk D ds cap3) = T from Y.out.1, List.map_append, List.map_cons, List.map_nil, show S.z (S.mk D ds cap3) = T from Y.out.1]
              exact h9
          case measure => simp [intOf]; omega
        · have de : (e != 0) = true := by simpa using he
          have eR : R = ([], e, (k : Int)) := by have := Inv2.out; rw [if_pos he, alR_err _ he] at this; exact this.symm
          obtain ⟨b5, f5⟩ := (HB5.out.grow (hg.trans hg3)).rules
          go_wp2
          have hB : Blk ((w3.setCell ⟨w.heap.size, 0, none⟩ (.int .i64 e)).setCell ⟨w.heap.size, 1, none⟩ (.int .i64 k)) w.heap.size 81 #[.int .i64 e, .int .i64 k] := ((HB5.out.grow (hg.trans hg3)).set 0 _).set 1 _
          have hG : Grow w ((w3.setCell ⟨w.heap.size, 0, none⟩ (.int .i64 e)).setCell ⟨w.heap.size, 1, none⟩ (.int .i64 k)) := Grow.set (Grow.set (G.trans (hg.trans hg3)) (Nat.le_refl _) _) (Nat.le_refl _) _
          revert hB hG
          generalize ((w3.setCell ⟨w.heap.size, 0, none⟩ (.int .i64 e)).setCell ⟨w.heap.size, 1, none⟩ (.int .i64 k)) = Y9
          intro hB hG
          obtain ⟨b9, f9⟩ := hB.rules
          refine bodyPost_ret (v := .tuple #[.slice none 0 0, .agg #[.int .i64 e, .int .i64 k]]) (by simp [results, Try.results134, go_sem, b9]) rfl ?_
          exact ⟨none, [], 0, by rw [eR]; rfl, ins_nil _, by rw [eR]; rfl, hG⟩
      · obtain rfl : k = ss.length := by omega
        have eR : R = (outs.map S.z, 0, 0) := by have h9 := Inv.out; rw [List.drop_length] at h9; rw [← h9]; exact alR_end _
        obtain ⟨D, cap, rfl, hin⟩ := own_ins Own.out.1 Os.out (by omega)
        have Hin := Lib.hid hin
        obtain ⟨b5, f5⟩ := (HB5.out.grow hg).rules
        clear hin
        go_wp2
        have hB : Blk ((wr.setCell ⟨w.heap.size, 0, none⟩ (.int .i64 0)).setCell ⟨w.heap.size, 1, none⟩ (.int .i64 0)) w.heap.size 81 #[.int .i64 0, .int .i64 0] := ((HB5.out.grow hg).set 0 _).set 1 _
        have hG : Grow w ((wr.setCell ⟨w.heap.size, 0, none⟩ (.int .i64 0)).setCell ⟨w.heap.size, 1, none⟩ (.int .i64 0)) := Grow.set (Grow.set (G.trans hg) (Nat.le_refl _) _) (Nat.le_refl _) _
        have hiY : InS ((wr.setCell ⟨w.heap.size, 0, none⟩ (.int .i64 0)).setCell ⟨w.heap.size, 1, none⟩ (.int .i64 0)) D outs cap := InS.fault Hin.out (HB5.out.grow hg) 0 0
        revert hB hG hiY
        generalize ((wr.setCell ⟨w.heap.size, 0, none⟩ (.int .i64 0)).setCell ⟨w.heap.size, 1, none⟩ (.int .i64 0)) = Y9
        intro hB hG hi
        obtain ⟨b9, f9⟩ := hB.rules
        refine bodyPost_ret (v := .tuple #[.slice D outs.length cap, .agg #[.int .i64 0, .int .i64 0]]) (by simp [results, Try.results134, go_sem, b9]) rfl ?_
        exact ⟨D, outs, cap, by rw [eR], hi, by rw [eR], hG⟩
  · have d0 : (E != 0) = true := by simpa using h0
    obtain ⟨b5, f5⟩ := B5.rules
    go_wp2
    go_big_region_o
    go_wp2
    have eR : R = ([], E, P) := by rw [← HR.out]; unfold alongZ; rw [HE.out, if_pos h0]
    have hB : Blk (((X.setCell ⟨w.heap.size, 0, none⟩ (.int .i64 E)).setCell ⟨w.heap.size, 1, none⟩ (.int .i64 P)).drew) w.heap.size 81 #[.int .i64 E, .int .i64 P] := Blk.drew ((HB5.out.set 0 _).set 1 _)
    have hG : Grow w (((X.setCell ⟨w.heap.size, 0, none⟩ (.int .i64 E)).setCell ⟨w.heap.size, 1, none⟩ (.int .i64 P)).drew) := Grow.drew (Grow.set (Grow.set G (Nat.le_refl _) _) (Nat.le_refl _) _)
    revert hB hG
    generalize (((X.setCell ⟨w.heap.size, 0, none⟩ (.int .i64 E)).setCell ⟨w.heap.size, 1, none⟩ (.int .i64 P)).drew) = Y9
    intro hB hG
    obtain ⟨b9, f9⟩ := hB.rules
    refine bodyPost_ret (v := .tuple #[.slice none 0 0, .agg #[.int .i64 E, .int .i64 P]]) (by simp [results, Try.results134, go_sem, b9]) rfl ?_
    exact ⟨none, [], 0, by rw [eR]; rfl, ins_nil _, by rw [eR]; rfl, hG⟩
set_option maxRecDepth 100000 in
set_option maxHeartbeats 16000000 in
theorem along_dif (ss : List S) (A : Option Addr) (c : Nat) (w : World) (h : InS w A ss c) :
    Calls Try.prog 134 #[.slice A ss.length c, .func (.func 136) #[] #[]] w fun en w' => GivesL w w' en (alongZ Fd (ss.map S.z)) := by
  have mixed : Try.prog.follows .mixedOrders = true := by kernel_rfl
  have hlen := h.len
  have H := Lib.hid h
  obtain ⟨R, hR⟩ : ∃ R, alongZ Fd (ss.map S.z) = R := ⟨_, rfl⟩
  rw [hR]
  have HR := Lib.hid hR
  clear hR
  obtain ⟨E, P, hE⟩ : ∃ E P, swrong (ss.map S.z) = (E, P) := ⟨_, _, rfl⟩
  have cw := fun W (hg : Grow w W) => swrong_any ss A c W (H.out.grow hg) (E, P) hE
  have HE := Lib.hid hE
  clear h hE
  go_enter Try.func134, Try.ntmps134
  go_upto_region 1 with fail
  refine wp_forget (fun X => Blk X w.heap.size 81 #[.int .i64 0, .int .i64 0] ∧ Grow w X) ⟨Blk.new _ _ _, (Grow.refl w).al _⟩ ?_
  rintro X1 ⟨B1, G1⟩
  go_upto_region 2 with (go_at_call 153; ((with_reducible refine (cw _ G1).mono ?_); rintro e w2 ⟨rfl, hg2⟩))
  refine wp_forget (fun X => Blk X w2.heap.size 81 #[.int .i64 E, .int .i64 P] ∧ Blk X w.heap.size 81 #[.int .i64 0, .int .i64 0] ∧ Grow w X) ⟨Blk.new _ _ _, (B1.grow hg2).al _, (G1.trans hg2).al _⟩ ?_
  clear B1 cw
  generalize w2.heap.size = g6
  rintro X ⟨B6, B5, G⟩
  clear hg2 G1
  obtain ⟨b6, f6⟩ := B6.rules
  have HB5 := Lib.hid B5
  by_cases h0 : E = 0
  · subst h0
    have inv0 : alR (([] : List S).map S.z) (alG Fd 0 [] [] ((ss.drop 0).map S.z)) = R := by rw [← HR.out]; unfold alongZ; rw [HE.out, if_neg (by simp)]; rfl
    have sw := ((swrong_zero _).1 (show (swrong (ss.map S.z)).1 = 0 by rw [HE.out]))
    have Sw := Lib.hid (show ∀ s ∈ ss, wrongZ s.z = 0 from fun s hs => sw.2 _ (List.mem_map_of_mem hs))
    have l30 : ss.length ≤ 30 := by simpa using sw.1
    have Inv0 := Lib.hid inv0
    clear inv0 sw
    go_upto_region 7 with fail
    clear b6 f6 B6 B5
    go_wp2
    go_loopw [7, 8, 9, 22] (fun t um ul i wr => ∃ (k : Nat) (outs : List S) (M L : S), k ≤ ss.length ∧ i = .int .i64 k ∧ OwnS wr X.heap.size t outs.length outs ∧ um = .slice M.A M.xs.length M.cap ∧ ul = .slice L.A L.xs.length L.cap ∧ In wr M ∧ In wr L ∧ wrongZ L.z = 0 ∧ (∀ s ∈ outs, In wr s) ∧ outs.length ≤ k ∧ alR (outs.map S.z) (alG Fd k M.z L.z ((ss.drop k).map S.z)) = R ∧ Grow X wr) (fun _ _ _ i _ => ss.length - (intOf i).toNat)
    case atStart => exact ⟨0, [], ⟨none, [], 0⟩, ⟨none, [], 0⟩, Nat.zero_le _, rfl, OwnS.nil _ _, rfl, rfl, in_nil _, in_nil _, rfl, fun s hs => by simp at hs, Nat.le_refl _, Inv0.out, Grow.refl _⟩
    case round =>
      obtain ⟨k, outs, M, L, hk, rfl, hown, rfl, rfl, iM, iL, wL, hos, hol, hinv, hg⟩ := hrel
      have Own := Lib.hid hown
      have Ms := Lib.hid (And.intro iM (And.intro iL wL))
      have Os := Lib.hid hos
      have Inv := Lib.hid hinv
      clear hown iM iL wL hos hinv
      by_cases hlt : k < ss.length
      · obtain ⟨s, hsk⟩ : ∃ s, ss[k]? = some s := ⟨_, List.getElem?_eq_getElem hlt⟩
        have hmem := List.mem_of_getElem? hsk
        have inv2 := Inv.out
        rw [alG_at Fd _ _ hsk] at inv2
        obtain ⟨g, o, rfl, c1, _⟩ := (H.out.s.grow (G.trans hg)) k s hsk
        have iz := Lib.hid ((H.out.each s hmem).grow (G.trans hg))
        have ws := Lib.hid (Sw.out s hmem)
        have cf := dif_fn M L s wr Ms.out.1 Ms.out.2.1 iz.out Ms.out.2.2
        obtain ⟨T, e, hT⟩ : ∃ T e, Fd M.z L.z s.z = (T, e) := ⟨_, _, rfl⟩
        have sT := Lib.hid (show smlZ T by have this : smlZ (Fd M.z L.z s.z).1 := both_sml s.z L.z (-1); rw [hT] at this; exact this)
        rw [hT] at cf inv2
        simp only at inv2
        have Inv2 := Lib.hid inv2
        clear hsk hmem inv2 hT
        go_upto_region 10 with (go_at_call 136; ((with_reducible refine cf.mono ?_); rintro e1 w3 ⟨D, ds, cap3, rfl, hz3, hm3, hk3, hg3⟩; have Y := Lib.hid (And.intro hm3 (In.sml hz3 hk3 (by rw [hm3]; exact sT.out))); clear hz3 hm3 hk3))
        have Own3 := Lib.hid (Own.out.grow hg3)
        by_cases he : e = 0
        · have de : (e != 0) = false := by simpa using he
          go_wp2_with (at_builtin; refine wpList_append_S rfl _ _ rfl X.heap.size _ outs.length outs rfl (Own3.out.grow ((Grow.refl _).al _)) _ (S.mk D ds cap3) rfl _ (Blk.new _ _ _) (by omega) (by have := (hg.trans hg3).size; simp; omega) ?_; intro v7 w7 own7 gr7)
          have G7 : Grow X w7 := grow_own ((hg.trans hg3).al _) gr7 (Own3.out.grow ((Grow.refl _).al _)).1
          have K7 : ∀ s, In w3 s → In w7 s := fun s h => In.gb (h.grow ((Grow.refl _).al _)) (Own3.out.grow ((Grow.refl _).al _)).2 gr7
          have K := Lib.hid K7
          have Own7 := Lib.hid own7
          clear own7 gr7 K7
          go_roundw
          case rel =>
            refine ⟨k + 1, outs ++ [S.mk D ds cap3], S.mk D ds cap3, s, by omega, by go_num, by simpa using Own7.out, rfl, rfl, K.out _ Y.out.2, K.out _ (iz.out.grow hg3), ws.out, fun u hu => ?_, by simp; omega, ?_, G7⟩
            · rcases List.mem_append.1 hu with hu | hu
              · exact K.out _ ((Os.out u hu).grow hg3)
              · simp at hu; subst hu; exact K.out _ Y.out.2
            · have h9 := Inv2.out
              rw [if_neg (by simpa using he), alR_alR] at h9
              rw [show S.z (S.mk D ds cap3) = T from Y.out.1, List.map_append, List.map_cons, List.map_nil, show S.z (S.mk D ds cap3) = T from Y.out.1]
              exact h9
          case measure => simp [intOf]; omega
        · have de : (e != 0) = true := by simpa using he
          have eR : R = ([], e, (k : Int)) := by have := Inv2.out; rw [if_pos he, alR_err _ he] at this; exact this.symm
          obtain ⟨b5, f5⟩ := (HB5.out.grow (hg.trans hg3)).rules
          go_wp2
          have hB : Blk ((w3.setCell ⟨w.heap.size, 0, none⟩ (.int .i64 e)).setCell ⟨w.heap.size, 1, none⟩ (.int .i64 k)) w.heap.size 81 #[.int .i64 e, .int .i64 k] := ((HB5.out.grow (hg.trans hg3)).set 0 _).set 1 _
          have hG : Grow w ((w3.setCell ⟨w.heap.size, 0, none⟩ (.int .i64 e)).setCell ⟨w.heap.size, 1, none⟩ (.int .i64 k)) := Grow.set (Grow.set (G.trans (hg.trans hg3)) (Nat.le_refl _) _) (Nat.le_refl _) _
          revert hB hG
          generalize ((w3.setCell ⟨w.heap.size, 0, none⟩ (.int .i64 e)).setCell ⟨w.heap.size, 1, none⟩ (.int .i64 k)) = Y9
          intro hB hG
          obtain ⟨b9, f9⟩ := hB.rules
          refine bodyPost_ret (v := .tuple #[.slice none 0 0, .agg #[.int .i64 e, .int .i64 k]]) (by simp [results, Try.results134, go_sem, b9]) rfl ?_
          exact ⟨none, [], 0, by rw [eR]; rfl, ins_nil _, by rw [eR]; rfl, hG⟩
      · obtain rfl : k = ss.length := by omega
        have eR : R = (outs.map S.z, 0, 0) := by have h9 := Inv.out; rw [List.drop_length] at h9; rw [← h9]; exact alR_end _
        obtain ⟨D, cap, rfl, hin⟩ := own_ins Own.out.1 Os.out (by omega)
        have Hin := Lib.hid hin
        obtain ⟨b5, f5⟩ := (HB5.out.grow hg).rules
        clear hin
        go_wp2
        have hB : Blk ((wr.setCell ⟨w.heap.size, 0, none⟩ (.int .i64 0)).setCell ⟨w.heap.size, 1, none⟩ (.int .i64 0)) w.heap.size 81 #[.int .i64 0, .int .i64 0] := ((HB5.out.grow hg).set 0 _).set 1 _
        have hG : Grow w ((wr.setCell ⟨w.heap.size, 0, none⟩ (.int .i64 0)).setCell ⟨w.heap.size, 1, none⟩ (.int .i64 0)) := Grow.set (Grow.set (G.trans hg) (Nat.le_refl _) _) (Nat.le_refl _) _
        have hiY : InS ((wr.setCell ⟨w.heap.size, 0, none⟩ (.int .i64 0)).setCell ⟨w.heap.size, 1, none⟩ (.int .i64 0)) D outs cap := InS.fault Hin.out (HB5.out.grow hg) 0 0
        revert hB hG hiY
        generalize ((wr.setCell ⟨w.heap.size, 0, none⟩ (.int .i64 0)).setCell ⟨w.heap.size, 1, none⟩ (.int .i64 0)) = Y9
        intro hB hG hi
        obtain ⟨b9, f9⟩ := hB.rules
        refine bodyPost_ret (v := .tuple #[.slice D outs.length cap, .agg #[.int .i64 0, .int .i64 0]]) (by simp [results, Try.results134, go_sem, b9]) rfl ?_
        exact ⟨D, outs, cap, by rw [eR], hi, by rw [eR], hG⟩
  · have d0 : (E != 0) = true := by simpa using h0
    obtain ⟨b5, f5⟩ := B5.rules
    go_wp2
    go_big_region_o
    go_wp2
    have eR : R = ([], E, P) := by rw [← HR.out]; unfold alongZ; rw [HE.out, if_pos h0]
    have hB : Blk (((X.setCell ⟨w.heap.size, 0, none⟩ (.int .i64 E)).setCell ⟨w.heap.size, 1, none⟩ (.int .i64 P)).drew) w.heap.size 81 #[.int .i64 E, .int .i64 P] := Blk.drew ((HB5.out.set 0 _).set 1 _)
    have hG : Grow w (((X.setCell ⟨w.heap.size, 0, none⟩ (.int .i64 E)).setCell ⟨w.heap.size, 1, none⟩ (.int .i64 P)).drew) := Grow.drew (Grow.set (Grow.set G (Nat.le_refl _) _) (Nat.le_refl _) _)
    revert hB hG
    generalize (((X.setCell ⟨w.heap.size, 0, none⟩ (.int .i64 E)).setCell ⟨w.heap.size, 1, none⟩ (.int .i64 P)).drew) = Y9
    intro hB hG
    obtain ⟨b9, f9⟩ := hB.rules
    refine bodyPost_ret (v := .tuple #[.slice none 0 0, .agg #[.int .i64 E, .int .i64 P]]) (by simp [results, Try.results134, go_sem, b9]) rfl ?_
    exact ⟨none, [], 0, by rw [eR]; rfl, ins_nil _, by rw [eR]; rfl, hG⟩
set_option maxRecDepth 100000 in
set_option maxHeartbeats 16000000 in
theorem along_del (ss : List S) (A : Option Addr) (c : Nat) (w : World) (h : InS w A ss c) :
    Calls Try.prog 134 #[.slice A ss.length c, .func (.func 137) #[] #[]] w fun en w' => GivesL w w' en (alongZ Fz (ss.map S.z)) := by
  have mixed : Try.prog.follows .mixedOrders = true := by kernel_rfl
  have hlen := h.len
  have H := Lib.hid h
  obtain ⟨R, hR⟩ : ∃ R, alongZ Fz (ss.map S.z) = R := ⟨_, rfl⟩
  rw [hR]
  have HR := Lib.hid hR
  clear hR
  obtain ⟨E, P, hE⟩ : ∃ E P, swrong (ss.map S.z) = (E, P) := ⟨_, _, rfl⟩
  have cw := fun W (hg : Grow w W) => swrong_any ss A c W (H.out.grow hg) (E, P) hE
  have HE := Lib.hid hE
  clear h hE
  go_enter Try.func134, Try.ntmps134
  go_upto_region 1 with fail
  refine wp_forget (fun X => Blk X w.heap.size 81 #[.int .i64 0, .int .i64 0] ∧ Grow w X) ⟨Blk.new _ _ _, (Grow.refl w).al _⟩ ?_
  rintro X1 ⟨B1, G1⟩
  go_upto_region 2 with (go_at_call 153; ((with_reducible refine (cw _ G1).mono ?_); rintro e w2 ⟨rfl, hg2⟩))
  refine wp_forget (fun X => Blk X w2.heap.size 81 #[.int .i64 E, .int .i64 P] ∧ Blk X w.heap.size 81 #[.int .i64 0, .int .i64 0] ∧ Grow w X) ⟨Blk.new _ _ _, (B1.grow hg2).al _, (G1.trans hg2).al _⟩ ?_
  clear B1 cw
  generalize w2.heap.size = g6
  rintro X ⟨B6, B5, G⟩
  clear hg2 G1
  obtain ⟨b6, f6⟩ := B6.rules
  have HB5 := Lib.hid B5
  by_cases h0 : E = 0
  · subst h0
    have inv0 : alR (([] : List S).map S.z) (alG Fz 0 [] [] ((ss.drop 0).map S.z)) = R := by rw [← HR.out]; unfold alongZ; rw [HE.out, if_neg (by simp)]; rfl
    have sw := ((swrong_zero _).1 (show (swrong (ss.map S.z)).1 = 0 by rw [HE.out]))
    have Sw := Lib.hid (show ∀ s ∈ ss, wrongZ s.z = 0 from fun s hs => sw.2 _ (List.mem_map_of_mem hs))
    have l30 : ss.length ≤ 30 := by simpa using sw.1
    have Inv0 := Lib.hid inv0
    clear inv0 sw
    go_upto_region 7 with fail
    clear b6 f6 B6 B5
    go_wp2
    go_loopw [7, 8, 9, 22] (fun t um ul i wr => ∃ (k : Nat) (outs : List S) (M L : S), k ≤ ss.length ∧ i = .int .i64 k ∧ OwnS wr X.heap.size t outs.length outs ∧ um = .slice M.A M.xs.length M.cap ∧ ul = .slice L.A L.xs.length L.cap ∧ In wr M ∧ In wr L ∧ wrongZ L.z = 0 ∧ (∀ s ∈ outs, In wr s) ∧ outs.length ≤ k ∧ alR (outs.map S.z) (alG Fz k M.z L.z ((ss.drop k).map S.z)) = R ∧ Grow X wr) (fun _ _ _ i _ => ss.length - (intOf i).toNat)
    case atStart => exact ⟨0, [], ⟨none, [], 0⟩, ⟨none, [], 0⟩, Nat.zero_le _, rfl, OwnS.nil _ _, rfl, rfl, in_nil _, in_nil _, rfl, fun s hs => by simp at hs, Nat.le_refl _, Inv0.out, Grow.refl _⟩
    case round =>
      obtain ⟨k, outs, M, L, hk, rfl, hown, rfl, rfl, iM, iL, wL, hos, hol, hinv, hg⟩ := hrel
      have Own := Lib.hid hown
      have Ms := Lib.hid (And.intro iM (And.intro iL wL))
      have Os := Lib.hid hos
      have Inv := Lib.hid hinv
      clear hown iM iL wL hos hinv
      by_cases hlt : k < ss.length
      · obtain ⟨s, hsk⟩ : ∃ s, ss[k]? = some s := ⟨_, List.getElem?_eq_getElem hlt⟩
        have hmem := List.mem_of_getElem? hsk
        have inv2 := Inv.out
        rw [alG_at Fz _ _ hsk] at inv2
        obtain ⟨g, o, rfl, c1, _⟩ := (H.out.s.grow (G.trans hg)) k s hsk
        have iz := Lib.hid ((H.out.each s hmem).grow (G.trans hg))
        have ws := Lib.hid (Sw.out s hmem)
        have cf := del_fn M L s wr Ms.out.1 Ms.out.2.1 iz.out Ms.out.2.2
        obtain ⟨T, e, hT⟩ : ∃ T e, Fz M.z L.z s.z = (T, e) := ⟨_, _, rfl⟩
        have sT := Lib.hid (show smlZ T by have this : smlZ (Fz M.z L.z s.z).1 := both_sml L.z [] 1; rw [hT] at this; exact this)
        rw [hT] at cf inv2
        simp only at inv2
        have Inv2 := Lib.hid inv2
        clear hsk hmem inv2 hT
        go_upto_region 10 with (go_at_call 137; ((with_reducible refine cf.mono ?_); rintro e1 w3 ⟨D, ds, cap3, rfl, hz3, hm3, hk3, hg3⟩; have Y := Lib.hid (And.intro hm3 (In.sml hz3 hk3 (by rw [hm3]; exact sT.out))); clear hz3 hm3 hk3))
        have Own3 := Lib.hid (Own.out.grow hg3)
        by_cases he : e = 0
        · have de : (e != 0) = false := by simpa using he
          go_wp2_with (at_builtin; refine wpList_append_S rfl _ _ rfl X.heap.size _ outs.length outs rfl (Own3.out.grow ((Grow.refl _).al _)) _ (S.mk D ds cap3) rfl _ (Blk.new _ _ _) (by omega) (by have := (hg.trans hg3).size; simp; omega) ?_; intro v7 w7 own7 gr7)
          have G7 : Grow X w7 := grow_own ((hg.trans hg3).al _) gr7 (Own3.out.grow ((Grow.refl _).al _)).1
          have K7 : ∀ s, In w3 s → In w7 s := fun s h => In.gb (h.grow ((Grow.refl _).al _)) (Own3.out.grow ((Grow.refl _).al _)).2 gr7
          have K := Lib.hid K7
          have Own7 := Lib.hid own7
          clear own7 gr7 K7
          go_roundw
          case rel =>
            refine ⟨k + 1, outs ++ [S.mk D ds cap3], S.mk D ds cap3, s, by omega, by go_num, by simpa using Own7.out, rfl, rfl, K.out _ Y.out.2, K.out _ (iz.out.grow hg3), ws.out, fun u hu => ?_, by simp; omega, ?_, G7⟩
            · rcases List.mem_append.1 hu with hu | hu
              · exact K.out _ ((Os.out u hu).grow hg3)
              · simp at hu; subst hu; exact K.out _ Y.out.2
            · have h9 := Inv2.out
              rw [if_neg (by simpa using he), alR_alR] at h9
              rw [show S.z (S.mk D ds cap3) = T from Y.out.1, List.map_append, List.map_cons, List.map_nil, show S.z (S.mk D ds cap3) = T from Y.out.1]
              exact h9
          case measure => simp [intOf]; omega
        · have de : (e != 0) = true := by simpa using he
          have eR : R = ([], e, (k : Int)) := by have := Inv2.out; rw [if_pos he, alR_err _ he] at this; exact this.symm
          obtain ⟨b5, f5⟩ := (HB5.out.grow (hg.trans hg3)).rules
          go_wp2
          have hB : Blk ((w3.setCell ⟨w.heap.size, 0, none⟩ (.int .i64 e)).setCell ⟨w.heap.size, 1, none⟩ (.int .i64 k)) w.heap.size 81 #[.int .i64 e, .int .i64 k] := ((HB5.out.grow (hg.trans hg3)).set 0 _).set 1 _
          have hG : Grow w ((w3.setCell ⟨w.heap.size, 0, none⟩ (.int .i64 e)).setCell ⟨w.heap.size, 1, none⟩ (.int .i64 k)) := Grow.set (Grow.set (G.trans (hg.trans hg3)) (Nat.le_refl _) _) (Nat.le_refl _) _
          revert hB hG
          generalize ((w3.setCell ⟨w.heap.size, 0, none⟩ (.int .i64 e)).setCell ⟨w.heap.size, 1, none⟩ (.int .i64 k)) = Y9
          intro hB hG
          obtain ⟨b9, f9⟩ := hB.rules
          refine bodyPost_ret (v := .tuple #[.slice none 0 0, .agg #[.int .i64 e, .int .i64 k]]) (by simp [results, Try.results134, go_sem, b9]) rfl ?_
          exact ⟨none, [], 0, by rw [eR]; rfl, ins_nil _, by rw [eR]; rfl, hG⟩
      · obtain rfl : k = ss.length := by omega
        have eR : R = (outs.map S.z, 0, 0) := by have h9 := Inv.out; rw [List.drop_length] at h9; rw [← h9]; exact alR_end _
        obtain ⟨D, cap, rfl, hin⟩ := own_ins Own.out.1 Os.out (by omega)
        have Hin := Lib.hid hin
        obtain ⟨b5, f5⟩ := (HB5.out.grow hg).rules
        clear hin
        go_wp2
        have hB : Blk ((wr.setCell ⟨w.heap.size, 0, none⟩ (.int .i64 0)).setCell ⟨w.heap.size, 1, none⟩ (.int .i64 0)) w.heap.size 81 #[.int .i64 0, .int .i64 0] := ((HB5.out.grow hg).set 0 _).set 1 _
        have hG : Grow w ((wr.setCell ⟨w.heap.size, 0, none⟩ (.int .i64 0)).setCell ⟨w.heap.size, 1, none⟩ (.int .i64 0)) := Grow.set (Grow.set (G.trans hg) (Nat.le_refl _) _) (Nat.le_refl _) _
        have hiY : InS ((wr.setCell ⟨w.heap.size, 0, none⟩ (.int .i64 0)).setCell ⟨w.heap.size, 1, none⟩ (.int .i64 0)) D outs cap := InS.fault Hin.out (HB5.out.grow hg) 0 0
        revert hB hG hiY
        generalize ((wr.setCell ⟨w.heap.size, 0, none⟩ (.int .i64 0)).setCell ⟨w.heap.size, 1, none⟩ (.int .i64 0)) = Y9
        intro hB hG hi
        obtain ⟨b9, f9⟩ := hB.rules
        refine bodyPost_ret (v := .tuple #[.slice D outs.length cap, .agg #[.int .i64 0, .int .i64 0]]) (by simp [results, Try.results134, go_sem, b9]) rfl ?_
        exact ⟨D, outs, cap, by rw [eR], hi, by rw [eR], hG⟩
  · have d0 : (E != 0) = true := by simpa using h0
    obtain ⟨b5, f5⟩ := B5.rules
    go_wp2
    go_big_region_o
    go_wp2
    have eR : R = ([], E, P) := by rw [← HR.out]; unfold alongZ; rw [HE.out, if_pos h0]
    have hB : Blk (((X.setCell ⟨w.heap.size, 0, none⟩ (.int .i64 E)).setCell ⟨w.heap.size, 1, none⟩ (.int .i64 P)).drew) w.heap.size 81 #[.int .i64 E, .int .i64 P] := Blk.drew ((HB5.out.set 0 _).set 1 _)
    have hG : Grow w (((X.setCell ⟨w.heap.size, 0, none⟩ (.int .i64 E)).setCell ⟨w.heap.size, 1, none⟩ (.int .i64 P)).drew) := Grow.drew (Grow.set (Grow.set G (Nat.le_refl _) _) (Nat.le_refl _) _)
    revert hB hG
    generalize (((X.setCell ⟨w.heap.size, 0, none⟩ (.int .i64 E)).setCell ⟨w.heap.size, 1, none⟩ (.int .i64 P)).drew) = Y9
    intro hB hG
    obtain ⟨b9, f9⟩ := hB.rules
    refine bodyPost_ret (v := .tuple #[.slice none 0 0, .agg #[.int .i64 E, .int .i64 P]]) (by simp [results, Try.results134, go_sem, b9]) rfl ?_
    exact ⟨none, [], 0, by rw [eR]; rfl, ins_nil _, by rw [eR]; rfl, hG⟩
set_option maxRecDepth 100000 in
set_option maxHeartbeats 8000000 in
theorem sint_any (ss : List S) (A : Option Addr) (c : Nat) (w : World) (h : InS w A ss c) :
    Calls Try.prog 86 #[.slice A ss.length c] w fun en w' => GivesL w w' en (alongZ Fi (ss.map S.z)) := by
  have cs := fun W (hg : Grow w W) => along_int ss A c W (h.grow hg)
  obtain ⟨R, hR⟩ : ∃ R, alongZ Fi (ss.map S.z) = R := ⟨_, rfl⟩
  rw [hR] at cs ⊢
  obtain ⟨L, e, a⟩ := R
  clear h hR
  go_enter Try.func86, Try.ntmps86
  go_upto_region 1 with fail
  refine wp_forget (fun X => Blk X w.heap.size 81 #[.int .i64 0, .int .i64 0] ∧ Grow w X) ⟨Blk.new _ _ _, (Grow.refl w).al _⟩ ?_
  rintro X1 ⟨B1, G1⟩
  have HB := Lib.hid B1
  go_wp2_with (go_at_call 134; ((with_reducible refine (cs _ G1).mono ?_); rintro en w2 ⟨D, ds, cap, rfl, hin, hm, hg2⟩; have Y := Lib.hid (And.intro hin hm); have Hg := Lib.hid (G1.trans hg2); have HB2 := Lib.hid (HB.out.grow hg2); obtain ⟨b5, f5⟩ := HB2.out.rules; clear hin hm hg2))
  have hB : Blk ((w2.setCell ⟨w.heap.size, 0, none⟩ (.int .i64 e)).setCell ⟨w.heap.size, 1, none⟩ (.int .i64 a)) w.heap.size 81 #[.int .i64 e, .int .i64 a] := (HB2.out.set 0 _).set 1 _
  have hG : Grow w ((w2.setCell ⟨w.heap.size, 0, none⟩ (.int .i64 e)).setCell ⟨w.heap.size, 1, none⟩ (.int .i64 a)) := Grow.set (Grow.set Hg.out (Nat.le_refl _) _) (Nat.le_refl _) _
  have hi : InS ((w2.setCell ⟨w.heap.size, 0, none⟩ (.int .i64 e)).setCell ⟨w.heap.size, 1, none⟩ (.int .i64 a)) D ds cap := InS.fault Y.out.1 HB2.out e a
  revert hB hG hi
  generalize ((w2.setCell ⟨w.heap.size, 0, none⟩ (.int .i64 e)).setCell ⟨w.heap.size, 1, none⟩ (.int .i64 a)) = Y9
  intro hB hG hi
  obtain ⟨b9, f9⟩ := hB.rules
  refine bodyPost_ret (v := .tuple #[.slice D ds.length cap, .agg #[.int .i64 e, .int .i64 a]]) (by simp [results, Try.results86, go_sem, b9]) rfl ?_
  exact ⟨D, ds, cap, rfl, hi, Y.out.2, hG⟩
set_option maxRecDepth 100000 in
set_option maxHeartbeats 8000000 in
theorem sdif_any (ss : List S) (A : Option Addr) (c : Nat) (w : World) (h : InS w A ss c) :
    Calls Try.prog 87 #[.slice A ss.length c] w fun en w' => GivesL w w' en (alongZ Fd (ss.map S.z)) := by
  have cs := fun W (hg : Grow w W) => along_dif ss A c W (h.grow hg)
  obtain ⟨R, hR⟩ : ∃ R, alongZ Fd (ss.map S.z) = R := ⟨_, rfl⟩
  rw [hR] at cs ⊢
  obtain ⟨L, e, a⟩ := R
  clear h hR
  go_enter Try.func87, Try.ntmps87
  go_upto_region 1 with fail
  refine wp_forget (fun X => Blk X w.heap.size 81 #[.int .i64 0, .int .i64 0] ∧ Grow w X) ⟨Blk.new _ _ _, (Grow.refl w).al _⟩ ?_
  rintro X1 ⟨B1, G1⟩
  have HB := Lib.hid B1
  go_wp2_with (go_at_call 134; ((with_reducible refine (cs _ G1).mono ?_); rintro en w2 ⟨D, ds, cap, rfl, hin, hm, hg2⟩; have Y := Lib.hid (And.intro hin hm); have Hg := Lib.hid (G1.trans hg2); have HB2 := Lib.hid (HB.out.grow hg2); obtain ⟨b5, f5⟩ := HB2.out.rules; clear hin hm hg2))
  have hB : Blk ((w2.setCell ⟨w.heap.size, 0, none⟩ (.int .i64 e)).setCell ⟨w.heap.size, 1, none⟩ (.int .i64 a)) w.heap.size 81 #[.int .i64 e, .int .i64 a] := (HB2.out.set 0 _).set 1 _
  have hG : Grow w ((w2.setCell ⟨w.heap.size, 0, none⟩ (.int .i64 e)).setCell ⟨w.heap.size, 1, none⟩ (.int .i64 a)) := Grow.set (Grow.set Hg.out (Nat.le_refl _) _) (Nat.le_refl _) _
  have hi : InS ((w2.setCell ⟨w.heap.size, 0, none⟩ (.int .i64 e)).setCell ⟨w.heap.size, 1, none⟩ (.int .i64 a)) D ds cap := InS.fault Y.out.1 HB2.out e a
  revert hB hG hi
  generalize ((w2.setCell ⟨w.heap.size, 0, none⟩ (.int .i64 e)).setCell ⟨w.heap.size, 1, none⟩ (.int .i64 a)) = Y9
  intro hB hG hi
  obtain ⟨b9, f9⟩ := hB.rules
  refine bodyPost_ret (v := .tuple #[.slice D ds.length cap, .agg #[.int .i64 e, .int .i64 a]]) (by simp [results, Try.results87, go_sem, b9]) rfl ?_
  exact ⟨D, ds, cap, rfl, hi, Y.out.2, hG⟩
set_option maxRecDepth 100000 in
set_option maxHeartbeats 8000000 in
theorem sdel_any (ss : List S) (A : Option Addr) (c : Nat) (w : World) (h : InS w A ss c) :
    Calls Try.prog 91 #[.slice A ss.length c] w fun en w' => GivesL w w' en (alongZ Fz (ss.map S.z)) := by
  have cs := fun W (hg : Grow w W) => along_del ss A c W (h.grow hg)
  obtain ⟨R, hR⟩ : ∃ R, alongZ Fz (ss.map S.z) = R := ⟨_, rfl⟩
  rw [hR] at cs ⊢
  obtain ⟨L, e, a⟩ := R
  clear h hR
  go_enter Try.func91, Try.ntmps91
  go_upto_region 1 with fail
  refine wp_forget (fun X => Blk X w.heap.size 81 #[.int .i64 0, .int .i64 0] ∧ Grow w X) ⟨Blk.new _ _ _, (Grow.refl w).al _⟩ ?_
  rintro X1 ⟨B1, G1⟩
  have HB := Lib.hid B1
  go_wp2_with (go_at_call 134; ((with_reducible refine (cs _ G1).mono ?_); rintro en w2 ⟨D, ds, cap, rfl, hin, hm, hg2⟩; have Y := Lib.hid (And.intro hin hm); have Hg := Lib.hid (G1.trans hg2); have HB2 := Lib.hid (HB.out.grow hg2); obtain ⟨b5, f5⟩ := HB2.out.rules; clear hin hm hg2))
  have hB : Blk ((w2.setCell ⟨w.heap.size, 0, none⟩ (.int .i64 e)).setCell ⟨w.heap.size, 1, none⟩ (.int .i64 a)) w.heap.size 81 #[.int .i64 e, .int .i64 a] := (HB2.out.set 0 _).set 1 _
  have hG : Grow w ((w2.setCell ⟨w.heap.size, 0, none⟩ (.int .i64 e)).setCell ⟨w.heap.size, 1, none⟩ (.int .i64 a)) := Grow.set (Grow.set Hg.out (Nat.le_refl _) _) (Nat.le_refl _) _
  have hi : InS ((w2.setCell ⟨w.heap.size, 0, none⟩ (.int .i64 e)).setCell ⟨w.heap.size, 1, none⟩ (.int .i64 a)) D ds cap := InS.fault Y.out.1 HB2.out e a
  revert hB hG hi
  generalize ((w2.setCell ⟨w.heap.size, 0, none⟩ (.int .i64 e)).setCell ⟨w.heap.size, 1, none⟩ (.int .i64 a)) = Y9
  intro hB hG hi
  obtain ⟨b9, f9⟩ := hB.rules
  refine bodyPost_ret (v := .tuple #[.slice D ds.length cap, .agg #[.int .i64 e, .int .i64 a]]) (by simp [results, Try.results91, go_sem, b9]) rfl ?_
  exact ⟨D, ds, cap, rfl, hi, Y.out.2, hG⟩
end Go.Proofs.Ytjhcbehnopmnpaa
