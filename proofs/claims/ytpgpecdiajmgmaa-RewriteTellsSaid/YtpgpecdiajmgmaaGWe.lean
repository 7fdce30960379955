/-
  Joined texts of this claim: Rc1, Rc2, Rc3. What each proves its own head says; no condition beside those that each theorem names.
-/
import Derived.Test.YtpgpecdiajmgmaaGWa
import Derived.Test.YtpgpecdiajmgmaaGAb
import Derived.Test.YtpgpecdiajmgmaaGZb
import Derived.Test.YtpgpecdiajmgmaaGT
import Derived.Test.YtpgpecdiajmgmaaGX
namespace Go.Proofs.Ytpgpecdiajmgmaa
open Go.RowKit Go.Calm
set_option linter.unusedSimpArgs false
set_option linter.unusedVariables false

set_option maxHeartbeats 4000000 in
set_option maxRecDepth 100000 in
theorem rkidsp_any (k : Int) (w : World) : Calls Try.prog 95 #[.int .i64 k] w fun e w' => e = .returned (.int .i64 (kidsP k)) ∧ Grow w w' := by
  by_cases h : 1 ≤ k ∧ k ≤ 13
  · obtain ⟨h1, h2⟩ := h
    have : k = 1 ∨ k = 2 ∨ k = 3 ∨ k = 4 ∨ k = 5 ∨ k = 6 ∨ k = 7 ∨ k = 8 ∨ k = 9 ∨ k = 10 ∨ k = 11 ∨ k = 12 ∨ k = 13 := by omega
    clear h1 h2
    rcases this with rfl | rfl | rfl | rfl | rfl | rfl | rfl | rfl | rfl | rfl | rfl | rfl | rfl
    all_goals
      go_enter Try.func95, Try.ntmps95
      go_wp2
      go_ret
      refine ret_int ?_ (by repeat (first | (with_reducible exact Grow.refl _) | (with_reducible assumption) | (with_reducible refine Grow.set ?_ (by first | (simp; done) | (simp; omega)) _) | (with_reducible refine Grow.al ?_ _) | (with_reducible refine Grow.drew ?_) | (with_reducible refine Grow.drewN ?_ _) | (with_reducible refine Grow.trans ?_ (by assumption))))
      rfl
  · have e : kidsP k = -1 := by unfold kidsP; repeat' split
                                all_goals omega
    rw [e]; clear e
    have h' : k < 1 ∨ 13 < k := by omega
    clear h
    rcases h' with h' | h'
    · go_enter Try.func95, Try.ntmps95
      go_wp2
      go_ret
      exact ⟨rfl, (by repeat (first | (with_reducible exact Grow.refl _) | (with_reducible assumption) | (with_reducible refine Grow.set ?_ (by first | (simp; done) | (simp; omega)) _) | (with_reducible refine Grow.al ?_ _) | (with_reducible refine Grow.drew ?_) | (with_reducible refine Grow.drewN ?_ _) | (with_reducible refine Grow.trans ?_ (by assumption))))⟩
    · have hd : decide (k < 1) = false := by simp; omega
      go_enter Try.func95, Try.ntmps95
      go_wp2
      go_ret
      exact ⟨rfl, (by repeat (first | (with_reducible exact Grow.refl _) | (with_reducible assumption) | (with_reducible refine Grow.set ?_ (by first | (simp; done) | (simp; omega)) _) | (with_reducible refine Grow.al ?_ _) | (with_reducible refine Grow.drew ?_) | (with_reducible refine Grow.drewN ?_ _) | (with_reducible refine Grow.trans ?_ (by assumption))))⟩
theorem oneT_one {x y : Int} (h : x = 1) : oneT x y = y := by
  unfold oneT
  by_cases h' : y = 1
  · simp [h, h']
  · rw [if_neg (by omega), if_pos h]
theorem own_setN {w : World} {base g n c : Nat} {l : List Int} (h : w.ownsRow base 3 1 (.slice (some ⟨g, 0, none⟩) n c) n (flatN l)) (k : Nat) (y : Int) : (w.setCell ⟨g, k, none⟩ (.int .i64 y)).ownsRow base 3 1 (.slice (some ⟨g, 0, none⟩) n c) n (flatN (l.set k y)) := by
  have hl := h.1
  rcases h.2 with ⟨e, _⟩ | ⟨g', cap, cur, e, hB, hgb, hle, hmx, hcs, htk⟩
  · simp at e
  · simp at e
    obtain ⟨rfl, rfl⟩ := e
    refine ⟨by simpa [flatN] using hl, .inr ⟨g, c, cur.setIfInBounds k (.int .i64 y), rfl, hB, Blk.set (w := w) hgb _ _, hle, hmx, by simpa using hcs, ?_⟩⟩
    have e : flatN (l.set k y) = (flatN l).set k (.int .i64 y) := by simp [flatN, List.map_set]
    rw [e, ← htk, Array.toList_setIfInBounds, List.take_set]
theorem own_emptyN (w : World) : (w.alloc (.cells #[] 3)).ownsRow w.heap.size 3 1 (.slice (some ⟨w.heap.size, 0, none⟩) 0 0) 0 (flatN []) := ⟨rfl, .inr ⟨w.heap.size, 0, #[], rfl, Nat.le_refl _, heap_alloc_new w _, Nat.le_refl _, by unfold maxLen; omega, rfl, rfl⟩⟩
theorem own_addr1 {w : World} {base n c : Nat} {B : Option Addr} {l : List Int} (h : w.ownsRow base 3 1 (.slice B n c) n (flatN l)) (hn : 0 < n) : ∃ g, B = some ⟨g, 0, none⟩ ∧ base ≤ g ∧ (∃ cur, Blk w g 3 cur) ∧ ∀ i x, l[i]? = some x → w.cell? ⟨g, i, none⟩ = some (.int .i64 x) := by
  rcases h.2 with ⟨_, h0⟩ | ⟨g, cap, cur, e, hB, hgb, _⟩
  · omega
  · simp at e
    obtain ⟨rfl, rfl⟩ := e
    refine ⟨g, rfl, hB, ⟨cur, hgb⟩, fun i x hx => ?_⟩
    have := h.cells (g := g) rfl i (.int .i64 x) (by simp [flatN, hx])
    rw [addr_add] at this
    simpa using this
set_option maxRecDepth 100000 in
set_option maxHeartbeats 4000000 in
theorem rside_any (a b : List Int) (A B : Option Addr) (c d : Nat) (w : World) (hl : a.length ≤ 100) (hlb : b.length ≤ 100) (ha : ISl w A a) (hb : ISl w B b) :
    Calls Try.prog 98 #[.slice A a.length c, .slice B b.length d] w fun en w' => ColN w w' en (sideE a b) := by
  have Ha := Lib.hid ha
  have Hb := Lib.hid hb
  clear ha hb
  obtain ⟨R, hR⟩ : ∃ R, sideE a b = R := ⟨_, rfl⟩
  rw [hR]
  have HR := Lib.hid hR
  clear hR
  go_enter Try.func98, Try.ntmps98
  by_cases h0 : a.length = b.length
  · have d0 : ((a.length : Int) != (b.length : Int)) = false := by simp; omega
    have H0 := Lib.hid h0
    clear h0
    have e : R = if (a.zip b).all (fun p => oneB p.1 p.2) = true then ((a.zip b).map (fun p => oneT p.1 p.2), 0) else ([], 9) := by rw [← HR.out]; unfold sideE; rw [if_neg (by simpa using H0.out)]
    have Re := Lib.hid e
    have Src := Lib.hid (srcN_of (c := c) (Ha.out.grow ((Grow.refl w).al (.cells #[] 3))))
    have OE := Lib.hid (own_emptyN w)
    clear e HR
    go_upto_region 4 with (at_builtin; refine wpList_append_srcN rfl _ _ rfl w.heap.size _ _ _ rfl OE.out _ a rfl Src.out (by omega) (by simp) ?_; intro v7 w7 own7 gr7)
    have G7 : Grow w w7 := Grow.own ((Grow.refl w).al _) gr7 (fun i hi => by
      rcases Nat.lt_or_ge i w.heap.size with h | h
      · exact absurd hi.symm (own_ge OE.out h)
      · exact h)
    obtain ⟨B7, cap7, rfl⟩ := own_slice own7
    have Own7 := Lib.hid (show w7.ownsRow w.heap.size 3 1 (.slice B7 a.length cap7) a.length (flatN a) by simpa using own7)
    clear own7 gr7 OE Src
    simp only [Nat.zero_add]
    go_wp2
    go_loopw [18] (fun i wr => ∃ (k : Nat) (l : List Int), k ≤ a.length ∧ i = .int .i64 k ∧ wr.ownsRow w.heap.size 3 1 (.slice B7 a.length cap7) a.length (flatN l) ∧ (∀ j, j < k → l[j]? = ((a.zip b).map (fun p => oneT p.1 p.2))[j]?) ∧ (∀ j, k ≤ j → l[j]? = a[j]?) ∧ ((a.zip b).take k).all (fun p => oneB p.1 p.2) = true ∧ Grow w wr) (fun i _ => a.length - (intOf i).toNat)
    case atStart => exact ⟨0, a, Nat.zero_le _, rfl, Own7.out, (fun j hj => by omega), (fun j hj => rfl), rfl, G7⟩
    case round =>
      obtain ⟨k, l, hk, rfl, hown, hz1, hz2, hz, hg⟩ := hrel
      have Own := Lib.hid hown
      have Hz := Lib.hid hz
      have Hz1 := Lib.hid hz1
      have Hz2 := Lib.hid hz2
      clear hown hz hz1 hz2
      by_cases hlt : k < a.length
      · obtain ⟨x, hxk⟩ : ∃ x, a[k]? = some x := ⟨_, List.getElem?_eq_getElem hlt⟩
        obtain ⟨y, hyk⟩ : ∃ y, b[k]? = some y := ⟨_, List.getElem?_eq_getElem (by have := H0.out; omega)⟩
        obtain ⟨gx, ox, rfl, cx⟩ := (Ha.out.grow hg) k x hxk
        obtain ⟨gy, oy, rfl, cy⟩ := (Hb.out.grow hg) k y hyk
        obtain ⟨g7, rfl, hb7, ⟨cur7, blk7⟩, hc7⟩ := own_addr1 Own.out (by omega)
        have Zk := Lib.hid (zip_at hxk hyk)
        have co := hc7 k x (by rw [Hz2.out k (Nat.le_refl _)]; exact hxk)
        have kb : (k : Int) < (b.length : Int) := by have := H0.out; omega
        have kb' : k < b.length := by omega
        have ll : l.length = a.length := by have := Own.out.1; simpa [flatN] using this
        have hzk : ((a.zip b).map (fun p => oneT p.1 p.2))[k]? = some (oneT x y) := by rw [List.getElem?_map, Zk.out]; rfl
        have XK := Lib.hid hxk
        have ZM := Lib.hid hzk
        have LL := Lib.hid ll
        clear hxk hyk hzk hc7 ll
        have good : oneB x y = true → ((a.zip b).take (k + 1)).all (fun p => oneB p.1 p.2) = true := fun h => all_take _ _ k _ Zk.out Hz.out h
        by_cases h3 : x = 1
        · have d3 : (x == 1) = true := by simpa using h3
          have Good := Lib.hid (good (by simp [oneB, h3]))
          have ET := Lib.hid (oneT_one (y := y) h3)
          obtain ⟨r7, f7⟩ := blk7.rules
          clear good r7
          go_wp2
          go_roundw
          case rel =>
            refine ⟨k + 1, l.set k y, by omega, by go_num, own_setN Own.out k y, fun j hj => ?_, fun j hj => ?_, Good.out, hg.set hb7 _⟩
            · by_cases hjk : j = k
              · subst hjk
                rw [List.getElem?_set_self (by have := LL.out; omega), ZM.out, ET.out]
              · rw [List.getElem?_set_ne (Ne.symm hjk)]; exact Hz1.out j (by omega)
            · rw [List.getElem?_set_ne (by omega)]; exact Hz2.out j (by omega)
          case measure => simp [intOf]; omega
        · have d3 : (x == 1) = false := by simpa using h3
          have keep : oneT x y = x → ∀ j, j < k + 1 → l[j]? = ((a.zip b).map (fun p => oneT p.1 p.2))[j]? := fun h j hj => by
            by_cases hjk : j = k
            · subst hjk; rw [ZM.out, h, Hz2.out j (Nat.le_refl _), XK.out]
            · exact Hz1.out j (by omega)
          by_cases h2 : y = 1
          · have d2 : (y != 1) = false := by simpa using h2
            have Good := Lib.hid (good (by simp [oneB, h2]))
            have Keep := Lib.hid (keep (by simp [oneT, h2]))
            clear good keep h2 h3
            go_wp2
            go_quiet (fail)
            go_wp2
            go_roundw
            case rel => exact ⟨k + 1, l, by omega, by go_num, Own.out, Keep.out, fun j hj => Hz2.out j (by omega), Good.out, hg.drewN _⟩
            case measure => simp [intOf]; omega
          · have d2 : (y != 1) = true := by simpa using h2
            by_cases h1 : x = y
            · have d1 : (y != x) = false := by simpa using h1.symm
              have Good := Lib.hid (good (by simp [oneB, h1]))
              have Keep := Lib.hid (keep (by simp [oneT, h1]))
              clear good keep h1 h2 h3
              go_wp2
              go_quiet (fail)
              go_wp2
              go_roundw
              case rel => exact ⟨k + 1, l, by omega, by go_num, Own.out, Keep.out, fun j hj => Hz2.out j (by omega), Good.out, hg.drewN _⟩
              case measure => simp [intOf]; omega
            · have d1 : (y != x) = true := by simpa using Ne.symm h1
              have e : R = ([], 9) := by rw [Re.out, if_neg (by rw [all_fails _ _ k _ Zk.out (by simp [oneB, h1, h2, h3])]; simp)]
              subst e
              clear good keep h1 h2 h3
              go_wp2
              go_quiet (fail)
              go_wp2
              refine bodyPost_ret (by simp [results, Try.results98, go_sem] <;> rfl) rfl ?_
              exact ColN.bad (hg.drewN _)
      · obtain rfl : k = a.length := by omega
        have hzl : (a.zip b).length = a.length := by simp; have := H0.out; omega
        have ll : l.length = a.length := by have := Own.out.1; simpa [flatN] using this
        have e2 : l = (a.zip b).map (fun p => oneT p.1 p.2) := by
          apply List.ext_getElem?
          intro j
          rcases Nat.lt_or_ge j a.length with h | h
          · exact Hz1.out j h
          · rw [List.getElem?_eq_none (by omega), List.getElem?_eq_none (by simp; omega)]
        have e : R = (l, 0) := by
          have h1 := Hz.out
          rw [List.take_of_length_le (by omega)] at h1
          rw [Re.out, if_pos h1, ← e2]
        subst e
        have LL := Lib.hid ll
        clear hzl e2 ll
        go_wp2
        refine bodyPost_ret (by simp [results, Try.results98, go_sem] <;> rfl) rfl ?_
        exact ⟨B7, cap7, by simp [LL.out], own_isl2 (by rw [LL.out]; exact Own.out) rfl, own_new Own.out, hg⟩
  · have d0 : ((a.length : Int) != (b.length : Int)) = true := by simp; omega
    have e : R = ([], 8) := by rw [← HR.out]; unfold sideE; rw [if_pos h0]
    subst e
    go_wp2
    refine bodyPost_ret (by simp [results, Try.results98, go_sem] <;> rfl) rfl ?_
    exact ColN.bad (Grow.refl _)
set_option maxRecDepth 100000 in
set_option maxHeartbeats 400000 in
theorem ints_any (a : List Int) (A B : Option Addr) (c d : Nat) (w : World) (hl : a.length ≤ 9223372036854775807) (ha : ISl w A a) (hb : ISl w B a) :
    Calls Try.prog 14 #[.slice A a.length c, .slice B a.length d] w fun en w' => en = .returned (.bool true) ∧ Grow w w' := by
  have Ha := Lib.hid ha
  have Hb := Lib.hid hb
  clear ha hb
  go_enter Try.func14, Try.ntmps14
  go_wp2
  go_loopw [13] (fun i wr => ∃ k : Nat, k ≤ a.length ∧ i = .int .i64 k ∧ Grow w wr) (fun i _ => a.length - (intOf i).toNat)
  case atStart => exact ⟨0, Nat.zero_le _, rfl, Grow.refl w⟩
  case round =>
    obtain ⟨k, hk, rfl, hg⟩ := hrel
    by_cases hlt : k < a.length
    · obtain ⟨x, hxk⟩ : ∃ x, a[k]? = some x := ⟨_, List.getElem?_eq_getElem hlt⟩
      obtain ⟨gx, ox, rfl, cx⟩ := (Ha.out.grow hg) k x hxk
      obtain ⟨gy, oy, rfl, cy⟩ := (Hb.out.grow hg) k x hxk
      clear hxk
      go_wp2
      go_quiet (fail)
      go_wp2
      go_roundw
      case rel => exact ⟨k + 1, by omega, by go_num, hg.drewN _⟩
      case measure => simp [intOf]; omega
    · obtain rfl : k = a.length := by omega
      go_wp2
      go_ret
      exact ret_bool (by simp) hg
end Go.Proofs.Ytpgpecdiajmgmaa

namespace Go.Proofs.Ytpgpecdiajmgmaa
open Go.RowKit Go.Calm
set_option linter.unusedSimpArgs false
set_option linter.unusedVariables false

def RColC (ts : List (L2 Int)) (At : Option Addr) (nt : Nat) (p : PL) : Prop := ∀ (g : Nat) (deep m : Int) (w0 w : World), PX w0 p → TSl w0 At ts → Grow w0 w → w0.heap.size ≤ g →
  Blk w g 113 #[.slice At ts.length nt, .int .i64 m] → 0 ≤ m → m ≤ 60 → 1 ≤ deep → deep ≤ 16 →
  Calls Try.prog 56 #[.pointer (some ⟨g, 0, none⟩), p.val, .int .i64 deep] w fun en w' =>
    ColR g w w' en ((colP (tabs ts) p deep m).1, (colP (tabs ts) p deep m).2.1) ∧ Blk w' g 113 #[.slice At ts.length nt, .int .i64 (colP (tabs ts) p deep m).2.2] ∧ GX g w w'
set_option maxRecDepth 100000 in
set_option maxHeartbeats 4000000 in
theorem rcol_much (ts : List (L2 Int)) (At : Option Addr) (nt : Nat) (p : PL) (g : Nat) (deep m : Int) (w : World) (hb : Blk w g 113 #[.slice At ts.length nt, .int .i64 m]) (h0 : 0 ≤ m) (h1 : m ≤ 60) (h : 60 < m + 1 ∨ 15 < deep) :
  Calls Try.prog 56 #[.pointer (some ⟨g, 0, none⟩), p.val, .int .i64 deep] w fun en w' =>
    ColR g w w' en ([], 4) ∧ Blk w' g 113 #[.slice At ts.length nt, .int .i64 (m + 1)] ∧ GX g w w' := by
  have hgN := hb.lt
  have hgn : g ≠ w.heap.size := by omega
  obtain ⟨c, f⟩ := hb.rules
  have d : (decide (60 < m + 1) = true) ∨ (decide (60 < m + 1) = false ∧ decide (15 < deep) = true) := by
    simp only [decide_eq_true_eq, decide_eq_false_iff_not]; omega
  clear h
  unfold PL.val
  rcases d with d1 | ⟨d1, d2⟩
  · go_enter Try.func56, Try.ntmps56
    go_wp2
    refine bodyPost_ret (by simp [results, Try.results56, go_sem] <;> rfl) rfl ?_
    exact ⟨⟨_, rfl, fun h => by simp at h⟩, (hb.set 1 _).al _, ((GX.refl g w).set 1 _).al _⟩
  · go_enter Try.func56, Try.ntmps56
    go_wp2
    refine bodyPost_ret (by simp [results, Try.results56, go_sem] <;> rfl) rfl ?_
    exact ⟨⟨_, rfl, fun h => by simp at h⟩, (hb.set 1 _).al _, ((GX.refl g w).set 1 _).al _⟩
set_option maxRecDepth 100000 in
set_option maxHeartbeats 4000000 in
theorem rcol_form (ts : List (L2 Int)) (At : Option Addr) (nt : Nat) (p : PL) (g : Nat) (deep m : Int) (w : World) (hb : Blk w g 113 #[.slice At ts.length nt, .int .i64 m]) (hm : p.m ≤ reachN) (h0 : 0 ≤ m) (d1 : decide (60 < m + 1) = false) (d2 : decide (15 < deep) = false) (h : kidsP p.k < 0 ∨ ¬ kidsP p.k < 0 ∧ (p.m : Int) ≠ kidsP p.k) :
  Calls Try.prog 56 #[.pointer (some ⟨g, 0, none⟩), p.val, .int .i64 deep] w fun en w' =>
    ColR g w w' en ([], if kidsP p.k < 0 then 1 else 5) ∧ Blk w' g 113 #[.slice At ts.length nt, .int .i64 (m + 1)] ∧ GX g w w' := by
  have hgN := hb.lt
  have hgn : g ≠ w.heap.size := by omega
  obtain ⟨c, f⟩ := hb.rules
  have hm60 : m + 1 ≤ 60 := by simp at d1; omega
  have hm' : p.m ≤ 140737488355328 := hm
  have d : (decide (kidsP p.k < 0) = true) ∨ (decide (kidsP p.k < 0) = false ∧ (kidsP p.k != (p.m : Int)) = true) := by
    simp only [decide_eq_true_eq, decide_eq_false_iff_not, bne_iff_ne]; omega
  clear h
  unfold PL.val
  rcases d with d3 | ⟨d3, d4⟩
  · rw [if_pos (by simpa using d3)]
    go_enter Try.func56, Try.ntmps56
    go_wp2_with ((go_at_call 95; ((with_reducible refine (rkidsp_any _ _).mono ?_); rintro e w' ⟨rfl, hg⟩; obtain ⟨hc, hf, hz⟩ := hg.rules)))
    refine bodyPost_ret (by simp [results, Try.results56, go_sem] <;> rfl) rfl ?_
    exact ⟨⟨_, rfl, fun h => by simp at h⟩, ((hb.set 1 _).al _).grow hg, (((GX.refl g w).set 1 _).al _).grow hg⟩
  · rw [if_neg (by simpa using d3)]
    go_enter Try.func56, Try.ntmps56
    go_wp2_with ((go_at_call 95; ((with_reducible refine (rkidsp_any _ _).mono ?_); rintro e w' ⟨rfl, hg⟩; obtain ⟨hc, hf, hz⟩ := hg.rules)))
    refine bodyPost_ret (by simp [results, Try.results56, go_sem] <;> rfl) rfl ?_
    exact ⟨⟨_, rfl, fun h => by simp at h⟩, ((hb.set 1 _).al _).grow hg, (((GX.refl g w).set 1 _).al _).grow hg⟩
abbrev nilL : L2 Int := ⟨none, [], 0⟩
theorem colT_two (ts : List (List Int)) (k n : Int) (x : E) (xs : List E) (ag : List Ag) (cs : List (List Int)) : colT ts k n x xs ag cs = colT ts k n x xs ag [cs.getD 0 [], cs.getD 1 []] := by
  unfold colT
  simp only [List.getD_cons_zero, List.getD_cons_succ]
theorem getD_xs (cs : List (L2 Int)) (i : Nat) : (cs.map L2.xs).getD i [] = (cs.getD i nilL).xs := by
  rw [List.getD_eq_getElem?_getD, List.getD_eq_getElem?_getD, List.getElem?_map]
  cases cs[i]? <;> rfl
theorem Cs.get {w : World} {g : Nat} {cs : List (L2 Int)} (h : Cs w g cs) (h8 : ∀ c ∈ cs, c.xs.length ≤ 8) (i : Nat) : (ISl w (cs.getD i nilL).A (cs.getD i nilL).xs ∧ Off g (cs.getD i nilL).A (cs.getD i nilL).xs) ∧ (cs.getD i nilL).xs.length ≤ 8 := by
  rw [List.getD_eq_getElem?_getD]
  cases hi : cs[i]? with
  | none => exact ⟨⟨isl_nil _ _, fun h => absurd rfl h⟩, Nat.zero_le _⟩
  | some c => exact ⟨h.i c (List.mem_of_getElem? hi), h8 c (List.mem_of_getElem? hi)⟩
theorem Blk.gx {w w' : World} {g q : Nat} {t : TypeId} {cs : Array Value} (h : Blk w q t cs) (hg : GX g w w') (hne : q ≠ g) : Blk w' q t cs := by
  unfold Blk at h ⊢
  rw [hg.block q (Blk.lt h) (by simpa using hne)]
  exact h
set_option maxRecDepth 100000 in
set_option maxHeartbeats 4000000 in
theorem rcol_kids (ts : List (L2 Int)) (At : Option Addr) (nt : Nat) (ht8 : ∀ t ∈ tabs ts, t.length ≤ 8) (hnt : ts.length ≤ 8) (k n : Int) (x : E) (xs : XsS) (ag : AgS) (A : Option Addr) (mm cap : Nat) (kid : Nat → PL) (ih : ∀ i, RColC ts At nt (kid i))
    (g : Nat) (deep m : Int) (w0 w : World) (hE : PX w0 (.mk k n x xs ag A mm cap kid)) (hts : TSl w0 At ts) (hg0 : Grow w0 w) (hlt : w0.heap.size ≤ g)
    (hb : Blk w g 113 #[.slice At ts.length nt, .int .i64 m]) (h0 : 0 ≤ m) (d1 : decide (60 < m + 1) = false) (d2 : decide (15 < deep) = false) (hd0 : 1 ≤ deep) (hkn : 0 ≤ kidsP k) (hn : (mm : Int) = kidsP k)
    (C : List Int) (ER M : Int) (hT : colOf (tabs ts) k n x xs.l ag.l (kidsGo (fun i m' => colP (tabs ts) (kid i) (deep + 1) m') mm 0 (m + 1) []) = (C, ER, M)) :
  Calls Try.prog 56 #[.pointer (some ⟨g, 0, none⟩), (PL.mk k n x xs ag A mm cap kid).val, .int .i64 deep] w fun en w' =>
    ColR g w w' en (C, ER) ∧ Blk w' g 113 #[.slice At ts.length nt, .int .i64 M] ∧ GX g w w' := by
  have Hb := Lib.hid hb
  have HT := Lib.hid hT
  have Hn := Lib.hid hn
  have Hts := Lib.hid hts
  have HE := Lib.hid hE
  have H8 := Lib.hid ht8
  have d3 : decide (kidsP k < 0) = false := by simp; omega
  have d4 : (kidsP k != (mm : Int)) = false := by simpa using hn.symm
  obtain ⟨cb, fb⟩ := hb.rules
  have hgN : g < w.heap.size := hb.lt
  have hgn : g ≠ w.heap.size := by omega
  have hn2 : mm ≤ 2 := by have := kidsP_le k; omega
  have hm : m + 1 ≤ 60 := by simp at d1; omega
  have hd : deep ≤ 15 := by simp at d2; omega
  clear hT hn hb hts hE ht8
  unfold PL.val
  simp only [PL.k, PL.n, PL.x, PL.xs, PL.ag, PL.A, PL.m, PL.cap]
  go_enter Try.func56, Try.ntmps56
  go_wp2_with ((go_at_call 95; ((with_reducible refine (rkidsp_any _ _).mono ?_); rintro e w' ⟨rfl, hg⟩; obtain ⟨hc, hf, hz⟩ := hg.rules)))
  refine wp_forget (fun X => Blk X w.heap.size 31 #[.int .i64 k, .int .i64 n, .int .i64 x.kind, .int .i64 x.v.k, .int .i64 x.v.n, .string x.v.s, .int .i64 x.col, .slice x.A x.n x.cap, .slice xs.A xs.l.length xs.c, .slice ag.A ag.l.length ag.c, .slice A mm cap] ∧ Blk X g 113 #[.slice At ts.length nt, .int .i64 (m + 1)] ∧ GX g w X) ⟨(Blk.new' _ _ _ (by simp)).grow hg, ((Hb.out.set 1 _).al _).grow hg, (((GX.refl g w).set 1 _).al _).grow hg⟩ ?_
  rintro X ⟨BX, bX, gX⟩
  have BP := Lib.hid BX
  have bX' := Lib.hid bX
  have hpX := BX.lt
  have gp := hgn
  clear cb fb hg hc hf hz BX bX
  generalize w.heap.size = gq at *
  have hgX : g < X.heap.size := bX'.out.lt
  have hg0X : GX g w X := gX
  go_loopw [9, 10, 51] (fun va vb i wr => ∃ (j : Nat) (m' : Int) (cs : List (L2 Int)), j ≤ mm ∧ i = .int .i64 j ∧ va = vL (cs.getD 0 nilL) ∧ vb = vL (cs.getD 1 nilL) ∧ Blk wr gq 31 #[.int .i64 k, .int .i64 n, .int .i64 x.kind, .int .i64 x.v.k, .int .i64 x.v.n, .string x.v.s, .int .i64 x.col, .slice x.A x.n x.cap, .slice xs.A xs.l.length xs.c, .slice ag.A ag.l.length ag.c, .slice A mm cap] ∧ Blk wr g 113 #[.slice At ts.length nt, .int .i64 m'] ∧ GX g X wr ∧ 0 ≤ m' ∧ m' ≤ 60 ∧ cs.length = j ∧ Cs wr g cs ∧ (∀ c ∈ cs, c.xs.length ≤ 8) ∧
      kidsGo (fun i m' => colP (tabs ts) (kid i) (deep + 1) m') (mm - j) j m' (cs.map L2.xs) = kidsGo (fun i m' => colP (tabs ts) (kid i) (deep + 1) m') mm 0 (m + 1) []) (fun _ _ i _ => mm - (intOf i).toNat)
  case atStart => exact ⟨0, m + 1, [], Nat.zero_le _, rfl, rfl, rfl, BP.out, bX'.out, GX.refl g X, by omega, by omega, rfl, ⟨fun c hc => by simp at hc⟩, (fun c hc => by simp at hc), rfl⟩
  case round =>
    obtain ⟨j, m', cs, hj, rfl, rfl, rfl, hbp, hbr, hgx0, hm0, hm1, hcl, hcs, hc8, hR⟩ := hrel
    have hgx := hg0X.trans hgx0
    have hgw := GX.base hg0 hlt hgx
    have HR := Lib.hid hR
    have hbs := Lib.hid hbr
    have BPr := Lib.hid hbp
    have HC := Lib.hid hcs
    have HC8 := Lib.hid hc8
    obtain ⟨bp, fp⟩ := hbp.rules
    have lwr := hbr.lt
    clear hR hbr hcs hc8 hbp
    by_cases hltj : j < mm
    · obtain ⟨gk, ok, hA, hck, hEk⟩ : ∃ gk ok, A = some ⟨gk, ok, none⟩ ∧ PCells w0 gk (ok + j * 11) (kid j) ∧ PX w0 (kid j) := by
        cases HE.out with
        | mk hm' hc hk =>
          obtain ⟨gk, ok, h1, h2⟩ := hc j hltj
          exact ⟨gk, ok, h1, h2, hk j hltj⟩
      subst hA
      obtain ⟨c0, c1, c2, c3, c4, c5, c6, c7, c8, c9, c10⟩ := hck.grow hgw
      obtain ⟨q1, q2, q3, hq⟩ : ∃ q1 q2 q3, colP (tabs ts) (kid j) (deep + 1) m' = (q1, q2, q3) := ⟨_, _, _, rfl⟩
      have hbd := colP_bd (tabs ts) (kid j) (deep + 1) m' hm1
      have hln := colP_len H8.out (kid j) (deep + 1) m'
      have ihj := fun W (h : Grow wr W) (hb : Blk W g 113 #[.slice At ts.length nt, .int .i64 m']) => ih j g (deep + 1) m' w0 W hEk Hts.out (hgw.trans h) hlt hb hm0 hm1 (by omega) (by omega)
      rw [hq] at hbd ihj hln
      simp only at hbd ihj hln
      unfold PL.val at ihj
      have Hq := Lib.hid hq
      have IH := Lib.hid ihj
      clear hq hck hEk ihj
      go_upto_region 13 with fail
      refine wp_forget (fun W => Blk W wr.heap.size 31 #[.int .i64 (kid j).k, .int .i64 (kid j).n, .int .i64 (kid j).x.kind, .int .i64 (kid j).x.v.k, .int .i64 (kid j).x.v.n, .string (kid j).x.v.s, .int .i64 (kid j).x.col, .slice (kid j).x.A (kid j).x.n (kid j).x.cap, .slice (kid j).xs.A (kid j).xs.l.length (kid j).xs.c, .slice (kid j).ag.A (kid j).ag.l.length (kid j).ag.c, .slice (kid j).A (kid j).m (kid j).cap] ∧ Grow wr W) ⟨Blk.new _ _ _, (Grow.refl wr).al _⟩ ?_
      rintro W ⟨BW, gW⟩
      obtain ⟨bk, fk⟩ := BW.rules
      have lBW := BW.lt
      have hbW := Lib.hid (hbs.out.grow gW)
      have ihj := IH.out W gW hbW.out
      clear c0 c1 c2 c3 c4 c5 c6 c7 c8 c9 c10 bp fp IH
      by_cases h2 : q2 = 0
      · subst h2
        have hj2 : j = 0 ∨ j = 1 := by omega
        have Fin := Lib.hid (kidsGo_ok (F := fun i m' => colP (tabs ts) (kid i) (deep + 1) m') (ts := cs.map L2.xs) hltj Hq.out)
        rcases hj2 with rfl | rfl
        · obtain rfl := List.length_eq_zero_iff.1 hcl
          go_wp2_with (go_at_call 56; ((with_reducible refine ihj.mono ?_); rintro e w2 ⟨⟨vk, rfl, hv2⟩, hb2, hg2⟩; obtain ⟨BK, capK, rfl, hik, hnk⟩ := hv2 rfl))
          have HC3 := Lib.hid (((HC.out.grow gW).gx hg2).snoc (c := ⟨BK, q1, capK⟩) hik hnk)
          have hbp3 := Blk.gx (BPr.out.grow gW) hg2 (Ne.symm gp)
          go_roundw
          case rel => exact ⟨0 + 1, q3, [] ++ [⟨BK, q1, capK⟩], by omega, by go_num, rfl, rfl, hbp3, hb2, (hgx0.grow gW).trans hg2, by have := hbd.1; omega, by simpa using hbd.2.2, by simp, HC3.out, (fun c hc => by
            rcases List.mem_append.1 hc with hc | hc
            · exact HC8.out c hc
            · simp at hc; subst hc; exact hln trivial), by rw [← HR.out, Fin.out]; simp⟩
          case measure => simp [intOf]; omega
        · obtain ⟨a1, rfl⟩ := List.length_eq_one_iff.1 hcl
          go_wp2_with (go_at_call 56; ((with_reducible refine ihj.mono ?_); rintro e w2 ⟨⟨vk, rfl, hv2⟩, hb2, hg2⟩; obtain ⟨BK, capK, rfl, hik, hnk⟩ := hv2 rfl))
          have HC3 := Lib.hid (((HC.out.grow gW).gx hg2).snoc (c := ⟨BK, q1, capK⟩) hik hnk)
          have hbp3 := Blk.gx (BPr.out.grow gW) hg2 (Ne.symm gp)
          go_roundw
          case rel => exact ⟨1 + 1, q3, [a1] ++ [⟨BK, q1, capK⟩], by omega, by go_num, rfl, rfl, hbp3, hb2, (hgx0.grow gW).trans hg2, by have := hbd.1; omega, by simpa using hbd.2.2, by simp, HC3.out, (fun c hc => by
            rcases List.mem_append.1 hc with hc | hc
            · exact HC8.out c hc
            · simp at hc; subst hc; exact hln trivial), by rw [← HR.out, Fin.out]; simp⟩
          case measure => simp [intOf]; omega
      · have dq : (q2 != 0) = true := by simpa using h2
        have fin : colOf (tabs ts) k n x xs.l ag.l (kidsGo (fun i m' => colP (tabs ts) (kid i) (deep + 1) m') mm 0 (m + 1) []) = ([], q2, q3) := by
          rw [← HR.out, kidsGo_no (F := fun i m' => colP (tabs ts) (kid i) (deep + 1) m') hltj Hq.out h2]
          simp [colOf, h2]
        obtain ⟨rfl, rfl, rfl⟩ : C = [] ∧ ER = q2 ∧ M = q3 := by simpa using HT.out.symm.trans fin
        clear fin
        go_wp2_with (go_at_call 56; ((with_reducible refine ihj.mono ?_); rintro e w2 ⟨⟨vk, rfl, hv2⟩, hb2, hg2⟩))
        refine bodyPost_ret (by simp [results, Try.results56, go_sem] <;> rfl) rfl ?_
        exact ⟨⟨_, rfl, fun h => absurd h h2⟩, hb2, (hgx.grow gW).trans hg2⟩
    · obtain rfl : j = mm := by omega
      have fin : colOf (tabs ts) k n x xs.l ag.l (0, m', cs.map L2.xs) = (C, ER, M) := by
        rw [← HT.out, ← HR.out, Nat.sub_self]; rfl
      obtain ⟨a, ha⟩ : ∃ a, cs.getD 0 nilL = a := ⟨_, rfl⟩
      obtain ⟨b, hb⟩ : ∃ b, cs.getD 1 nilL = b := ⟨_, rfl⟩
      obtain ⟨ia, la⟩ := HC.out.get HC8.out 0
      obtain ⟨ib, lb⟩ := HC.out.get HC8.out 1
      rw [ha] at ia la
      rw [hb] at ib lb
      have e2 : colT (tabs ts) k n x xs.l ag.l (cs.map L2.xs) = colT (tabs ts) k n x xs.l ag.l [a.xs, b.xs] := by
        rw [colT_two, getD_xs, getD_xs, ha, hb]
      obtain ⟨rfl, rfl, rfl⟩ : C = (colT (tabs ts) k n x xs.l ag.l [a.xs, b.xs]).1 ∧ ER = (colT (tabs ts) k n x xs.l ag.l [a.xs, b.xs]).2 ∧ M = m' := by
        have : colOf (tabs ts) k n x xs.l ag.l (0, m', cs.map L2.xs) = ((colT (tabs ts) k n x xs.l ag.l [a.xs, b.xs]).1, (colT (tabs ts) k n x xs.l ag.l [a.xs, b.xs]).2, m') := by simp [colOf, e2]
        simpa using fin.symm.trans this
      rw [ha, hb]
      clear fin HR HT ih e2
      obtain ⟨hEx, hES, hAG, hlens, hnI⟩ : EX w0 x ∧ ESl w0 xs.A xs.l ∧ AgSl w0 ag.A ag.l ∧ (xs.l.length ≤ reachN ∧ ag.l.length ≤ reachN) ∧ inI64 n := by
        cases HE.out with
        | mk hm' hc hk hx hs ha hl hi => exact ⟨hx, hs, ha, hl, hi.2⟩
      have kk : k = 1 ∨ k = 2 ∨ k = 3 ∨ k = 4 ∨ k = 5 ∨ k = 6 ∨ k = 7 ∨ k = 8 ∨ k = 9 ∨ k = 10 ∨ k = 11 ∨ k = 12 ∨ k = 13 := by
        clear Hn HC HC8 HE Hts H8 BPr hbs
        unfold kidsP at hkn
        repeat' split at hkn
        all_goals omega
      have OE := Lib.hid (own_emptyN wr)
      have Sa := Lib.hid (srcN_of (c := a.cap) (ia.1.grow ((Grow.refl wr).al (.cells #[] 3))))
      go_upto_region 21 with (first
        | (at_builtin; refine wpList_append_srcN rfl _ _ rfl wr.heap.size _ _ _ rfl Own7.out _ b.xs rfl (srcN_of (c := b.cap) (ib.1.grow G7)) (by omega) (by have := G7.size; omega) ?_; intro v8 w8 own8 gr8)
        | (at_builtin; refine wpList_append_srcN rfl _ _ rfl wr.heap.size _ _ _ rfl OE.out _ a.xs rfl Sa.out (by omega) (by simp) ?_; intro v7 w7 own7 gr7; have G7 : Grow wr w7 := Grow.own ((Grow.refl wr).al _) gr7 (fun i hi => (Nat.lt_or_ge i wr.heap.size).elim (fun h => absurd hi.symm (own_ge OE.out h)) id); have Own7 := Lib.hid own7; clear own7 gr7))
      have G8 : Grow wr w8 := Grow.own G7 gr8 (fun i hi => (Nat.lt_or_ge i wr.heap.size).elim (fun h => absurd hi.symm (own_ge Own7.out h)) id)
      obtain ⟨BL, capL, rfl⟩ := own_slice own8
      obtain ⟨LR, hLR⟩ : ∃ LR, a.xs ++ b.xs = LR := ⟨_, rfl⟩
      have llr : LR.length = a.xs.length + b.xs.length := by rw [← hLR]; simp
      have hiL := own_isl2 (ys := LR) (by simpa [← flatN_app, hLR, llr] using own8) (by omega)
      have hnL : NewA wr BL := own_new own8
      have e9 : 0 + a.xs.length + b.xs.length = LR.length := by omega
      rw [e9]
      have l16 : LR.length ≤ 16 := by omega
      have IL := Lib.hid hiL
      have Ia := Lib.hid (And.intro (ia.1.grow G8) ia.2)
      have Ib := Lib.hid (And.intro (ib.1.grow G8) ib.2)
      have HLR := Lib.hid hLR
      have Bp8 := Lib.hid (BPr.out.grow G8)
      have bs8 := Lib.hid (hbs.out.grow G8)
      have hgx8 := hgx.grow G8
      have hgw8 := hgw.trans G8
      have hg8 : g < wr.heap.size := lwr
      clear own8 gr8 hiL ia ib ha hb hLR OE Sa Own7 HC HC8 BPr hbs hgx hgw hgx0 hg0X bp fp e9 llr Hn HE hkn
      obtain ⟨bp, fp⟩ := Bp8.out.rules
      have cq := fun (u : L2 Int) W (h : Grow w8 W) (hi : ISl w8 u.A u.xs) (hl : u.xs.length ≤ 100) => rcond_any u.xs u.A u.cap x W (by omega) (hi.grow h) (hEx.grow (hgw8.trans h))
      have cty := fun W (h : Grow w8 W) => rtypesN_any a.xs a.A a.cap xs.l xs.A xs.c W (by omega) (by have := hlens.1; unfold reachN at this; omega) (Ia.out.1.grow h) (hES.grow (hgw8.trans h))
      have cag := fun W (h : Grow w8 W) (h8 : ag.l.length ≤ 8) => raggtypesT_any a.xs a.A a.cap ag.l ag.A ag.c W (by omega) h8 (Ia.out.1.grow h) (hAG.grow (hgw8.trans h))
      have csd := fun W (h : Grow w8 W) => rside_any a.xs b.xs a.A b.A a.cap b.cap W (by omega) (by omega) (Ia.out.1.grow h) (Ib.out.1.grow h)
      unfold E.val at cq
      have cq2 := cq ⟨BL, LR, capL⟩
      simp only at cq2
      clear hES hAG hEx
      rcases kk with rfl | rfl | rfl | rfl | rfl | rfl | rfl | rfl | rfl | rfl | rfl | rfl | rfl
      · clear cq cq2 cty cag csd
        by_cases hn0 : n < 0
        · have dn : decide (n < 0) = true := decide_eq_true hn0
          go_wp2
          go_quiet (fail)
          go_wp2
          refine bodyPost_ret (by simp [results, Try.results56, go_sem] <;> rfl) rfl ?_
          rw [show colT (tabs ts) 1 n x xs.l ag.l [a.xs, b.xs] = ([], 7) from by simp [colT, hn0]]
          exact ⟨⟨_, rfl, fun h => by simp at h⟩, bs8.out, hgx8.drewN _⟩
        · have dn : decide (n < 0) = false := decide_eq_false hn0
          obtain ⟨nn, rfl⟩ : ∃ nn : Nat, n = (nn : Int) := ⟨n.toNat, by omega⟩
          obtain ⟨b0, f0⟩ := bs8.out.rules
          by_cases hn1 : ts.length ≤ nn
          · have dn1 : decide ((ts.length : Int) ≤ (nn : Int)) = true := decide_eq_true (by omega)
            go_wp2
            go_quiet (fail)
            go_wp2
            refine bodyPost_ret (by simp [results, Try.results56, go_sem] <;> rfl) rfl ?_
            rw [show colT (tabs ts) 1 (nn : Int) x xs.l ag.l [a.xs, b.xs] = ([], 7) from by simp [colT]; omega]
            exact ⟨⟨_, rfl, fun h => by simp at h⟩, bs8.out, hgx8.drewN _⟩
          · have dn1 : decide ((ts.length : Int) ≤ (nn : Int)) = false := decide_eq_false (by omega)
            obtain ⟨t, htk⟩ : ∃ t, ts[nn]? = some t := ⟨_, List.getElem?_eq_getElem (by omega)⟩
            obtain ⟨gt, ot, rfl, ct, hit⟩ := Hts.out nn t htk
            have ct1 := hgw8.cell ct
            have hib := Lib.hid (And.intro (hit.grow hgw8) (Off.old hit hlt))
            have k1 : (0 : Int) ≤ (nn : Int) := by omega
            have k2 : (nn : Int) < (ts.length : Int) := by omega
            have k3 : nn < ts.length := by omega
            have eT := Lib.hid (show colT (tabs ts) 1 (nn : Int) x xs.l ag.l [a.xs, b.xs] = (t.xs, 0) from by
              simp only [colT, if_true]
              rw [if_neg (by simp; omega)]
              simp [tabs, htk])
            clear htk ct hit
            go_wp2
            go_quiet (fail)
            go_wp2
            go_quiet (fail)
            go_wp2
            refine bodyPost_ret (by simp [results, Try.results56, go_sem] <;> rfl) rfl ?_
            rw [eT.out]
            exact ⟨⟨_, rfl, fun _ => ⟨t.A, t.cap, rfl, hib.out.1, hib.out.2⟩⟩, bs8.out, (hgx8.drewN _).drewN _⟩
      · clear cq2 cty cag csd
        go_wp2_with (go_at_call 96; ((with_reducible refine (cq a _ (Grow.refl _) Ia.out.1 (by omega)).mono ?_); rintro e w9 ⟨rfl, hg9⟩))
        refine bodyPost_ret (by simp [results, Try.results56, go_sem] <;> rfl) rfl ?_
        rw [show colT (tabs ts) 2 n x xs.l ag.l [a.xs, b.xs] = (a.xs, condE a.xs x) from by simp [colT]]
        exact ⟨⟨_, rfl, fun _ => ⟨a.A, a.cap, rfl, Ia.out.1.grow hg9, Ia.out.2⟩⟩, bs8.out.grow hg9, hgx8.grow hg9⟩
      · clear cq cq2 cag csd
        go_wp2_with (go_at_call 97; ((with_reducible refine (cty _ (Grow.refl _)).mono ?_); rintro e w9 ⟨B, cap, rfl, hi, _, hnn, hg9⟩))
        refine bodyPost_ret (by simp [results, Try.results56, go_sem] <;> rfl) rfl ?_
        rw [show colT (tabs ts) 3 n x xs.l ag.l [a.xs, b.xs] = typesE a.xs xs.l from by simp [colT]]
        exact ⟨⟨_, rfl, fun _ => ⟨B, cap, rfl, hi, Off.new hnn (by have := G8.size; omega)⟩⟩, bs8.out.grow hg9, hgx8.grow hg9⟩
      · clear cq cty cag csd
        by_cases h8 : 8 < LR.length
        · have d8 : decide ((8 : Int) < (LR.length : Int)) = true := decide_eq_true (by omega)
          go_wp2
          refine bodyPost_ret (by simp [results, Try.results56, go_sem] <;> rfl) rfl ?_
          rw [show colT (tabs ts) 4 n x xs.l ag.l [a.xs, b.xs] = ([], 5) from by simp only [colT, List.getD_cons_zero, List.getD_cons_succ, HLR.out, h8]; simp]
          exact ⟨⟨_, rfl, fun h => by simp at h⟩, bs8.out, hgx8⟩
        · have d8 : decide ((8 : Int) < (LR.length : Int)) = false := decide_eq_false (by omega)
          go_wp2_with (go_at_call 96; ((with_reducible refine (cq2 _ (Grow.refl _) IL.out (by omega)).mono ?_); rintro e w9 ⟨rfl, hg9⟩; have bp := (Bp8.out.grow hg9).rules.1))
          refine bodyPost_ret (by simp [results, Try.results56, go_sem] <;> rfl) rfl ?_
          rw [show colT (tabs ts) 4 n x xs.l ag.l [a.xs, b.xs] = (LR, condE LR x) from by simp only [colT, List.getD_cons_zero, List.getD_cons_succ, HLR.out, h8]; simp]
          exact ⟨⟨_, rfl, fun _ => ⟨BL, capL, rfl, IL.out.grow hg9, Off.new hnL hg8⟩⟩, bs8.out.grow hg9, hgx8.grow hg9⟩
      · clear cq cty cag csd
        by_cases h8 : 8 < LR.length
        · have d8 : decide ((8 : Int) < (LR.length : Int)) = true := decide_eq_true (by omega)
          go_wp2
          refine bodyPost_ret (by simp [results, Try.results56, go_sem] <;> rfl) rfl ?_
          rw [show colT (tabs ts) 5 n x xs.l ag.l [a.xs, b.xs] = ([], 5) from by simp only [colT, List.getD_cons_zero, List.getD_cons_succ, HLR.out, h8]; simp]
          exact ⟨⟨_, rfl, fun h => by simp at h⟩, bs8.out, hgx8⟩
        · have d8 : decide ((8 : Int) < (LR.length : Int)) = false := decide_eq_false (by omega)
          go_wp2_with (go_at_call 96; ((with_reducible refine (cq2 _ (Grow.refl _) IL.out (by omega)).mono ?_); rintro e w9 ⟨rfl, hg9⟩; have bp := (Bp8.out.grow hg9).rules.1))
          refine bodyPost_ret (by simp [results, Try.results56, go_sem] <;> rfl) rfl ?_
          rw [show colT (tabs ts) 5 n x xs.l ag.l [a.xs, b.xs] = (a.xs, condE LR x) from by simp only [colT, List.getD_cons_zero, List.getD_cons_succ, HLR.out, h8]; simp]
          exact ⟨⟨_, rfl, fun _ => ⟨a.A, a.cap, rfl, Ia.out.1.grow hg9, Ia.out.2⟩⟩, bs8.out.grow hg9, hgx8.grow hg9⟩
      · clear cq cty cag csd
        by_cases h8 : 8 < LR.length
        · have d8 : decide ((8 : Int) < (LR.length : Int)) = true := decide_eq_true (by omega)
          go_wp2
          refine bodyPost_ret (by simp [results, Try.results56, go_sem] <;> rfl) rfl ?_
          rw [show colT (tabs ts) 6 n x xs.l ag.l [a.xs, b.xs] = ([], 5) from by simp only [colT, List.getD_cons_zero, List.getD_cons_succ, HLR.out, h8]; simp]
          exact ⟨⟨_, rfl, fun h => by simp at h⟩, bs8.out, hgx8⟩
        · have d8 : decide ((8 : Int) < (LR.length : Int)) = false := decide_eq_false (by omega)
          go_wp2_with (go_at_call 96; ((with_reducible refine (cq2 _ (Grow.refl _) IL.out (by omega)).mono ?_); rintro e w9 ⟨rfl, hg9⟩; have bp := (Bp8.out.grow hg9).rules.1))
          refine bodyPost_ret (by simp [results, Try.results56, go_sem] <;> rfl) rfl ?_
          rw [show colT (tabs ts) 6 n x xs.l ag.l [a.xs, b.xs] = (a.xs, condE LR x) from by simp only [colT, List.getD_cons_zero, List.getD_cons_succ, HLR.out, h8]; simp]
          exact ⟨⟨_, rfl, fun _ => ⟨a.A, a.cap, rfl, Ia.out.1.grow hg9, Ia.out.2⟩⟩, bs8.out.grow hg9, hgx8.grow hg9⟩
      · clear cq cty cag csd
        by_cases h8 : 8 < LR.length
        · have d8 : decide ((8 : Int) < (LR.length : Int)) = true := decide_eq_true (by omega)
          go_wp2
          refine bodyPost_ret (by simp [results, Try.results56, go_sem] <;> rfl) rfl ?_
          rw [show colT (tabs ts) 7 n x xs.l ag.l [a.xs, b.xs] = ([], 5) from by simp only [colT, List.getD_cons_zero, List.getD_cons_succ, HLR.out, h8]; simp]
          exact ⟨⟨_, rfl, fun h => by simp at h⟩, bs8.out, hgx8⟩
        · have d8 : decide ((8 : Int) < (LR.length : Int)) = false := decide_eq_false (by omega)
          go_wp2_with (go_at_call 96; ((with_reducible refine (cq2 _ (Grow.refl _) IL.out (by omega)).mono ?_); rintro e w9 ⟨rfl, hg9⟩; have bp := (Bp8.out.grow hg9).rules.1))
          refine bodyPost_ret (by simp [results, Try.results56, go_sem] <;> rfl) rfl ?_
          rw [show colT (tabs ts) 7 n x xs.l ag.l [a.xs, b.xs] = (LR, condE LR x) from by simp only [colT, List.getD_cons_zero, List.getD_cons_succ, HLR.out, h8]; simp]
          exact ⟨⟨_, rfl, fun _ => ⟨BL, capL, rfl, IL.out.grow hg9, Off.new hnL hg8⟩⟩, bs8.out.grow hg9, hgx8.grow hg9⟩
      · clear cq cq2 cty cag
        go_wp2_with (go_at_call 98; ((with_reducible refine (csd _ (Grow.refl _)).mono ?_); rintro e w9 ⟨B, cap, rfl, hi, hnn, hg9⟩))
        refine bodyPost_ret (by simp [results, Try.results56, go_sem] <;> rfl) rfl ?_
        rw [show colT (tabs ts) 8 n x xs.l ag.l [a.xs, b.xs] = sideE a.xs b.xs from by simp [colT]]
        exact ⟨⟨_, rfl, fun _ => ⟨B, cap, rfl, hi, Off.new hnn (by have := G8.size; omega)⟩⟩, bs8.out.grow hg9, hgx8.grow hg9⟩
      · clear cq cq2 cty cag
        go_wp2_with (go_at_call 98; ((with_reducible refine (csd _ (Grow.refl _)).mono ?_); rintro e w9 ⟨B, cap, rfl, hi, hnn, hg9⟩))
        refine bodyPost_ret (by simp [results, Try.results56, go_sem] <;> rfl) rfl ?_
        rw [show colT (tabs ts) 9 n x xs.l ag.l [a.xs, b.xs] = sideE a.xs b.xs from by simp [colT]]
        exact ⟨⟨_, rfl, fun _ => ⟨B, cap, rfl, hi, Off.new hnn (by have := G8.size; omega)⟩⟩, bs8.out.grow hg9, hgx8.grow hg9⟩
      · clear cq cq2 cty cag csd
        go_wp2
        refine bodyPost_ret (by simp [results, Try.results56, go_sem] <;> rfl) rfl ?_
        rw [show colT (tabs ts) 10 n x xs.l ag.l [a.xs, b.xs] = (a.xs, 0) from by simp [colT]]
        exact ⟨⟨_, rfl, fun _ => ⟨a.A, a.cap, rfl, Ia.out.1, Ia.out.2⟩⟩, bs8.out, hgx8⟩
      · clear cq cq2 cty cag csd
        go_wp2
        refine bodyPost_ret (by simp [results, Try.results56, go_sem] <;> rfl) rfl ?_
        rw [show colT (tabs ts) 11 n x xs.l ag.l [a.xs, b.xs] = (a.xs, 0) from by simp [colT]]
        exact ⟨⟨_, rfl, fun _ => ⟨a.A, a.cap, rfl, Ia.out.1, Ia.out.2⟩⟩, bs8.out, hgx8⟩
      · clear cq cq2 csd
        obtain ⟨TS, TE, hTE⟩ : ∃ TS TE, typesE a.xs xs.l = (TS, TE) := ⟨_, _, rfl⟩
        obtain ⟨AE, hAE⟩ : ∃ AE, aggE a.xs ag.l = AE := ⟨_, rfl⟩
        obtain ⟨AT, hAT⟩ : ∃ AT, (if AE = 0 then ag.l.map (agTy a.xs) else []) = AT := ⟨_, rfl⟩
        have fin : groupedE 12 n xs.l ag.l a.xs = if 8 < xs.l.length + ag.l.length then ([], 5) else if TE ≠ 0 then ([], TE) else (TS ++ AT, AE) := by
          rw [← hAT]; unfold groupedE; rw [hTE, hAE]; simp
        have tl := (typesE_len a.xs xs.l).1
        have alen : AT.length ≤ ag.l.length := by rw [← hAT]; split <;> simp
        rw [hTE] at cty tl
        unfold AggP at cag
        rw [hAE, hAT] at cag
        simp only at cty tl
        have Fin := Lib.hid fin
        have TL := Lib.hid tl
        have AL := Lib.hid alen
        have hl1 : xs.l.length ≤ 140737488355328 := hlens.1
        have hl2 : ag.l.length ≤ 140737488355328 := hlens.2
        clear hTE hAE hAT fin tl alen
        by_cases h8 : 8 < xs.l.length + ag.l.length
        · have d8 : decide ((8 : Int) < (xs.l.length : Int) + (ag.l.length : Int)) = true := decide_eq_true (by omega)
          go_wp2
          refine bodyPost_ret (by simp [results, Try.results56, go_sem] <;> rfl) rfl ?_
          rw [show colT (tabs ts) 12 n x xs.l ag.l [a.xs, b.xs] = ([], 5) from by simp only [colT]; simp [Fin.out, h8]]
          exact ⟨⟨_, rfl, fun h => by simp at h⟩, bs8.out, hgx8⟩
        · have d8 : decide ((8 : Int) < (xs.l.length : Int) + (ag.l.length : Int)) = false := decide_eq_false (by omega)
          by_cases h0 : TE = 0
          · subst h0
            go_upto_region 50 with (first
              | (go_at_call 97; ((with_reducible refine (cty _ (Grow.refl _)).mono ?_); rintro e w9 ⟨BT, capT, rfl, hiT, _, hnT, hg9⟩; have bp := (Bp8.out.grow hg9).rules.1; have IT := Lib.hid hiT; clear hiT))
              | (go_at_call 99; ((with_reducible refine (cag _ hg9 (by omega)).mono ?_); rintro e wa ⟨BA, capA, rfl, hiA, hnA, hga⟩; have IA := Lib.hid hiA; clear hiA)))
            have OE := Lib.hid (own_emptyN wa)
            have Sa := Lib.hid (srcN_of (c := capT) ((IT.out.grow hga).grow ((Grow.refl wa).al (.cells #[] 3))))
            have at8 : AT.length ≤ 8 := by have := AL.out; omega
            have ts8 : TS.length ≤ 8 := TL.out
            go_wp2_with (first
              | (at_builtin; refine wpList_append_srcN rfl _ _ rfl wa.heap.size _ _ _ rfl Owb.out _ AT rfl (srcN_of (c := capA) (IA.out.grow Gb)) (by omega) (by have := Gb.size; omega) ?_; intro vc wc ownc grc; have Gc : Grow wa wc := Grow.own Gb grc (fun i hi => (Nat.lt_or_ge i wa.heap.size).elim (fun h => absurd hi.symm (own_ge Owb.out h)) id); obtain ⟨BC, capC, rfl⟩ := own_slice ownc; have Owc := Lib.hid ownc; clear ownc grc)
              | (at_builtin; refine wpList_append_srcN rfl _ _ rfl wa.heap.size _ _ _ rfl OE.out _ TS rfl Sa.out (by omega) (by simp) ?_; intro vb wb ownb grb; have Gb : Grow wa wb := Grow.own ((Grow.refl wa).al _) grb (fun i hi => (Nat.lt_or_ge i wa.heap.size).elim (fun h => absurd hi.symm (own_ge OE.out h)) id); have Owb := Lib.hid ownb; clear ownb grb))
            refine bodyPost_ret (by simp [results, Try.results56, go_sem] <;> rfl) rfl ?_
            rw [show colT (tabs ts) 12 n x xs.l ag.l [a.xs, b.xs] = (TS ++ AT, AE) from by simp only [colT]; simp [Fin.out, h8]]
            have GG := hg9.trans (hga.trans Gc)
            refine ⟨⟨_, rfl, fun _ => ⟨BC, capC, by simp, own_isl2 (ys := TS ++ AT) (by simpa [← flatN_app] using Owc.out) (by simp), Off.new (w := wa) (own_new Owc.out) ?_⟩⟩, bs8.out.grow GG, hgx8.grow GG⟩
            have := (hg9.trans hga).size
            have := G8.size
            omega
          · have d0 : (TE != 0) = true := by simpa using h0
            go_wp2_with (go_at_call 97; ((with_reducible refine (cty _ (Grow.refl _)).mono ?_); rintro e w9 ⟨BT, capT, rfl, hiT, _, hnT, hg9⟩; have bp := (Bp8.out.grow hg9).rules.1; have IT := Lib.hid hiT; clear hiT))
            refine bodyPost_ret (by simp [results, Try.results56, go_sem] <;> rfl) rfl ?_
            rw [show colT (tabs ts) 12 n x xs.l ag.l [a.xs, b.xs] = ([], TE) from by simp only [colT]; simp [Fin.out, h8, h0]]
            exact ⟨⟨_, rfl, fun h => absurd h h0⟩, bs8.out.grow hg9, hgx8.grow hg9⟩
      · clear cq cq2 csd cag
        obtain ⟨TS, TE, hTE⟩ : ∃ TS TE, typesE a.xs xs.l = (TS, TE) := ⟨_, _, rfl⟩
        have fin : groupedE 13 n xs.l ag.l a.xs = if TE ≠ 0 then ([], TE) else (if n < 0 ∨ 50 < n then ([], 3) else (a.xs, 0)) := by
          unfold groupedE; rw [hTE]; simp
        rw [hTE] at cty
        simp only at cty
        have Fin := Lib.hid fin
        clear hTE fin
        by_cases h0 : TE = 0
        · subst h0
          by_cases n0 : n < 0
          · have dn : decide (n < 0) = true := decide_eq_true n0
            go_wp2_with (go_at_call 97; ((with_reducible refine (cty _ (Grow.refl _)).mono ?_); rintro e w9 ⟨BT, capT, rfl, hiT, _, hnT, hg9⟩; have bp := (Bp8.out.grow hg9).rules.1; have IT := Lib.hid hiT; clear hiT))
            refine bodyPost_ret (by simp [results, Try.results56, go_sem] <;> rfl) rfl ?_
            rw [show colT (tabs ts) 13 n x xs.l ag.l [a.xs, b.xs] = ([], 3) from by simp only [colT]; simp [Fin.out, n0]]
            exact ⟨⟨_, rfl, fun h => by simp at h⟩, bs8.out.grow hg9, hgx8.grow hg9⟩
          · have dn : decide (n < 0) = false := decide_eq_false n0
            by_cases n5 : 50 < n
            · have dn5 : decide (50 < n) = true := decide_eq_true n5
              go_wp2_with (go_at_call 97; ((with_reducible refine (cty _ (Grow.refl _)).mono ?_); rintro e w9 ⟨BT, capT, rfl, hiT, _, hnT, hg9⟩; have bp := (Bp8.out.grow hg9).rules.1; have IT := Lib.hid hiT; clear hiT))
              refine bodyPost_ret (by simp [results, Try.results56, go_sem] <;> rfl) rfl ?_
              rw [show colT (tabs ts) 13 n x xs.l ag.l [a.xs, b.xs] = ([], 3) from by simp only [colT]; simp [Fin.out, n5]]
              exact ⟨⟨_, rfl, fun h => by simp at h⟩, bs8.out.grow hg9, hgx8.grow hg9⟩
            · have dn5 : decide (50 < n) = false := decide_eq_false n5
              go_wp2_with (go_at_call 97; ((with_reducible refine (cty _ (Grow.refl _)).mono ?_); rintro e w9 ⟨BT, capT, rfl, hiT, _, hnT, hg9⟩; have bp := (Bp8.out.grow hg9).rules.1; have IT := Lib.hid hiT; clear hiT))
              refine bodyPost_ret (by simp [results, Try.results56, go_sem] <;> rfl) rfl ?_
              rw [show colT (tabs ts) 13 n x xs.l ag.l [a.xs, b.xs] = (a.xs, 0) from by simp only [colT]; simp [Fin.out, n0, n5]]
              exact ⟨⟨_, rfl, fun _ => ⟨a.A, a.cap, rfl, Ia.out.1.grow hg9, Ia.out.2⟩⟩, bs8.out.grow hg9, hgx8.grow hg9⟩
        · have d0 : (TE != 0) = true := by simpa using h0
          go_wp2_with (go_at_call 97; ((with_reducible refine (cty _ (Grow.refl _)).mono ?_); rintro e w9 ⟨BT, capT, rfl, hiT, _, hnT, hg9⟩; have bp := (Bp8.out.grow hg9).rules.1; have IT := Lib.hid hiT; clear hiT))
          refine bodyPost_ret (by simp [results, Try.results56, go_sem] <;> rfl) rfl ?_
          rw [show colT (tabs ts) 13 n x xs.l ag.l [a.xs, b.xs] = ([], TE) from by simp only [colT]; simp [Fin.out, h0]]
          exact ⟨⟨_, rfl, fun h => absurd h h0⟩, bs8.out.grow hg9, hgx8.grow hg9⟩
end Go.Proofs.Ytpgpecdiajmgmaa

namespace Go.Proofs.Ytpgpecdiajmgmaa
open Go.RowKit Go.Calm
set_option linter.unusedSimpArgs false
set_option linter.unusedVariables false

theorem rlookcols_any (ts : List (L2 Int)) (At : Option Addr) (nt : Nat) (ht8 : ∀ t ∈ tabs ts, t.length ≤ 8) (hnt : ts.length ≤ 8) (p : PL) : RColC ts At nt p := by
  induction p with
  | leaf =>
    intro g deep m w0 w hE hts hg0 hlt hb h0 h1 hd0 hd1
    unfold colP
    by_cases hm : 60 < m + 1 ∨ 15 < deep
    · rw [if_pos hm]; exact rcol_much ts At nt .leaf g deep m w hb h0 h1 hm
    · rw [if_neg hm]
      exact rcol_form ts At nt .leaf g deep m w hb (Nat.zero_le _) h0 (by simp; omega) (by simp; omega) (.inl (by decide))
  | mk k n x xs ag A mm cap kid ih =>
    intro g deep m w0 w hE hts hg0 hlt hb h0 h1 hd0 hd1
    have hm9 : mm ≤ reachN := by cases hE with | mk hm => exact hm
    by_cases hm : 60 < m + 1 ∨ 15 < deep
    · unfold colP
      rw [if_pos hm]; exact rcol_much ts At nt (.mk k n x xs ag A mm cap kid) g deep m w hb h0 h1 hm
    · have d1 : decide (60 < m + 1) = false := by simp; omega
      have d2 : decide (15 < deep) = false := by simp; omega
      by_cases hf : kidsP k < 0 ∨ ¬ kidsP k < 0 ∧ (mm : Int) ≠ kidsP k
      · have e : colP (tabs ts) (.mk k n x xs ag A mm cap kid) deep m = ([], if kidsP k < 0 then 1 else 5, m + 1) := by
          unfold colP
          rw [if_neg hm]
          rcases hf with hf | ⟨hf, hf2⟩
          · rw [if_pos hf, if_pos hf]
          · rw [if_neg hf, if_pos hf2, if_neg hf]
        rw [e]
        exact rcol_form ts At nt (.mk k n x xs ag A mm cap kid) g deep m w hb hm9 h0 d1 d2 hf
      · have hk0 : ¬ kidsP k < 0 := fun h => hf (.inl h)
        have hnk : (mm : Int) = kidsP k := Classical.byContradiction fun h => hf (.inr ⟨hk0, h⟩)
        rw [colP_kids (tabs ts) k n x xs ag A mm cap kid deep m hm (by omega) hnk]
        obtain ⟨C, ER, M, hT⟩ : ∃ C ER M, colOf (tabs ts) k n x xs.l ag.l (kidsGo (fun i m' => colP (tabs ts) (kid i) (deep + 1) m') mm 0 (m + 1) []) = (C, ER, M) := ⟨_, _, _, rfl⟩
        rw [hT]
        exact rcol_kids ts At nt ht8 hnt k n x xs ag A mm cap kid ih g deep m w0 w hE hts hg0 hlt hb h0 d1 d2 hd0 (by omega) hnk C ER M hT
def ColX (w w' : World) (en : Ending) (r : List Int × Int) : Prop := ∃ (B : Option Addr) (cap : Nat), en = .returned (.tuple #[.slice B r.1.length cap, .int .i64 r.2]) ∧ ISl w' B r.1 ∧ Grow w w'
theorem ColX.bad {w w' : World} {e : Int} (hg : Grow w w') : ColX w w' (.returned (.tuple #[.slice none 0 0, .int .i64 e])) ([], e) := ⟨none, 0, rfl, isl_nil _ _, hg⟩
set_option maxRecDepth 100000 in
set_option maxHeartbeats 8000000 in
theorem rtypes5_any (ts : List (L2 Int)) (At : Option Addr) (nt : Nat) (p : PL) (w : World) (hlt : ts.length ≤ reachN) (hl : ∀ t ∈ ts, t.xs.length ≤ reachN) (hts : TSl w At ts) (hp : PX w p) :
    Calls Try.prog 27 #[.slice At ts.length nt, p.val] w fun en w' => ColX w w' en (colsE (tabs ts) p) := by
  have Hts := Lib.hid hts
  have HP := Lib.hid hp
  have HL := Lib.hid hl
  have hlt' : ts.length ≤ 140737488355328 := hlt
  have tl : (tabs ts).length = ts.length := by simp
  obtain ⟨R, hR⟩ : ∃ R, colsE (tabs ts) p = R := ⟨_, rfl⟩
  rw [hR]
  have fin : R = if 8 < ts.length then ([], 5) else if tabE (tabs ts) ≠ 0 then ([], tabE (tabs ts)) else if (colP (tabs ts) p 1 0).2.1 ≠ 0 then ([], (colP (tabs ts) p 1 0).2.1) else ((colP (tabs ts) p 1 0).1, 0) := by rw [← hR]; unfold colsE; rw [tl]
  have Fin := Lib.hid fin
  clear hts hp hR hl hlt fin tl
  unfold PL.val
  go_enter Try.func27, Try.ntmps27
  by_cases h8 : 8 < ts.length
  · have d8 : decide ((8 : Int) < (ts.length : Int)) = true := decide_eq_true (by omega)
    have e : R = ([], 5) := by rw [Fin.out, if_pos h8]
    subst e
    go_wp2
    refine bodyPost_ret (by simp [results, Try.results27, go_sem] <;> rfl) rfl ?_
    exact ColX.bad (by repeat (first | (with_reducible exact Grow.refl _) | (with_reducible assumption) | (with_reducible refine Grow.set ?_ (by first | (simp; done) | (simp; omega)) _) | (with_reducible refine Grow.al ?_ _) | (with_reducible refine Grow.drew ?_) | (with_reducible refine Grow.drewN ?_ _) | (with_reducible refine Grow.trans ?_ (by assumption))))
  · have d8 : decide ((8 : Int) < (ts.length : Int)) = false := decide_eq_false (by omega)
    have e := Fin.out
    rw [if_neg h8] at e
    have Fin2 := Lib.hid e
    clear e Fin
    go_wp2
    refine wp_forget (fun W => Blk W w.heap.size 31 #[.int .i64 p.k, .int .i64 p.n, .int .i64 p.x.kind, .int .i64 p.x.v.k, .int .i64 p.x.v.n, .string p.x.v.s, .int .i64 p.x.col, .slice p.x.A p.x.n p.x.cap, .slice p.xs.A p.xs.l.length p.xs.c, .slice p.ag.A p.ag.l.length p.ag.c, .slice p.A p.m p.cap] ∧ Grow w W) ⟨Blk.new _ _ _, (by repeat (first | (with_reducible exact Grow.refl _) | (with_reducible assumption) | (with_reducible refine Grow.set ?_ (by first | (simp; done) | (simp; omega)) _) | (with_reducible refine Grow.al ?_ _) | (with_reducible refine Grow.drew ?_) | (with_reducible refine Grow.drewN ?_ _) | (with_reducible refine Grow.trans ?_ (by assumption))))⟩ ?_
    rintro W ⟨Bp, G⟩
    have BP := Lib.hid Bp
    clear Bp
    go_loopw [17] (fun i wr => ∃ k : Nat, k ≤ ts.length ∧ i = .int .i64 k ∧ tabE (tabs ts) = tabE ((tabs ts).drop k) ∧ wr = W) (fun i _ => ts.length - (intOf i).toNat)
    case atStart => exact ⟨0, Nat.zero_le _, rfl, rfl, rfl⟩
    case round =>
      obtain ⟨k, hk, rfl, htE, rfl⟩ := hrel
      rename World => W
      have TE := Lib.hid htE
      clear htE
      by_cases hltk : k < ts.length
      · obtain ⟨t, htk⟩ : ∃ t, ts[k]? = some t := ⟨_, List.getElem?_eq_getElem hltk⟩
        obtain ⟨gt, ot, rfl, ct, hit⟩ := (Hts.out.grow G) k t htk
        have hat := tabE_at (ts := tabs ts) (k := k) (t := t.xs) (by simp [htk])
        have htl : t.xs.length ≤ 140737488355328 := HL.out t (List.mem_of_getElem? htk)
        have At := Lib.hid (TE.out.trans hat)
        have Hit := Lib.hid hit
        clear htk hat hit TE
        by_cases ht8 : 8 < t.xs.length
        · have dt : decide ((8 : Int) < (t.xs.length : Int)) = true := decide_eq_true (by omega)
          have e : R = ([], 5) := by rw [Fin2.out, At.out, if_pos ht8]; simp
          subst e
          go_wp2
          refine bodyPost_ret (by simp [results, Try.results27, go_sem] <;> rfl) rfl ?_
          exact ColX.bad G
        · have dt : decide ((8 : Int) < (t.xs.length : Int)) = false := decide_eq_false (by omega)
          go_wp2
          go_loopw [26] (fun i wr => ∃ j : Nat, j ≤ t.xs.length ∧ i = .int .i64 j ∧ (t.xs.take j).all colB = true ∧ wr = W) (fun i _ => t.xs.length - (intOf i).toNat)
          case atStart => exact ⟨0, Nat.zero_le _, rfl, rfl, rfl⟩
          case round =>
            obtain ⟨j, hj, rfl, hall, rfl⟩ := hrel
            rename World => W
            have Hall := Lib.hid hall
            clear hall
            by_cases hltj : j < t.xs.length
            · obtain ⟨y, hyj⟩ : ∃ y, t.xs[j]? = some y := ⟨_, List.getElem?_eq_getElem hltj⟩
              obtain ⟨gy, oy, eA, cy⟩ := Hit.out j y hyj
              have Hyj := Lib.hid hyj
              obtain ⟨tA, txs, tc⟩ := t
              simp only at *
              subst eA
              clear hyj
              cases hr : colB y
              · have e : R = ([], 1) := by rw [Fin2.out, At.out, if_neg ht8, if_pos (all_fails colB txs j y Hyj.out hr)]; simp
                subst e
                rcases colB_no hr with d2 | ⟨d2, d3⟩
                · go_wp2
                  refine bodyPost_ret (by simp [results, Try.results27, go_sem] <;> rfl) rfl ?_
                  exact ColX.bad G
                · go_wp2
                  refine bodyPost_ret (by simp [results, Try.results27, go_sem] <;> rfl) rfl ?_
                  exact ColX.bad G
              · have Hr := Lib.hid (all_take colB txs j y Hyj.out Hall.out hr)
                obtain ⟨d2, d3⟩ := colB_ok hr
                go_wp2
                go_roundw
                case rel => exact ⟨j + 1, by omega, by go_num, Hr.out, trivial⟩
                case measure => simp [intOf]; omega
            · have hall : t.xs.all colB = true := by
                have := Hall.out
                rwa [List.take_of_length_le (by omega)] at this
              have e := At.out
              rw [if_neg ht8, if_neg (by simp [hall])] at e
              have E := Lib.hid e
              clear e hall
              go_wp2
              go_roundw
              case rel => exact ⟨k + 1, by omega, by go_num, E.out, trivial⟩
              case measure => simp [intOf]; omega
      · obtain rfl : k = ts.length := by omega
        have e0 : tabE (tabs ts) = 0 := by rw [TE.out, List.drop_eq_nil_of_le (by simp)]; rfl
        have h8' := fun t ht => (tabE_zero e0 t ht).1
        have e := Fin2.out
        rw [e0, if_neg (by simp)] at e
        obtain ⟨q1, q2, q3, hq⟩ : ∃ q1 q2 q3, colP (tabs ts) p 1 0 = (q1, q2, q3) := ⟨_, _, _, rfl⟩
        have hln := colP_len h8' p 1 0
        have B := BP.out
        have ct := fun W' (h1 : Grow W W') hb => rlookcols_any ts At nt h8' (by omega) p W.heap.size 1 0 W W' (HP.out.grow G) (Hts.out.grow G) h1 (Nat.le_refl _) hb (by omega) (by omega) (by omega) (by omega)
        rw [hq] at ct e hln
        simp only at ct e hln
        unfold PL.val at ct
        have Gs := G.size
        have CT := Lib.hid ct
        have lB := B.lt
        obtain ⟨bp, fp⟩ := B.rules
        clear ct hq e0 h8' B TE Fin2
        by_cases h2 : q2 = 0
        · subst h2
          have e : R = (q1, 0) := by rw [e]; simp
          subst e
          go_wp2_with (go_at_call 56; ((refine (CT.out _ ((Grow.refl _).al _) (Blk.new _ _ _)).mono ?_); rintro en w2 ⟨⟨v2, rfl, hv2⟩, hb2, hg2⟩; obtain ⟨B2, cap2, rfl, hi2, hn2⟩ := hv2 rfl; have I2 := Lib.hid hi2; clear hi2 hn2 hb2; have G2 := GX.base (G.al _) Gs hg2))
          refine bodyPost_ret (by simp [results, Try.results27, go_sem] <;> rfl) rfl ?_
          exact ⟨B2, cap2, rfl, I2.out, G2⟩
        · have dq : (q2 != 0) = true := by simpa using h2
          have e : R = ([], q2) := by rw [e, if_pos h2]
          subst e
          go_wp2_with (go_at_call 56; ((refine (CT.out _ ((Grow.refl _).al _) (Blk.new _ _ _)).mono ?_); rintro en w2 ⟨⟨v2, rfl, hv2⟩, hb2, hg2⟩; have G2 := GX.base (G.al _) Gs hg2))
          refine bodyPost_ret (by simp [results, Try.results27, go_sem] <;> rfl) rfl ?_
          exact ColX.bad G2
end Go.Proofs.Ytpgpecdiajmgmaa
