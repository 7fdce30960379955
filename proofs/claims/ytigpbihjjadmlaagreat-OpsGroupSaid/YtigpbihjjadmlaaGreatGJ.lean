/-
  Joined texts of this claim: Zs7, Zs11, Zs12, Zs13, Zs14, Zs16, Zs15, Zs20. What each proves its own head says; no condition beside those that each theorem names.
-/
import Derived.Test.YtigpbihjjadmlaaGreatGH
import Derived.Deep.DeepCutAuto
import Derived.Laws.AppendOwnNone
import Derived.Test.YtigpbihjjadmlaaGreatGI
import Derived.Lib.AppendZeros
namespace Go.Proofs.YtigpbihjjadmlaaGreat
open Go.RowKit Go.Calm
set_option linter.unusedSimpArgs false
set_option linter.unusedVariables false

set_option maxRecDepth 100000 in
theorem big_any (n : Int) (w : World) : Calls Tryz.prog 61 #[.int .i64 n] w fun e w' => e = .returned (.bool (bigW n)) ∧ w = w' := by
  go_enter Tryz.func61, Tryz.ntmps61
  by_cases h1 : n < -1000000
  · have d1 : decide (n < -1000000) = true := decide_eq_true h1
    go_wp2
    go_ret
    refine ret_bool ?_ rfl
    simp [bigW, d1]
  · have d1 : decide (n < -1000000) = false := decide_eq_false h1
    by_cases h2 : 1000000 < n
    · have d2 : decide (1000000 < n) = true := decide_eq_true h2
      go_wp2
      go_ret
      refine ret_bool ?_ rfl
      simp [bigW, d2]
    · have d2 : decide (1000000 < n) = false := decide_eq_false h2
      go_wp2
      go_ret
      refine ret_bool ?_ rfl
      simp [bigW, d1, d2]

set_option maxRecDepth 100000 in
set_option maxHeartbeats 2000000 in
theorem rrow_any (row : List V) (A : Option Addr) (c : Nat) (w : World) (hlen : row.length ≤ 9223372036854775807) (hx : VSl w A row) (R : Int) (hR : rowE row = R) :
    Calls Tryz.prog 92 #[.slice A row.length c] w fun en w' => en = .returned (.int .i64 R) ∧ Grow w w' := by
  have HR := Lib.hid hR
  have Hx := Lib.hid hx
  clear hx hR
  go_enter Tryz.func92, Tryz.ntmps92
  by_cases h8 : 8 < row.length
  · have d8 : decide ((8 : Int) < (row.length : Int)) = true := by simp; omega
    go_wp2
    go_ret
    exact ret_int (by rw [← HR.out]; unfold rowE; rw [if_pos h8]) (Grow.refl _)
  · have d8 : decide ((8 : Int) < (row.length : Int)) = false := by simp; omega
    have inv0 : firstE (row.drop 0) = R := by rw [← HR.out]; unfold rowE; rw [if_neg h8, List.drop_zero]
    have Inv0 := Lib.hid inv0
    clear inv0
    go_wp2
    go_loopw [11] (fun i wr => ∃ k : Nat, k ≤ row.length ∧ i = .int .i64 k ∧ firstE (row.drop k) = R ∧ Grow w wr) (fun i _ => row.length - (intOf i).toNat)
    case atStart => exact ⟨0, Nat.zero_le _, rfl, Inv0.out, Grow.refl _⟩
    case round =>
      obtain ⟨k, hk, rfl, hinv, hg⟩ := hrel
      have Inv := Lib.hid hinv
      clear hinv
      by_cases hlt : k < row.length
      · obtain ⟨x, hxk⟩ : ∃ x, row[k]? = some x := ⟨_, List.getElem?_eq_getElem hlt⟩
        obtain ⟨gx, ox, rfl, c1, c2, c3⟩ := (Hx.out.grow hg) k x hxk
        have inv2 := (firstE_at hxk).symm.trans Inv.out
        have Inv2 := Lib.hid inv2
        clear inv2 hxk
        by_cases hw : wrongV x = 0
        · have dw : (wrongV x != 0) = false := by simpa using hw
          go_wp2_with (go_at_call 93; ((with_reducible refine (rwrong_any x _).mono ?_); rintro e w2 ⟨rfl, hg2⟩; have G2 := (hg.al _).trans hg2))
          go_roundw
          case rel => exact ⟨k + 1, by omega, by go_num, by have := Inv2.out; rw [if_neg (by simpa using hw)] at this; exact this, G2⟩
          case measure => simp [intOf]; omega
        · have dw : (wrongV x != 0) = true := by simpa using hw
          go_wp2_with (go_at_call 93; ((with_reducible refine (rwrong_any x _).mono ?_); rintro e w2 ⟨rfl, hg2⟩; have G2 := (hg.al _).trans hg2))
          go_ret
          exact ret_int (by have := Inv2.out; rw [if_pos hw] at this; exact this) G2
      · obtain rfl : k = row.length := by omega
        have fin : R = 0 := by have := Inv.out; rw [List.drop_length] at this; exact this.symm
        go_wp2
        go_ret
        exact ret_int fin.symm hg

theorem badP_ord {y r : List V} (hy : ∀ v ∈ y, RV v) (hr : ∀ v ∈ r, RV v) : decide (0 ≤ rowsG cmpV y r) = (rowsG ordV y r != -1) := by
  rw [rows_cmp_ord _ _ hy hr]
  rcases rowsG_range ordV ordV_range y r with h | h | h <;> rw [h] <;> decide
set_option maxRecDepth 100000 in
set_option maxHeartbeats 8000000 in
theorem rwrongz_any (xs : List I) (A : Option Addr) (c : Nat) (w : World) (hlen : xs.length ≤ 9223372036854775807) (hz : ZIn w A xs) (hl : ∀ x ∈ xs, x.row.length ≤ 9223372036854775807) (R : Int) (hR : wrongZ (xs.map zOf) = R) :
    Calls Tryz.prog 47 #[.slice A xs.length c] w fun en w' => en = .returned (.int .i64 R) ∧ Grow w w' := by
  have HR := Lib.hid hR
  have Hz := Lib.hid hz
  have Hl := Lib.hid hl
  clear hz hR hl
  go_enter Tryz.func47, Tryz.ntmps47
  by_cases h8 : 400 < xs.length
  · have d8 : decide ((400 : Int) < (xs.length : Int)) = true := by simp; omega
    go_wp2
    go_ret
    exact ret_int (by rw [← HR.out]; unfold wrongZ; rw [if_pos (by simpa using h8)]) (Grow.refl _)
  · have d8 : decide ((400 : Int) < (xs.length : Int)) = false := by simp; omega
    have inv0 : wgo (prevR xs 0) ((xs.drop 0).map zOf) = R := by rw [← HR.out]; unfold wrongZ; rw [if_neg (by simpa using h8), List.drop_zero]; rfl
    have Inv0 := Lib.hid inv0
    clear inv0
    go_wp2
    go_loopw [10] (fun i wr => ∃ k : Nat, k ≤ xs.length ∧ i = .int .i64 k ∧ wgo (prevR xs k) ((xs.drop k).map zOf) = R ∧ (∀ y, prevR xs k = some y → ∀ v ∈ y, RV v) ∧ Grow w wr) (fun i _ => xs.length - (intOf i).toNat)
    case atStart => exact ⟨0, Nat.zero_le _, rfl, Inv0.out, fun y hy => by simp [prevR] at hy, Grow.refl _⟩
    case round =>
      obtain ⟨k, hk, rfl, hinv, hpr, hg⟩ := hrel
      have Inv := Lib.hid hinv
      have Hpr := Lib.hid hpr
      clear hinv hpr
      by_cases hlt : k < xs.length
      · obtain ⟨x, hxk⟩ : ∃ x, xs[k]? = some x := ⟨_, List.getElem?_eq_getElem hlt⟩
        obtain ⟨gx, ox, rfl, c1, c2, hxv⟩ := (Hz.out.grow hg) k x hxk
        have hlx := Hl.out x (List.mem_of_getElem? hxk)
        have inv2 := (wgo_at hxk).symm.trans Inv.out
        have Hxk := Lib.hid hxk
        have Hxv := Lib.hid hxv
        have cb := fun W (h : Grow wr W) (R : Int) (hR : rowE x.row = R) => rrow_any x.row x.A x.cap W hlx (Hxv.out.grow h) R hR
        obtain ⟨rx, hrx⟩ : ∃ r, rowE x.row = r := ⟨_, rfl⟩
        have hnx : prevR xs (k + 1) = some x.row := by unfold prevR; rw [if_neg (by omega), Nat.add_sub_cancel, hxk]; rfl
        have Hnx := Lib.hid hnx
        rw [hrx] at inv2
        have Inv2 := Lib.hid inv2
        clear inv2 hxk hxv hnx
        by_cases hw : rx = 0
        · have dw : (rx != 0) = false := by simpa using hw
          rw [if_neg (by simpa using hw)] at Inv2
          have hrv := ((rowE_zero x.row).1 (hrx.trans hw)).2
          have Hrv := Lib.hid hrv
          clear hrv
          go_upto_region 9 with (go_at_call 92; ((with_reducible refine (cb _ (Grow.refl _) rx hrx).mono ?_); rintro e w2 ⟨rfl, G2⟩))
          have C1 := Lib.hid (G2.cell c1)
          have c2' := G2.cell c2
          by_cases h0 : x.w = 0
          · have d0 : (x.w == 0) = true := by simpa using h0
            go_wp2
            go_ret
            exact ret_int (by have := Inv2.out; rw [if_pos (.inl h0)] at this; exact this) (hg.trans G2)
          · have d0 : (x.w == 0) = false := by simpa using h0
            by_cases h1 : bigW x.w = true
            · go_wp2_with (go_at_call 61; ((with_reducible refine (big_any _ _).mono ?_); rintro e w3 ⟨rfl, rfl⟩; rw [h1]))
              go_ret
              exact ret_int (by have := Inv2.out; rw [if_pos (.inr h1)] at this; exact this) (hg.trans G2)
            · have h1' : bigW x.w = false := by simpa using h1
              have inv3 := Inv2.out
              rw [if_neg (by simp [h0, h1'])] at inv3
              have Inv3 := Lib.hid inv3
              clear inv3 Inv2
              go_upto_region 11 with (go_at_call 61; ((with_reducible refine (big_any _ _).mono ?_); rintro e w3 ⟨rfl, rfl⟩; rw [h1']))
              cases k with
              | zero =>
                have e : R = wgo (prevR xs 1) ((xs.drop 1).map zOf) := by have := Inv3.out; simpa [prevR, badP] using this.symm
                have E := Lib.hid e
                clear e
                apply wp_region_calm 17 (by kernel_rfl) (by kernel_rfl)
                case h' =>
                  intro Q0 hQ0
                  simp only [List.take_succ_cons, List.take_zero]
                  repeat (
                    first
                      | (apply calm_p rfl; case h1 => (intro w1 hw1 hF K hK; go_simp; first | exact hK _ (Grow.refl _) | fail))
                      | (apply calm_y rfl rfl rfl; case h1 => (intro w1 hw1 hF K hK; go_simp; first | exact hK _ (Grow.refl _) | fail))
                      | apply calm_n rfl rfl rfl rfl
                    intro K hK
                    go_simp
                    apply hK
                    clear hK K)
                  refine calm_nil ?_
                  intro w1 hw1 hF
                  apply hQ0
                  clear hQ0
                  simp only [List.drop_succ_cons, List.drop_zero]
                  clear hF
                  go_wp2
                  go_roundw
                  case rel => exact ⟨1, by omega, rfl, E.out.symm, fun y hy => by rw [Hnx.out] at hy; cases hy; exact Hrv.out, hg.trans (G2.trans hw1)⟩
                  case measure => simp [intOf]; omega
                case hp' => trivial
              | succ j =>
                obtain ⟨y, hyk⟩ : ∃ y, xs[j]? = some y := ⟨_, List.getElem?_eq_getElem (by omega)⟩
                obtain ⟨gy, oy, ey, cy1, cy2, hyv⟩ := (Hz.out.grow hg) j y hyk
                cases ey
                have hly := Hl.out y (List.mem_of_getElem? hyk)
                obtain ⟨cr, hcr⟩ : ∃ r, rowsG ordV y.row x.row = r := ⟨_, rfl⟩
                have cc := fun W (h : Grow wr W) => rrows_any y.row x.row y.A x.A y.cap x.cap W hly hlx (hyv.grow h) (Hxv.out.grow h)
                rw [hcr] at cc
                have inv4 := Inv3.out
                have hpy : prevR xs (j + 1) = some y.row := by unfold prevR; rw [if_neg (by omega), Nat.add_sub_cancel, hyk]; rfl
                rw [show badP (prevR xs (j + 1)) x.row = (cr != -1) by rw [hpy, ← hcr]; exact badP_ord (Hpr.out _ hpy) Hrv.out] at inv4
                have Inv4 := Lib.hid inv4
                have Hy := Lib.hid (show wr.cell? ⟨gx, ox + j * 2, none⟩ = some (.slice y.A y.row.length y.cap) from cy1)
                have dj : decide ((0 : Int) < (j : Int) + 1) = true := decide_eq_true (by omega)
                have p0 : (0 : Int) ≤ (j : Int) + 1 := by omega
                have e0 : ((j : Int) + 1).toNat = j + 1 := by omega
                have jz : (j : Int) + 1 < (xs.length : Int) := by omega
                have hwp : IntKind.i64.wrap (j : Int) = (j : Int) := by rw [IntKind.wrap_i64]; omega
                have jz1 : (j : Int) < (xs.length : Int) := by omega
                have jz3 : j < xs.length := by omega
                clear inv4 Inv3 hyk cy1 cy2 hyv hcr c1 c2 hpy
                apply wp_region_calm 17 (by kernel_rfl) (by kernel_rfl)
                case h' =>
                  intro Q0 hQ0
                  simp only [List.take_succ_cons, List.take_zero]
                  repeat (
                    first
                      | (apply calm_p rfl; case h1 => (intro w1 hw1 hF K hK; have cx1 := hw1.cell C1.out; have cy1 := (G2.trans hw1).cell Hy.out; go_simp; first | exact hK _ (Grow.refl _) | (go_at_call 23; ((with_reducible refine (cc _ (G2.trans hw1)).mono ?_); rintro e w' ⟨rfl, hg⟩; exact ⟨_, rfl, hK _ hg⟩))))
                      | (apply calm_y rfl rfl rfl; case h1 => (intro w1 hw1 hF K hK; have cx1 := hw1.cell C1.out; have cy1 := (G2.trans hw1).cell Hy.out; go_simp; first | exact hK _ (Grow.refl _) | (go_at_call 23; ((with_reducible refine (cc _ (G2.trans hw1)).mono ?_); rintro e w' ⟨rfl, hg⟩; exact ⟨_, rfl, hK _ hg⟩))))
                      | apply calm_n rfl rfl rfl rfl
                    intro K hK
                    go_simp
                    apply hK
                    clear hK K)
                  refine calm_nil ?_
                  intro w1 hw1 hF
                  apply hQ0
                  clear hQ0
                  simp only [List.drop_succ_cons, List.drop_zero]
                  clear hF
                  by_cases hc : cr = -1
                  · have dc : (cr != -1) = false := by simpa using hc
                    simp only [dc]
                    go_wp2
                    go_roundw
                    case rel => exact ⟨j + 2, by omega, by go_num, by have := Inv4.out; rw [if_neg (by simp [dc])] at this; exact this, fun y hy => by rw [Hnx.out] at hy; cases hy; exact Hrv.out, hg.trans (G2.trans hw1)⟩
                    case measure => simp [intOf]; omega
                  · have dc : (cr != -1) = true := by simpa using hc
                    simp only [dc]
                    go_wp2
                    go_ret
                    exact ret_int (by have := Inv4.out; rw [if_pos dc] at this; exact this) (hg.trans (G2.trans hw1))
                case hp' => trivial
        · have dw : (rx != 0) = true := by simpa using hw
          go_wp2_with (go_at_call 92; ((with_reducible refine (cb _ (Grow.refl _) rx hrx).mono ?_); rintro e w2 ⟨rfl, hg2⟩))
          go_ret
          exact ret_int (by have := Inv2.out; rw [if_pos hw] at this; exact this) (hg.trans hg2)
      · obtain rfl : k = xs.length := by omega
        have fin : R = 0 := by have := Inv.out; rw [List.drop_length] at this; exact this.symm
        go_wp2
        go_ret
        exact ret_int fin.symm hg
end Go.Proofs.YtigpbihjjadmlaaGreat

namespace Go.Proofs.YtigpbihjjadmlaaGreat
open Go.RowKit Go.Calm
set_option linter.unusedSimpArgs false
set_option linter.unusedVariables false

theorem flatW_append : ∀ xs ys : List V, flatW (xs ++ ys) = flatW xs ++ flatW ys
  | [], ys => rfl
  | x :: xs, ys => by simp [flatW, flatW_append xs ys]
theorem flatW_one : ∀ xs : List V, ∀ u ∈ flatW xs, u.oneCell' = true
  | [], u, hu => by simp [flatW] at hu
  | x :: xs, u, hu => by
    simp only [flatW, List.mem_cons] at hu
    rcases hu with rfl | rfl | rfl | hu
    · rfl
    · rfl
    · rfl
    · exact flatW_one xs u hu
theorem flatI_one : ∀ xs : List I, ∀ u ∈ flatI xs, u.oneCell' = true
  | [], u, hu => by simp [flatI] at hu
  | x :: xs, u, hu => by
    simp only [flatI, List.mem_cons] at hu
    rcases hu with rfl | rfl | hu
    · rfl
    · rfl
    · exact flatI_one xs u hu
theorem own_vsl {w : World} {base : Nat} {v : Value} {ys : List V} (h : w.ownsRow base 61 3 v ys.length (flatW ys)) : ∃ (B : Option Addr) (cap : Nat), v = .slice B ys.length cap ∧ VSl w B ys := by
  obtain ⟨_, h⟩ := h
  rcases h with ⟨rfl, h0⟩ | ⟨gb, cap, cur, rfl, hB, hgb, hle, hmx, hcs, htk⟩
  · have : ys = [] := List.length_eq_zero_iff.1 h0
    subst this
    exact ⟨none, 0, rfl, fun i x hx => by simp at hx⟩
  · have hb : Blk w gb 61 cur := hgb
    have key : ∀ i v, (flatW ys)[i]? = some v → w.cell? ⟨gb, i, none⟩ = some v := fun i v hv => by
      rw [← htk, List.getElem?_take] at hv
      split at hv
      · rw [hb.cell]; simpa using hv
      · cases hv
    refine ⟨some ⟨gb, 0, none⟩, cap, rfl, fun i x hx => ⟨gb, 0, rfl, ?_⟩⟩
    obtain ⟨a, b, c⟩ := flatW_get ys i x hx
    exact ⟨by rw [Nat.zero_add]; exact key _ _ a, by rw [Nat.zero_add]; exact key _ _ b, by rw [Nat.zero_add]; exact key _ _ c⟩
theorem own_zin {w : World} {base : Nat} {v : Value} {ys : List I} (h : w.ownsRow base 42 2 v ys.length (flatI ys)) (hv : ∀ y ∈ ys, VSl w y.A y.row) : ∃ (B : Option Addr) (cap : Nat), v = .slice B ys.length cap ∧ ZIn w B ys := by
  obtain ⟨_, h⟩ := h
  rcases h with ⟨rfl, h0⟩ | ⟨gb, cap, cur, rfl, hB, hgb, hle, hmx, hcs, htk⟩
  · have : ys = [] := List.length_eq_zero_iff.1 h0
    subst this
    exact ⟨none, 0, rfl, fun i x hx => by simp at hx⟩
  · have hb : Blk w gb 42 cur := hgb
    have key : ∀ i v, (flatI ys)[i]? = some v → w.cell? ⟨gb, i, none⟩ = some v := fun i v hv => by
      rw [← htk, List.getElem?_take] at hv
      split at hv
      · rw [hb.cell]; simpa using hv
      · cases hv
    refine ⟨some ⟨gb, 0, none⟩, cap, rfl, fun i x hx => ⟨gb, 0, rfl, ?_, ?_, hv x (List.mem_of_getElem? hx)⟩⟩
    · rw [Nat.zero_add]; exact key _ _ (flatI_get ys i x hx).1
    · rw [Nat.zero_add]; exact key _ _ (flatI_get ys i x hx).2
theorem own_types {w : World} {b1 b2 n1 n2 s1 s2 : Nat} {e1 e2 : TypeId} {v1 v2 : Value} {x1 x2 : List Value} (h1 : w.ownsRow b1 e1 s1 v1 n1 x1) (h2 : w.ownsRow b2 e2 s2 v2 n2 x2) (hne : e1 ≠ e2) : v1.ownBlock = none ∨ v1.ownBlock ≠ v2.ownBlock := by
  rcases h1.2 with ⟨rfl, _⟩ | ⟨g, cap, cur, rfl, hB, hgb, _⟩
  · exact .inl rfl
  · right
    rcases h2.2 with ⟨rfl, _⟩ | ⟨g', cap', cur', rfl, hB', hgb', _⟩
    · simp [Value.ownBlock]
    · intro e
      simp [Value.ownBlock] at e
      subst e
      rw [hgb] at hgb'
      simp at hgb'
      exact hne hgb'.2
theorem info_val2' : ∃ ti, Tryz.prog.info? 61 = some ti ∧ ti.zero = some (.agg #[.int .i64 0, .int .i64 0, .string ⟨#[]⟩]) ∧ ti.size = 3 ∧ ti.bytes = 32 := by
  have h := info_val2
  cases hi : Tryz.prog.info? 61 with
  | none => rw [hi] at h; simp at h
  | some i => rw [hi] at h; simp at h; exact ⟨i, rfl, h⟩
theorem zin_news {w : World} {g o : Nat} {xs : List I} (h : ZIn w (some ⟨g, o, none⟩) xs) (k : Nat) : ∀ j u, (flatI (xs.drop k))[j]? = some u → w.cell? ((⟨g, o + k * 2, none⟩ : Addr).add j) = some u := fun j u hj => by
  have hlt : j < (flatI (xs.drop k)).length := (List.getElem?_eq_some_iff.1 hj).1
  rw [flatI_len] at hlt
  have hi : j / 2 < (xs.drop k).length := by omega
  obtain ⟨x, hx⟩ : ∃ x, (xs.drop k)[j / 2]? = some x := ⟨_, List.getElem?_eq_getElem hi⟩
  obtain ⟨a, b⟩ := flatI_get _ _ _ hx
  rw [List.getElem?_drop] at hx
  obtain ⟨g', o', e, c1, c2, _⟩ := h _ _ hx
  cases e
  have hA : (⟨g, o + k * 2, none⟩ : Addr).add j = ⟨g, o + k * 2 + j, none⟩ := by
    unfold Addr.add
    split
    · rename_i h0; subst h0; rfl
    · rfl
  rw [hA]
  rcases Nat.mod_two_eq_zero_or_one j with h2 | h2
  · rw [show j / 2 * 2 = j by omega] at a
    rw [a] at hj; cases hj
    rw [show o + k * 2 + j = o + (k + j / 2) * 2 by omega]; exact c1
  · rw [show j / 2 * 2 + 1 = j by omega] at b
    rw [b] at hj; cases hj
    rw [show o + k * 2 + j = o + (k + j / 2) * 2 + 1 by omega]; exact c2
theorem zin_take {w : World} {g o : Nat} {xs : List I} (h : ZIn w (some ⟨g, o, none⟩) xs) (k : Nat) : ∀ j u, (flatI (xs.take k))[j]? = some u → w.cell? ((⟨g, o, none⟩ : Addr).add j) = some u := fun j u hj => by
  have := zin_news h 0 j u
  rw [Nat.zero_mul, Nat.add_zero, List.drop_zero] at this
  refine this ?_
  have e := flatI_append (xs.take k) (xs.drop k)
  rw [List.take_append_drop] at e
  rw [e, List.getElem?_append_left (List.getElem?_eq_some_iff.1 hj).1]
  exact hj

set_option maxRecDepth 100000 in
set_option maxHeartbeats 4000000 in
theorem rbare_row (row : List V) (A : Option Addr) (c : Nat) (w : World) (hlen : row.length ≤ 1000) (hrv : ∀ v ∈ row, RV v) (hx : VSl w A row) :
    Calls Tryz.prog 24 #[.slice A row.length c] w fun en w' => ∃ (B : Option Addr) (cap : Nat), en = .returned (.slice B row.length cap) ∧ w'.ownsRow w.heap.size 61 3 (.slice B row.length cap) row.length (flatW (bareR row)) ∧ Grow w w' := by
  have Hx := Lib.hid hx
  have Hrv := Lib.hid hrv
  have Ti := Lib.hid info_val2'
  clear hx hrv
  go_enter Tryz.func24, Tryz.ntmps24
  go_wp2
  go_loopw [3, 8] (fun t i wr => ∃ k : Nat, k ≤ row.length ∧ i = .int .i64 k ∧ wr.ownsRow w.heap.size 61 3 t k (flatW ((row.take k).map bare)) ∧ Grow w wr) (fun _ i _ => row.length - (intOf i).toNat)
  case atStart => exact ⟨0, Nat.zero_le _, rfl, World.ownsRow_nil _ _ _ _, Grow.refl w⟩
  case round =>
    obtain ⟨k, hk, rfl, hown, hg⟩ := hrel
    have Own := Lib.hid hown
    clear hown
    by_cases hlt : k < row.length
    · obtain ⟨x, hxk⟩ : ∃ x, row[k]? = some x := ⟨_, List.getElem?_eq_getElem hlt⟩
      obtain ⟨gx, ox, rfl, c1, c2, c3⟩ := (Hx.out.grow hg) k x hxk
      have hxr := Hrv.out x (List.mem_of_getElem? hxk)
      have e : (row.take (k + 1)).map bare = (row.take k).map bare ++ [bare x] := by
        have hx' := (List.getElem?_eq_some_iff.1 hxk).2
        rw [List.take_succ_eq_append_getElem hlt, hx']; simp
      have E := Lib.hid e
      obtain ⟨ti, hti, hz0, hz1, hz2⟩ := Ti.out
      have hl2 := Own.out.lt
      have HL2 := Lib.hid hl2
      clear hxk e hl2
      go_wp2_with (first
        | (go_at_call 50; ((with_reducible refine (rbare_any x hxr _).mono ?_); rintro e w2 ⟨rfl, hg2⟩; have Own2 := Lib.hid (own_grow Own.out (((Grow.refl wr).al _).trans hg2)); have G2 := (hg.al _).trans hg2; clear hg2))
        | (at_builtin; refine wpList_append_own _ rfl _ _ 40 rfl w.heap.size 61 ti (.agg #[.int .i64 0, .int .i64 0, .string ⟨#[]⟩]) 3 32 Tryz.underlying40 hti hz0 hz1 hz2 rfl (by decide) _ _ _ rfl (Own2.out.alloc _) ⟨w2.heap.size, 0, none⟩ 1 1 (flatW [bare x]) rfl rfl ?c1 (flatW_one _) ?c3 ?c4 ?c5 ?_))
      case c1 =>
        intro j u hj
        match j, hj with
        | 0, hj => simp [flatW] at hj; subst hj; simp [Addr.add]
        | 1, hj => simp [flatW] at hj; subst hj; simp [Addr.add]
        | 2, hj => simp [flatW] at hj; subst hj; simp [Addr.add]
      case c3 => unfold maxLen; omega
      case c4 => omega
      case c5 => have := G2.size; simp; omega
      · intro v' w7 hown' hgrow _
        have hg7 : Grow w w7 := Grow.own (G2.al _) hgrow (fun i hi => (HL2.out i hi).1)
        clear hgrow
        go_wp2
        go_roundw
        case rel => exact ⟨k + 1, by omega, by go_num, by rw [E.out, flatW_append]; simpa using hown', hg7⟩
        case measure => simp [intOf]; omega
    · obtain rfl : k = row.length := by omega
      have hfin : ∃ (B : Option Addr) (cap : Nat), u3 = .slice B row.length cap := by
        have h := Own.out
        rw [List.take_length] at h
        obtain ⟨B, cap, e, _⟩ := own_vsl (ys := row.map bare) (by simpa using h)
        exact ⟨B, cap, by simpa using e⟩
      obtain ⟨B, cap, rfl⟩ := hfin
      go_wp2
      go_ret
      exact ⟨B, cap, rfl, by have h := Own.out; rw [List.take_length] at h; exact h, hg⟩
end Go.Proofs.YtigpbihjjadmlaaGreat

namespace Go.Proofs.YtigpbihjjadmlaaGreat
open Go.RowKit Go.Calm
set_option linter.unusedSimpArgs false
set_option linter.unusedVariables false

theorem addr_add (g o j : Nat) : (⟨g, o, none⟩ : Addr).add j = ⟨g, o + j, none⟩ := by
  unfold Addr.add
  split
  · rename_i h0; subst h0; rfl
  · rfl
def Src (w : World) (src : Value) (L : List I) : Prop := (src = .slice none 0 0 ∧ L = []) ∨ ∃ ad c, src = .slice (some ad) L.length c ∧ ∀ j u, (flatI L)[j]? = some u → w.cell? (ad.add j) = some u
theorem Src.grow {w w' : World} {src : Value} {L : List I} (h : Src w src L) (hg : Grow w w') : Src w' src L := by
  rcases h with h | ⟨ad, c, e, h⟩
  · exact .inl h
  · exact .inr ⟨ad, c, e, fun j u hj => hg.cell (h j u hj)⟩
theorem wpList_append_src {w : World} {ops : Array Oper} {rest : List Oper} {o : Oper} {a : Act} {Q : Exit → Act → World → Prop} (hgd : o.guard = none) (s x : Operand)
    (ho : o.op = .call { callee := .builtin .append, args := #[s, x], argTypes := #[25, 25] })
    (base : Nat) (v : Value) (n : Nat) (xs : List I) (hs : a.eval s = v) (hown : w.ownsRow base 42 2 v n (flatI xs)) (src : Value) (L : List I) (hx : a.eval x = src) (hsrc : Src w src L) (hB : n + L.length ≤ 1000000) (hbase : base ≤ w.heap.size)
    (h : ∀ v' w', w'.ownsRow base 42 2 v' (n + L.length) (flatI (xs ++ L)) → w.grownBy w' v.ownBlock → wpList Tryz.prog ops Q rest (a.put o.dst v') w') : wpList Tryz.prog ops Q (o :: rest) a w := by
  obtain ⟨ti, hti, hz0, hz1, hz2⟩ := info_zrow'
  rcases hsrc with ⟨rfl, rfl⟩ | ⟨ad, c, rfl, hc⟩
  · refine wpList_append_own_none hgd s x _ ho base 42 ti 2 Tryz.underlying25 hti v n (flatI xs) hs hown hx ?_
    exact h v w (by simpa using hown) ⟨rfl, rfl, rfl, Nat.le_refl _, fun _ _ _ => rfl⟩
  · refine wpList_append_own _ hgd s x _ ho base 42 ti (.agg #[.slice none 0 0, .int .i64 0]) 2 32 Tryz.underlying25 hti hz0 hz1 hz2 rfl (by decide) v n (flatI xs) hs hown ad L.length c (flatI L) hx (by rw [flatI_len]) hc (flatI_one _) (by unfold maxLen; omega) (by omega) hbase ?_
    intro v' w' h1 h2 _
    exact h v' w' (by rw [flatI_append]; exact h1) h2
theorem src_take {w : World} {A : Option Addr} {xs : List I} {c k : Nat} (h : SlOk A xs.length c) (hz : ZIn w A xs) (hk : k ≤ xs.length) : Src w (.slice A k c) (xs.take k) := by
  obtain ⟨h1, h2⟩ := h
  cases A with
  | none =>
    have := h2 rfl
    obtain rfl : k = 0 := by omega
    exact .inl ⟨by rw [this], by simp⟩
  | some ad =>
    refine .inr ⟨ad, c, by rw [List.length_take, Nat.min_eq_left hk], ?_⟩
    cases xs with
    | nil => intro j u hj; simp [flatI] at hj
    | cons x l =>
      obtain ⟨g, o, e, _⟩ := hz 0 x rfl
      cases e
      exact zin_take hz k
theorem src_drop {w : World} {A : Option Addr} {xs : List I} {c k : Nat} (h : SlOk A xs.length c) (hz : ZIn w A xs) (hk : k ≤ xs.length) : Src w (sliced A k xs.length c 2) (xs.drop k) := by
  obtain ⟨h1, h2⟩ := h
  cases A with
  | none =>
    have := h2 rfl
    obtain rfl : k = 0 := by omega
    obtain h0 : xs.length = 0 := by omega
    exact .inl ⟨by simp [sliced, h0, this], by simpa using h0⟩
  | some ad =>
    by_cases hn : k < xs.length
    · obtain ⟨g, o, e, _⟩ := hz k _ (List.getElem?_eq_getElem hn)
      cases e
      refine .inr ⟨⟨g, o + k * 2, none⟩, c - k, ?_, zin_news hz k⟩
      unfold sliced
      rw [if_neg (by omega), Option.map_some, addr_add, List.length_drop]
    · have e : xs.length = k := by omega
      refine .inr ⟨if c = k then ad else ad.add (k * 2), c - k, ?_, fun j u hj => ?_⟩
      · unfold sliced; split <;> simp
      · rw [← e, List.drop_length] at hj
        simp [flatI] at hj
theorem own_zin' {w : World} {base : Nat} {v : Value} {ys : List I} (h : w.ownsRow base 42 2 v ys.length (flatI ys)) (hv : ∀ y ∈ ys, VSl w y.A y.row) : ∃ (B : Option Addr) (cap : Nat), v = .slice B ys.length cap ∧ ZIn w B ys ∧ SlOk B ys.length cap := by
  obtain ⟨B, cap, rfl, hz⟩ := own_zin h hv
  refine ⟨B, cap, rfl, hz, ?_⟩
  obtain ⟨_, h⟩ := h
  rcases h with ⟨e, h0⟩ | ⟨gb, cap', cur, e, hB, hgb, hle, hmx, hcs, htk⟩
  · simp at e
    exact ⟨by omega, fun _ => e.2.2⟩
  · simp at e
    obtain ⟨rfl, rfl⟩ := e
    exact ⟨hle, fun h => by cases h⟩
theorem putZ_at {xs : List I} {k : Nat} {x : I} (r : List V) (n : Int) (h : xs[k]? = some x) : putZ ((xs.drop k).map zOf) r n = if ordR x.row r < 0 then zOf x :: putZ ((xs.drop (k + 1)).map zOf) r n else if ordR x.row r = 0 then (if n + x.w ≠ 0 then (bareR r, n + x.w) :: (xs.drop (k + 1)).map zOf else (xs.drop (k + 1)).map zOf) else (if n ≠ 0 then (bareR r, n) :: (xs.drop k).map zOf else (xs.drop k).map zOf) := by
  obtain ⟨h1, e1⟩ := List.getElem?_eq_some_iff.1 h
  rw [List.drop_eq_getElem_cons h1, e1]; rfl
theorem putZ_step {xs : List I} {k : Nat} {x : I} {r : List V} {n : Int} (h : xs[k]? = some x) (hr : ordR x.row r < 0) (hi : putZ (xs.map zOf) r n = (xs.take k).map zOf ++ putZ ((xs.drop k).map zOf) r n) : putZ (xs.map zOf) r n = (xs.take (k + 1)).map zOf ++ putZ ((xs.drop (k + 1)).map zOf) r n := by
  obtain ⟨h1, e1⟩ := List.getElem?_eq_some_iff.1 h
  rw [hi, putZ_at r n h, if_pos hr, List.take_succ_eq_append_getElem h1, e1]; simp
theorem grow_own {w wr w' : World} {v : Value} (hg : Grow w wr) (h : wr.grownBy w' v.ownBlock) {e : TypeId} {s n : Nat} {xs : List Value} (hown : wr.ownsRow w.heap.size e s v n xs) : Grow w w' := by
  refine Grow.own hg h (fun i hi => ?_)
  rcases hown.2 with ⟨rfl, _⟩ | ⟨g, cap, cur, rfl, hB, _⟩
  · cases hi
  · simp [Value.ownBlock] at hi; omega
end Go.Proofs.YtigpbihjjadmlaaGreat

namespace Go.Proofs.YtigpbihjjadmlaaGreat
open Go.RowKit Go.Calm
set_option linter.unusedSimpArgs false
set_option linter.unusedVariables false

theorem ZIn.vsl {w : World} {A : Option Addr} {xs : List I} (h : ZIn w A xs) : ∀ x ∈ xs, VSl w x.A x.row := fun x hx => by
  obtain ⟨i, hi, e⟩ := List.mem_iff_getElem.1 hx
  obtain ⟨_, _, _, _, _, hv⟩ := h i x (by rw [← e]; exact List.getElem?_eq_getElem hi)
  exact hv
theorem src_one {w : World} {g : Nat} {t : TypeId} {y : I} {m : Nat} (hm : y.row.length = m) (hb : Blk w g t #[.slice y.A m y.cap, .int .i64 y.w]) : Src w (.slice (some ⟨g, 0, none⟩) 1 1) [y] := by
  refine .inr ⟨⟨g, 0, none⟩, 1, rfl, fun j u hj => ?_⟩
  rw [addr_add, hb.cell]
  match j, hj with
  | 0, hj => simp [flatI] at hj; subst hj; rw [hm]; rfl
  | 1, hj => simp [flatI] at hj; subst hj; rfl
theorem own_zin2 {w : World} {base : Nat} {v : Value} {n : Nat} {ys : List I} (h : w.ownsRow base 42 2 v n (flatI ys)) (hv : ∀ y ∈ ys, VSl w y.A y.row) : ∃ (B : Option Addr) (cap : Nat), v = .slice B ys.length cap ∧ ZIn w B ys ∧ SlOk B ys.length cap := by
  have h1 := h.1
  rw [flatI_len] at h1
  obtain rfl : n = ys.length := by omega
  exact own_zin' h hv
theorem bareR_len (r : List V) : (bareR r).length = r.length := by simp [bareR]
theorem own_row {w : World} {base : Nat} {B : Option Addr} {n c : Nat} {row : List V} (h : w.ownsRow base 61 3 (.slice B n c) n (flatW (bareR row))) (hn : n = row.length) : VSl w B (bareR row) := by
  rw [hn, ← bareR_len row] at h
  obtain ⟨B', c', e, hv⟩ := own_vsl h
  simp at e
  rw [e.1]; exact hv
theorem vsl_mid {w : World} {A : Option Addr} {xs : List I} {k K : Nat} {y : I} (h : ZIn w A xs) (hy : VSl w y.A y.row) : ∀ u ∈ xs.take k ++ [y] ++ xs.drop K, VSl w u.A u.row := fun u hu => by
  simp only [List.mem_append, List.mem_singleton] at hu
  rcases hu with (hu | rfl) | hu
  · exact h.vsl u (List.mem_of_mem_take hu)
  · exact hy
  · exact h.vsl u (List.mem_of_mem_drop hu)
theorem vsl_mid0 {w : World} {A : Option Addr} {xs : List I} {k K : Nat} (h : ZIn w A xs) : ∀ u ∈ xs.take k ++ xs.drop K, VSl w u.A u.row := fun u hu => by
  simp only [List.mem_append] at hu
  rcases hu with hu | hu
  · exact h.vsl u (List.mem_of_mem_take hu)
  · exact h.vsl u (List.mem_of_mem_drop hu)
def GivesS (w w' : World) (e : Ending) (r : List Z) : Prop := ∃ (B : Option Addr) (ys : List I) (cap : Nat), e = .returned (.slice B ys.length cap) ∧ ZIn w' B ys ∧ ys.map zOf = r ∧ SlOk B ys.length cap ∧ Grow w w'
set_option maxRecDepth 100000 in
set_option maxHeartbeats 8000000 in
theorem put_any (xs : List I) (A : Option Addr) (c : Nat) (row : List V) (Ar : Option Addr) (cr : Nat) (n : Int) (w : World) (hlen : xs.length ≤ 200000) (hok : SlOk A xs.length c) (hz : ZIn w A xs) (hrow : ∀ x ∈ xs, x.row.length ≤ 1000) (hw : ∀ x ∈ xs, -2000000000000000000 ≤ x.w ∧ x.w ≤ 2000000000000000000) (hl : row.length ≤ 1000) (hr : ∀ v ∈ row, RV v) (hx : VSl w Ar row) (hn : -1000000000000000000 ≤ n ∧ n ≤ 1000000000000000000) :
    Calls Tryz.prog 28 #[.slice A xs.length c, .slice Ar row.length cr, .int .i64 n] w fun en w' => GivesS w w' en (putZ (xs.map zOf) row n) := by
  have Hz := Lib.hid hz
  have Hok := Lib.hid hok
  have Hrow := Lib.hid hrow
  have Hw := Lib.hid hw
  have Hx := Lib.hid hx
  have Hr := Lib.hid hr
  obtain ⟨hn1, hn2⟩ := hn
  have hac := hok.1
  clear hz hrow hw hx hr hok
  go_enter Tryz.func28, Tryz.ntmps28
  go_wp2
  go_loopw [7] (fun i wr => ∃ k : Nat, k ≤ xs.length ∧ i = .int .i64 k ∧ putZ (xs.map zOf) row n = (xs.take k).map zOf ++ putZ ((xs.drop k).map zOf) row n ∧ Grow w wr) (fun i _ => xs.length - (intOf i).toNat)
  case atStart => exact ⟨0, Nat.zero_le _, rfl, by simp, Grow.refl _⟩
  case round =>
    obtain ⟨k, hk, rfl, hinv, hg⟩ := hrel
    have Inv := Lib.hid hinv
    have Tk := Lib.hid (src_take Hok.out (Hz.out.grow hg) hk)
    clear hinv
    by_cases hlt : k < xs.length
    · obtain ⟨x, hxk⟩ : ∃ x, xs[k]? = some x := ⟨_, List.getElem?_eq_getElem hlt⟩
      obtain ⟨gx, ox, rfl, c1, c2, hxv⟩ := (Hz.out.grow hg) k x hxk
      have hlx := Hrow.out x (List.mem_of_getElem? hxk)
      obtain ⟨hw1, hw2⟩ := Hw.out x (List.mem_of_getElem? hxk)
      have cc := fun W (h : Grow wr W) => rrows_any x.row row x.A Ar x.cap cr W (by omega) (by omega) (hxv.grow h) (Hx.out.grow (hg.trans h))
      obtain ⟨d, hd⟩ : ∃ d, rowsG ordV x.row row = d := ⟨_, rfl⟩
      rw [hd] at cc
      have Hd := Lib.hid (show ordR x.row row = d from hd)
      have Hxk := Lib.hid hxk
      have b0 : (0 : Int) ≤ (k : Int) := by omega
      have b1 : (k : Int) < (xs.length : Int) := by omega
      clear hd hxk hxv
      by_cases h1 : d < 0
      · have d1 : decide (d < 0) = true := decide_eq_true h1
        go_wp2_with (go_at_call 23; ((with_reducible refine (cc _ (Grow.refl _)).mono ?_); rintro e w2 ⟨rfl, G2⟩))
        go_roundw
        case rel => exact ⟨k + 1, by omega, by go_num, putZ_step Hxk.out (by rw [Hd.out]; exact h1) Inv.out, hg.trans G2⟩
        case measure => simp [intOf]; omega
      · have d1 : decide (d < 0) = false := decide_eq_false h1
        go_upto_region 5 with (first | (go_at_call 23; ((with_reducible refine (cc _ (Grow.refl _)).mono ?_); rintro e w2 ⟨rfl, G2⟩)) | (at_builtin; refine wpList_append_src rfl _ _ rfl w.heap.size _ 0 [] rfl (World.ownsRow_made _ _ 0 (hg.trans G2).size (by unfold maxLen; omega) (by simp)) _ (xs.take k) rfl (Tk.out.grow (G2.al _)) (by rw [List.length_take]; omega) (by have := (hg.trans G2).size; simp; omega) ?_; intro v8 w8 own8 gr8; have GW : Grow wr w8 := grow_own (G2.al _) gr8 (World.ownsRow_made (e := 42) (size := 2) _ #[] 0 G2.size (by unfold maxLen; omega) (by simp)); have e8 : 0 + (xs.take k).length = k := (by rw [Nat.zero_add, List.length_take]; omega); rw [e8] at own8; have Own8 := Lib.hid (show w8.ownsRow w.heap.size 42 2 v8 k (flatI (xs.take k)) from own8); clear own8 gr8 e8))
        have c18 := GW.cell c1
        have c28 := GW.cell c2
        by_cases h0 : d = 0
        · have d2 : (d == 0) = true := by simpa using h0
          have hwp : IntKind.i64.wrap (n + x.w) = n + x.w := by rw [IntKind.wrap_i64]; omega
          go_upto_region 8 with (go_at_call 23; ((with_reducible refine (cc _ GW).mono ?_); rintro e w9 ⟨rfl, G9⟩; have c29 := G9.cell c28))
          by_cases hN : n + x.w = 0
          · have GV := hg.trans (GW.trans G9)
            have Own9 := Lib.hid (own_grow Own8.out G9)
            have dn : (n + x.w != 0) = false := by simpa using hN
            go_upto_region 10 with fail
            by_cases hc : c = k + 1
            · have hd := src_drop Hok.out (Hz.out.grow GV) (show k + 1 ≤ xs.length by omega)
              simp only [sliced, if_pos hc, Option.map_some, addr_add] at hd
              have Dr := Lib.hid hd
              clear hd
              go_wp2_with (at_builtin; refine wpList_append_src rfl _ _ rfl w.heap.size _ _ (xs.take k) rfl Own9.out _ (xs.drop (k + 1)) rfl ?src (by simp; omega) GV.size ?_; rotate_left; intro v11 w11 own11 gr11; have G11 : Grow w w11 := grow_own GV gr11 Own9.out; have Own11 := Lib.hid own11; clear own11 gr11)
              case src => (go_simp; first | exact Dr.out | simpa using Dr.out | simpa [hc] using Dr.out)
              obtain ⟨B, cap, rfl, hz, hk2⟩ := own_zin2 (ys := xs.take k ++ xs.drop (k + 1)) Own11.out (vsl_mid0 (Hz.out.grow G11))
              have Fin := Lib.hid (And.intro hz hk2)
              clear hz hk2
              go_ret
              exact ⟨B, _, cap, rfl, Fin.out.1, by rw [Inv.out, putZ_at _ _ Hxk.out, Hd.out, if_neg (by omega), if_pos h0, if_neg (by simpa using hN)]; simp [zOf], Fin.out.2, G11⟩
            · have hd := src_drop Hok.out (Hz.out.grow GV) (show k + 1 ≤ xs.length by omega)
              simp only [sliced, if_neg hc, Option.map_some, addr_add] at hd
              have Dr := Lib.hid hd
              clear hd
              go_wp2_with (at_builtin; refine wpList_append_src rfl _ _ rfl w.heap.size _ _ (xs.take k) rfl Own9.out _ (xs.drop (k + 1)) rfl ?src (by simp; omega) GV.size ?_; rotate_left; intro v11 w11 own11 gr11; have G11 : Grow w w11 := grow_own GV gr11 Own9.out; have Own11 := Lib.hid own11; clear own11 gr11)
              case src => (go_simp; first | exact Dr.out | simpa using Dr.out | simpa [hc] using Dr.out)
              obtain ⟨B, cap, rfl, hz, hk2⟩ := own_zin2 (ys := xs.take k ++ xs.drop (k + 1)) Own11.out (vsl_mid0 (Hz.out.grow G11))
              have Fin := Lib.hid (And.intro hz hk2)
              clear hz hk2
              go_ret
              exact ⟨B, _, cap, rfl, Fin.out.1, by rw [Inv.out, putZ_at _ _ Hxk.out, Hd.out, if_neg (by omega), if_pos h0, if_neg (by simpa using hN)]; simp [zOf], Fin.out.2, G11⟩
          · have GV := hg.trans (GW.trans G9)
            have Own9 := Lib.hid (own_grow Own8.out G9)
            have dn : (n + x.w != 0) = true := by simpa using hN
            go_upto_region 10 with (first | (go_at_call 24; ((with_reducible refine (rbare_row row Ar cr _ hl Hr.out (Hx.out.grow GV)).mono ?_); rintro e wB ⟨Bb, cb, rfl, ownB, gB⟩; have OwnB := Lib.hid ownB; have OwnA := Lib.hid (own_grow Own9.out gB); clear ownB)) | (at_builtin; refine wpList_append_src rfl _ _ rfl w.heap.size _ k (xs.take k) rfl (OwnA.out.alloc _) _ [I.mk Bb (bareR row) cb (n + x.w)] rfl (src_one (bareR_len row) (Blk.new _ _ _)) (by simp; omega) (by have := (GV.trans gB).size; simp; omega) ?_; intro v10 w10 own10 gr10))
            have G10 : Grow w w10 := grow_own ((GV.trans gB).al _) gr10 (OwnA.out.alloc _)
            have OwnB10 := Lib.hid (World.ownsRow.kept (OwnB.out.alloc _) gr10 (own_types OwnB.out OwnA.out (by decide)))
            have Own10 := Lib.hid own10
            clear own10 gr10
            by_cases hc : c = k + 1
            · have hd := src_drop Hok.out (Hz.out.grow G10) (show k + 1 ≤ xs.length by omega)
              simp only [sliced, if_pos hc, Option.map_some, addr_add] at hd
              have Dr := Lib.hid hd
              clear hd
              go_wp2_with (at_builtin; refine wpList_append_src rfl _ _ rfl w.heap.size _ _ (xs.take k ++ [I.mk Bb (bareR row) cb (n + x.w)]) rfl Own10.out _ (xs.drop (k + 1)) rfl ?src (by simp; omega) G10.size ?_; rotate_left; intro v11 w11 own11 gr11; have G11 : Grow w w11 := grow_own G10 gr11 Own10.out; have OwnB11 := Lib.hid (World.ownsRow.kept OwnB10.out gr11 (own_types OwnB10.out Own10.out (by decide))); have Own11 := Lib.hid own11; clear own11 gr11)
              case src => (go_simp; first | exact Dr.out | simpa using Dr.out | simpa [hc] using Dr.out)
              obtain ⟨B, cap, rfl, hz, hk2⟩ := own_zin2 (ys := xs.take k ++ [I.mk Bb (bareR row) cb (n + x.w)] ++ xs.drop (k + 1)) Own11.out (vsl_mid (Hz.out.grow G11) (own_row OwnB11.out rfl))
              have Fin := Lib.hid (And.intro hz hk2)
              clear hz hk2
              go_ret
              exact ⟨B, _, cap, rfl, Fin.out.1, by rw [Inv.out, putZ_at _ _ Hxk.out, Hd.out, if_neg (by omega), if_pos h0, if_pos hN]; simp [zOf], Fin.out.2, G11⟩
            · have hd := src_drop Hok.out (Hz.out.grow G10) (show k + 1 ≤ xs.length by omega)
              simp only [sliced, if_neg hc, Option.map_some, addr_add] at hd
              have Dr := Lib.hid hd
              clear hd
              go_wp2_with (at_builtin; refine wpList_append_src rfl _ _ rfl w.heap.size _ _ (xs.take k ++ [I.mk Bb (bareR row) cb (n + x.w)]) rfl Own10.out _ (xs.drop (k + 1)) rfl ?src (by simp; omega) G10.size ?_; rotate_left; intro v11 w11 own11 gr11; have G11 : Grow w w11 := grow_own G10 gr11 Own10.out; have OwnB11 := Lib.hid (World.ownsRow.kept OwnB10.out gr11 (own_types OwnB10.out Own10.out (by decide))); have Own11 := Lib.hid own11; clear own11 gr11)
              case src => (go_simp; first | exact Dr.out | simpa using Dr.out | simpa [hc] using Dr.out)
              obtain ⟨B, cap, rfl, hz, hk2⟩ := own_zin2 (ys := xs.take k ++ [I.mk Bb (bareR row) cb (n + x.w)] ++ xs.drop (k + 1)) Own11.out (vsl_mid (Hz.out.grow G11) (own_row OwnB11.out rfl))
              have Fin := Lib.hid (And.intro hz hk2)
              clear hz hk2
              go_ret
              exact ⟨B, _, cap, rfl, Fin.out.1, by rw [Inv.out, putZ_at _ _ Hxk.out, Hd.out, if_neg (by omega), if_pos h0, if_pos hN]; simp [zOf], Fin.out.2, G11⟩
        · have d2 : (d == 0) = false := by simpa using h0
          go_upto_region 8 with (go_at_call 23; ((with_reducible refine (cc _ GW).mono ?_); rintro e w9 ⟨rfl, G9⟩))
          by_cases hN : n = 0
          · have GV := hg.trans (GW.trans G9)
            have Own9 := Lib.hid (own_grow Own8.out G9)
            have dn : (n != 0) = false := by simpa using hN
            go_upto_region 10 with fail
            by_cases hc : c = k
            · have hd := src_drop Hok.out (Hz.out.grow GV) (show k ≤ xs.length by omega)
              simp only [sliced, if_pos hc, Option.map_some, addr_add] at hd
              have Dr := Lib.hid hd
              clear hd
              go_wp2_with (at_builtin; refine wpList_append_src rfl _ _ rfl w.heap.size _ _ (xs.take k) rfl Own9.out _ (xs.drop (k)) rfl ?src (by simp; omega) GV.size ?_; rotate_left; intro v11 w11 own11 gr11; have G11 : Grow w w11 := grow_own GV gr11 Own9.out; have Own11 := Lib.hid own11; clear own11 gr11)
              case src => (go_simp; first | exact Dr.out | simpa using Dr.out | simpa [hc] using Dr.out)
              obtain ⟨B, cap, rfl, hz, hk2⟩ := own_zin2 (ys := xs.take k ++ xs.drop (k)) Own11.out (vsl_mid0 (Hz.out.grow G11))
              have Fin := Lib.hid (And.intro hz hk2)
              clear hz hk2
              go_ret
              exact ⟨B, _, cap, rfl, Fin.out.1, by rw [Inv.out, putZ_at _ _ Hxk.out, Hd.out, if_neg (by omega), if_neg h0, if_neg (by simpa using hN)]; simp [zOf], Fin.out.2, G11⟩
            · have hd := src_drop Hok.out (Hz.out.grow GV) (show k ≤ xs.length by omega)
              simp only [sliced, if_neg hc, Option.map_some, addr_add] at hd
              have Dr := Lib.hid hd
              clear hd
              go_wp2_with (at_builtin; refine wpList_append_src rfl _ _ rfl w.heap.size _ _ (xs.take k) rfl Own9.out _ (xs.drop (k)) rfl ?src (by simp; omega) GV.size ?_; rotate_left; intro v11 w11 own11 gr11; have G11 : Grow w w11 := grow_own GV gr11 Own9.out; have Own11 := Lib.hid own11; clear own11 gr11)
              case src => (go_simp; first | exact Dr.out | simpa using Dr.out | simpa [hc] using Dr.out)
              obtain ⟨B, cap, rfl, hz, hk2⟩ := own_zin2 (ys := xs.take k ++ xs.drop (k)) Own11.out (vsl_mid0 (Hz.out.grow G11))
              have Fin := Lib.hid (And.intro hz hk2)
              clear hz hk2
              go_ret
              exact ⟨B, _, cap, rfl, Fin.out.1, by rw [Inv.out, putZ_at _ _ Hxk.out, Hd.out, if_neg (by omega), if_neg h0, if_neg (by simpa using hN)]; simp [zOf], Fin.out.2, G11⟩
          · have GV := hg.trans (GW.trans G9)
            have Own9 := Lib.hid (own_grow Own8.out G9)
            have dn : (n != 0) = true := by simpa using hN
            go_upto_region 10 with (first | (go_at_call 24; ((with_reducible refine (rbare_row row Ar cr _ hl Hr.out (Hx.out.grow GV)).mono ?_); rintro e wB ⟨Bb, cb, rfl, ownB, gB⟩; have OwnB := Lib.hid ownB; have OwnA := Lib.hid (own_grow Own9.out gB); clear ownB)) | (at_builtin; refine wpList_append_src rfl _ _ rfl w.heap.size _ k (xs.take k) rfl (OwnA.out.alloc _) _ [I.mk Bb (bareR row) cb (n)] rfl (src_one (bareR_len row) (Blk.new _ _ _)) (by simp; omega) (by have := (GV.trans gB).size; simp; omega) ?_; intro v10 w10 own10 gr10))
            have G10 : Grow w w10 := grow_own ((GV.trans gB).al _) gr10 (OwnA.out.alloc _)
            have OwnB10 := Lib.hid (World.ownsRow.kept (OwnB.out.alloc _) gr10 (own_types OwnB.out OwnA.out (by decide)))
            have Own10 := Lib.hid own10
            clear own10 gr10
            by_cases hc : c = k
            · have hd := src_drop Hok.out (Hz.out.grow G10) (show k ≤ xs.length by omega)
              simp only [sliced, if_pos hc, Option.map_some, addr_add] at hd
              have Dr := Lib.hid hd
              clear hd
              go_wp2_with (at_builtin; refine wpList_append_src rfl _ _ rfl w.heap.size _ _ (xs.take k ++ [I.mk Bb (bareR row) cb (n)]) rfl Own10.out _ (xs.drop (k)) rfl ?src (by simp; omega) G10.size ?_; rotate_left; intro v11 w11 own11 gr11; have G11 : Grow w w11 := grow_own G10 gr11 Own10.out; have OwnB11 := Lib.hid (World.ownsRow.kept OwnB10.out gr11 (own_types OwnB10.out Own10.out (by decide))); have Own11 := Lib.hid own11; clear own11 gr11)
              case src => (go_simp; first | exact Dr.out | simpa using Dr.out | simpa [hc] using Dr.out)
              obtain ⟨B, cap, rfl, hz, hk2⟩ := own_zin2 (ys := xs.take k ++ [I.mk Bb (bareR row) cb (n)] ++ xs.drop (k)) Own11.out (vsl_mid (Hz.out.grow G11) (own_row OwnB11.out rfl))
              have Fin := Lib.hid (And.intro hz hk2)
              clear hz hk2
              go_ret
              exact ⟨B, _, cap, rfl, Fin.out.1, by rw [Inv.out, putZ_at _ _ Hxk.out, Hd.out, if_neg (by omega), if_neg h0, if_pos hN]; simp [zOf], Fin.out.2, G11⟩
            · have hd := src_drop Hok.out (Hz.out.grow G10) (show k ≤ xs.length by omega)
              simp only [sliced, if_neg hc, Option.map_some, addr_add] at hd
              have Dr := Lib.hid hd
              clear hd
              go_wp2_with (at_builtin; refine wpList_append_src rfl _ _ rfl w.heap.size _ _ (xs.take k ++ [I.mk Bb (bareR row) cb (n)]) rfl Own10.out _ (xs.drop (k)) rfl ?src (by simp; omega) G10.size ?_; rotate_left; intro v11 w11 own11 gr11; have G11 : Grow w w11 := grow_own G10 gr11 Own10.out; have OwnB11 := Lib.hid (World.ownsRow.kept OwnB10.out gr11 (own_types OwnB10.out Own10.out (by decide))); have Own11 := Lib.hid own11; clear own11 gr11)
              case src => (go_simp; first | exact Dr.out | simpa using Dr.out | simpa [hc] using Dr.out)
              obtain ⟨B, cap, rfl, hz, hk2⟩ := own_zin2 (ys := xs.take k ++ [I.mk Bb (bareR row) cb (n)] ++ xs.drop (k)) Own11.out (vsl_mid (Hz.out.grow G11) (own_row OwnB11.out rfl))
              have Fin := Lib.hid (And.intro hz hk2)
              clear hz hk2
              go_ret
              exact ⟨B, _, cap, rfl, Fin.out.1, by rw [Inv.out, putZ_at _ _ Hxk.out, Hd.out, if_neg (by omega), if_neg h0, if_pos hN]; simp [zOf], Fin.out.2, G11⟩
    · obtain rfl : k = xs.length := by omega
      have hlt2 : decide ((xs.length : Int) < (xs.length : Int)) = false := by simp
      go_upto_region 5 with (at_builtin; refine wpList_append_src rfl _ _ rfl w.heap.size _ 0 [] rfl (World.ownsRow_made _ _ 0 hg.size (by unfold maxLen; omega) (by simp)) _ (xs.take xs.length) rfl (Tk.out.grow ((Grow.refl wr).al _)) (by rw [List.length_take]; omega) (by have := hg.size; simp; omega) ?_; intro v8 w8 own8 gr8; have GW : Grow wr w8 := grow_own ((Grow.refl wr).al _) gr8 (World.ownsRow_made (e := 42) (size := 2) _ #[] 0 (Grow.refl wr).size (by unfold maxLen; omega) (by simp)); have e8 : 0 + (xs.take xs.length).length = xs.length := (by rw [Nat.zero_add, List.length_take]; omega); rw [e8] at own8; have Own8 := Lib.hid (show w8.ownsRow w.heap.size 42 2 v8 xs.length (flatI (xs.take xs.length)) from own8); clear own8 gr8 e8)
      go_upto_region 8 with fail
      by_cases hN : n = 0
      · have GV := hg.trans GW
        have Own9 := Lib.hid (own_grow Own8.out (Grow.refl _))
        have dn : (n != 0) = false := by simpa using hN
        go_upto_region 10 with fail
        by_cases hc : c = xs.length
        · have hd := src_drop Hok.out (Hz.out.grow GV) (show xs.length ≤ xs.length by omega)
          simp only [sliced, if_pos hc, Option.map_some, addr_add] at hd
          have Dr := Lib.hid hd
          clear hd
          go_wp2_with (at_builtin; refine wpList_append_src rfl _ _ rfl w.heap.size _ _ (xs.take xs.length) rfl Own9.out _ (xs.drop (xs.length)) rfl ?src (by simp; omega) GV.size ?_; rotate_left; intro v11 w11 own11 gr11; have G11 : Grow w w11 := grow_own GV gr11 Own9.out; have Own11 := Lib.hid own11; clear own11 gr11)
          case src => (go_simp; first | exact Dr.out | simpa using Dr.out | simpa [hc] using Dr.out)
          obtain ⟨B, cap, rfl, hz, hk2⟩ := own_zin2 (ys := xs.take xs.length ++ xs.drop (xs.length)) Own11.out (vsl_mid0 (Hz.out.grow G11))
          have Fin := Lib.hid (And.intro hz hk2)
          clear hz hk2
          go_ret
          exact ⟨B, _, cap, rfl, Fin.out.1, by rw [Inv.out, List.drop_length]; simp [putZ, hN, zOf], Fin.out.2, G11⟩
        · have hd := src_drop Hok.out (Hz.out.grow GV) (show xs.length ≤ xs.length by omega)
          simp only [sliced, if_neg hc, Option.map_some, addr_add] at hd
          have Dr := Lib.hid hd
          clear hd
          go_wp2_with (at_builtin; refine wpList_append_src rfl _ _ rfl w.heap.size _ _ (xs.take xs.length) rfl Own9.out _ (xs.drop (xs.length)) rfl ?src (by simp; omega) GV.size ?_; rotate_left; intro v11 w11 own11 gr11; have G11 : Grow w w11 := grow_own GV gr11 Own9.out; have Own11 := Lib.hid own11; clear own11 gr11)
          case src => (go_simp; first | exact Dr.out | simpa using Dr.out | simpa [hc] using Dr.out)
          obtain ⟨B, cap, rfl, hz, hk2⟩ := own_zin2 (ys := xs.take xs.length ++ xs.drop (xs.length)) Own11.out (vsl_mid0 (Hz.out.grow G11))
          have Fin := Lib.hid (And.intro hz hk2)
          clear hz hk2
          go_ret
          exact ⟨B, _, cap, rfl, Fin.out.1, by rw [Inv.out, List.drop_length]; simp [putZ, hN, zOf], Fin.out.2, G11⟩
      · have GV := hg.trans GW
        have Own9 := Lib.hid (own_grow Own8.out (Grow.refl _))
        have dn : (n != 0) = true := by simpa using hN
        go_upto_region 10 with (first | (go_at_call 24; ((with_reducible refine (rbare_row row Ar cr _ hl Hr.out (Hx.out.grow GV)).mono ?_); rintro e wB ⟨Bb, cb, rfl, ownB, gB⟩; have OwnB := Lib.hid ownB; have OwnA := Lib.hid (own_grow Own9.out gB); clear ownB)) | (at_builtin; refine wpList_append_src rfl _ _ rfl w.heap.size _ xs.length (xs.take xs.length) rfl (OwnA.out.alloc _) _ [I.mk Bb (bareR row) cb (n)] rfl (src_one (bareR_len row) (Blk.new _ _ _)) (by simp; omega) (by have := (GV.trans gB).size; simp; omega) ?_; intro v10 w10 own10 gr10))
        have G10 : Grow w w10 := grow_own ((GV.trans gB).al _) gr10 (OwnA.out.alloc _)
        have OwnB10 := Lib.hid (World.ownsRow.kept (OwnB.out.alloc _) gr10 (own_types OwnB.out OwnA.out (by decide)))
        have Own10 := Lib.hid own10
        clear own10 gr10
        by_cases hc : c = xs.length
        · have hd := src_drop Hok.out (Hz.out.grow G10) (show xs.length ≤ xs.length by omega)
          simp only [sliced, if_pos hc, Option.map_some, addr_add] at hd
          have Dr := Lib.hid hd
          clear hd
          go_wp2_with (at_builtin; refine wpList_append_src rfl _ _ rfl w.heap.size _ _ (xs.take xs.length ++ [I.mk Bb (bareR row) cb (n)]) rfl Own10.out _ (xs.drop (xs.length)) rfl ?src (by simp; omega) G10.size ?_; rotate_left; intro v11 w11 own11 gr11; have G11 : Grow w w11 := grow_own G10 gr11 Own10.out; have OwnB11 := Lib.hid (World.ownsRow.kept OwnB10.out gr11 (own_types OwnB10.out Own10.out (by decide))); have Own11 := Lib.hid own11; clear own11 gr11)
          case src => (go_simp; first | exact Dr.out | simpa using Dr.out | simpa [hc] using Dr.out)
          obtain ⟨B, cap, rfl, hz, hk2⟩ := own_zin2 (ys := xs.take xs.length ++ [I.mk Bb (bareR row) cb (n)] ++ xs.drop (xs.length)) Own11.out (vsl_mid (Hz.out.grow G11) (own_row OwnB11.out rfl))
          have Fin := Lib.hid (And.intro hz hk2)
          clear hz hk2
          go_ret
          exact ⟨B, _, cap, rfl, Fin.out.1, by rw [Inv.out, List.drop_length]; simp [putZ, hN, zOf], Fin.out.2, G11⟩
        · have hd := src_drop Hok.out (Hz.out.grow G10) (show xs.length ≤ xs.length by omega)
          simp only [sliced, if_neg hc, Option.map_some, addr_add] at hd
          have Dr := Lib.hid hd
          clear hd
          go_wp2_with (at_builtin; refine wpList_append_src rfl _ _ rfl w.heap.size _ _ (xs.take xs.length ++ [I.mk Bb (bareR row) cb (n)]) rfl Own10.out _ (xs.drop (xs.length)) rfl ?src (by simp; omega) G10.size ?_; rotate_left; intro v11 w11 own11 gr11; have G11 : Grow w w11 := grow_own G10 gr11 Own10.out; have OwnB11 := Lib.hid (World.ownsRow.kept OwnB10.out gr11 (own_types OwnB10.out Own10.out (by decide))); have Own11 := Lib.hid own11; clear own11 gr11)
          case src => (go_simp; first | exact Dr.out | simpa using Dr.out | simpa [hc] using Dr.out)
          obtain ⟨B, cap, rfl, hz, hk2⟩ := own_zin2 (ys := xs.take xs.length ++ [I.mk Bb (bareR row) cb (n)] ++ xs.drop (xs.length)) Own11.out (vsl_mid (Hz.out.grow G11) (own_row OwnB11.out rfl))
          have Fin := Lib.hid (And.intro hz hk2)
          clear hz hk2
          go_ret
          exact ⟨B, _, cap, rfl, Fin.out.1, by rw [Inv.out, List.drop_length]; simp [putZ, hN, zOf], Fin.out.2, G11⟩
end Go.Proofs.YtigpbihjjadmlaaGreat

namespace Go.Proofs.YtigpbihjjadmlaaGreat
open Go.RowKit Go.Calm
set_option linter.unusedSimpArgs false
set_option linter.unusedVariables false

structure S where
  A : Option Addr
  xs : List I
  cap : Nat
instance : Inhabited S := ⟨⟨none, [], 0⟩⟩
def S.z (s : S) : List Z := s.xs.map zOf
def SIn (w : World) (A : Option Addr) (ss : List S) : Prop := ∀ i s, ss[i]? = some s → ∃ g o, A = some ⟨g, o, none⟩ ∧ w.cell? ⟨g, o + i, none⟩ = some (.slice s.A s.xs.length s.cap) ∧ ZIn w s.A s.xs
theorem SIn.grow {w w' : World} {A : Option Addr} {ss : List S} (h : SIn w A ss) (hg : Grow w w') : SIn w' A ss := fun i s hs => by
  obtain ⟨g, o, hA, a, b⟩ := h i s hs
  exact ⟨g, o, hA, hg.cell a, b.grow hg⟩
def S.ok (s : S) : Prop := s.xs.length ≤ 9223372036854775807 ∧ ∀ x ∈ s.xs, x.row.length ≤ 9223372036854775807

def fl (ss : List S) : List I := ss.flatMap S.xs
theorem SIn.vsl {w : World} {A : Option Addr} {ss : List S} (h : SIn w A ss) : ∀ x ∈ fl ss, VSl w x.A x.row := fun x hx => by
  obtain ⟨s, hs, hx⟩ := List.mem_flatMap.1 hx
  obtain ⟨i, hi, e⟩ := List.mem_iff_getElem.1 hs
  obtain ⟨_, _, _, _, hz⟩ := h i s (by rw [← e]; exact List.getElem?_eq_getElem hi)
  exact hz.vsl x hx
end Go.Proofs.YtigpbihjjadmlaaGreat

namespace Go.Proofs.YtigpbihjjadmlaaGreat
open Go.RowKit Go.Calm
set_option linter.unusedSimpArgs false
set_option linter.unusedVariables false

theorem addZ_bd {K : Int} : ∀ (l z : List Z) {M : Int}, 0 ≤ M → 0 ≤ K → bdZ M z → bdZ K l → bdZ (M + K * l.length) (addZ z l)
  | [], z, M, _, _, hz, _ => by simpa [addZ] using hz
  | x :: l, z, M, hM, hK, hz, hl => by
    have h1 := putZ_bd (r := x.1) (n := x.2) hz hM (hl x (by simp)).1 (hl x (by simp)).2
    have h2 := addZ_bd l (putZ z x.1 x.2) (M := M + K) (by omega) hK h1 (fun y hy => hl y (by simp [hy]))
    rw [addZ_cons]
    intro y hy
    have := h2 y hy
    rw [List.length_cons, Int.natCast_succ, Int.mul_add, Int.mul_one]
    omega
theorem setZ_bd {K : Int} {l : List Z} (hK : 0 ≤ K) (hl : bdZ K l) : bdZ (K * l.length) (setZ l) := fun y hy => by
  have := addZ_bd l [] (M := 0) (by omega) hK (fun x hx => by simp at hx) hl y hy
  omega
theorem setZ_snoc (l : List Z) (x : Z) : setZ (l ++ [x]) = putZ (setZ l) x.1 x.2 := by unfold setZ addZ; rw [List.foldl_append]; rfl
def Pl (l : List Z) : Prop := (∀ x ∈ l, x.1.length ≤ 1000 ∧ ∀ v ∈ x.1, RV v) ∧ bdZ 1000000 l
theorem Pl.snoc {l : List Z} {x : Z} (h : Pl l) (h1 : x.1.length ≤ 1000) (h2 : ∀ v ∈ x.1, RV v) (h3 : -1000000 ≤ x.2 ∧ x.2 ≤ 1000000) : Pl (l ++ [x]) := by
  refine ⟨fun y hy => ?_, fun y hy => ?_⟩
  · rcases List.mem_append.1 hy with hy | hy
    · exact h.1 y hy
    · simp at hy; subst hy; exact ⟨h1, h2⟩
  · rcases List.mem_append.1 hy with hy | hy
    · exact h.2 y hy
    · simp at hy; subst hy; exact h3
theorem Pl.nil : Pl [] := ⟨fun x hx => by simp at hx, fun x hx => by simp at hx⟩
structure PutSt (w wr : World) (t : Value) (l : List Z) : Prop where
  sl : ∃ (B : Option Addr) (ys : List I) (cap : Nat), t = .slice B ys.length cap ∧ ZIn wr B ys ∧ ys.map zOf = setZ l ∧ SlOk B ys.length cap
  grow : Grow w wr
  pl : Pl l
theorem PutSt.nil (w wr : World) (hg : Grow w wr) : PutSt w wr (.slice none 0 0) [] := ⟨⟨none, [], 0, rfl, zin_nil _ _, rfl, SlOk.nil⟩, hg, Pl.nil⟩
theorem PutSt.more {w wr wq : World} {t : Value} {l : List Z} (h : PutSt w wr t l) (hg : Grow wr wq) : PutSt w wq t l := by
  obtain ⟨⟨B, ys, cap, h1, h2, h3, h4⟩, h5, h6⟩ := h
  exact ⟨⟨B, ys, cap, h1, h2.grow hg, h3, h4⟩, h5.trans hg, h6⟩
theorem put_step {w wr : World} {t : Value} {l : List Z} (h : PutSt w wr t l) (row : List V) (Ar : Option Addr) (cr : Nat) (n : Int) (hx : VSl wr Ar row) (hl : row.length ≤ 1000) (hr : ∀ v ∈ row, RV v) (hn : -1000000 ≤ n ∧ n ≤ 1000000) (hlen : l.length ≤ 5000) :
    Calls Tryz.prog 28 #[t, .slice Ar row.length cr, .int .i64 n] wr fun en w' => ∃ v, en = .returned v ∧ PutSt w w' v (l ++ [(row, n)]) ∧ Grow wr w' := by
  obtain ⟨⟨B, ys, cap, rfl, hz, hm, hk⟩, hg, hp⟩ := h
  have hlen2 : ys.length ≤ 5000 := by
    have h1 := congrArg List.length hm
    have h2 := setZ_len l
    simp at h1
    omega
  have hrow : ∀ x ∈ ys, x.row.length ≤ 1000 := fun x hx => by
    have h1 : zOf x ∈ setZ l := by rw [← hm]; exact List.mem_map_of_mem hx
    obtain ⟨u, hu, e⟩ := setZ_mem h1
    have := (hp.1 u hu).1
    have e2 : x.row = bareR u.1 := e
    rw [e2]
    simpa [bareR] using this
  have hw : ∀ x ∈ ys, -1000000000000000 ≤ x.w ∧ x.w ≤ 1000000000000000 := fun x hx => by
    have h1 : zOf x ∈ setZ l := by rw [← hm]; exact List.mem_map_of_mem hx
    have h2 := setZ_bd (by omega) hp.2 _ h1
    simp only [zOf] at h2
    omega
  refine (put_any ys B cap row Ar cr n wr (by omega) hk hz hrow (fun x hx => by have := hw x hx; omega) hl hr hx (by omega)).mono ?_
  rintro en w' ⟨C, zs, cap2, rfl, hz2, hm2, hk2, hg2⟩
  exact ⟨_, rfl, ⟨⟨C, zs, cap2, rfl, hz2, by rw [hm2, hm, setZ_snoc], hk2⟩, hg.trans hg2, hp.snoc hl hr hn⟩, hg2⟩
end Go.Proofs.YtigpbihjjadmlaaGreat

namespace Go.Proofs.YtigpbihjjadmlaaGreat
open Go.RowKit Go.Calm
set_option linter.unusedSimpArgs false
set_option linter.unusedVariables false

structure In (w : World) (s : S) : Prop where
  z : ZIn w s.A s.xs
  sl : SlOk s.A s.xs.length s.cap
  ok : s.ok
theorem In.grow {w w' : World} {s : S} (h : In w s) (hg : Grow w w') : In w' s := ⟨h.z.grow hg, h.sl, h.ok⟩
def S.v (s : S) : Value := .slice s.A s.xs.length s.cap

theorem S.facts {s : S} (h : wrongZ s.z = 0) : s.xs.length ≤ 400 ∧ (∀ x ∈ s.xs, x.row.length ≤ 8) ∧ (∀ x ∈ s.xs, ∀ v ∈ x.row, RV v) ∧ ∀ x ∈ s.xs, -1000000 ≤ x.w ∧ x.w ≤ 1000000 := by
  have h := (wrongZ_zero _).1 h
  exact ⟨by simpa [S.z] using h.len, fun x hx => (h.row (zOf x) (List.mem_map_of_mem hx)).1, fun x hx => (h.row (zOf x) (List.mem_map_of_mem hx)).2, fun x hx => (h.w (zOf x) (List.mem_map_of_mem hx)).2⟩
theorem DV.kept {w w' : World} {base n g : Nat} {v : Value} {xs : List Value} {r : List V} (h : DV w g r) (hown : w.ownsRow base 42 2 v n xs) (hg : w.grownBy w' v.ownBlock) : DV w' g r := by
  have h1 := hg.block g h.lt (fun e => by
    rcases hown.2 with ⟨rfl, _⟩ | ⟨g', cap, cur, rfl, _, hgb, _⟩
    · simp [Value.ownBlock] at e
    · simp [Value.ownBlock] at e
      subst e
      have h2 : w.heap[g]? = some (.cells (flatW r).toArray 61 (0, 0)) := h
      rw [hgb] at h2
      simp at h2)
  exact h1.trans h
end Go.Proofs.YtigpbihjjadmlaaGreat

namespace Go.Proofs.YtigpbihjjadmlaaGreat
open Go.RowKit Go.Calm
set_option linter.unusedSimpArgs false
set_option linter.unusedVariables false

end Go.Proofs.YtigpbihjjadmlaaGreat
