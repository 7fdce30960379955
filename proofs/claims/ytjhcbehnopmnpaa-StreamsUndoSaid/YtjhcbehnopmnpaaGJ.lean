/-
  Joined texts of this claim: Zs7, Zs11, Zs12, Zs13, Zs14, Zs16, Zs15, Zs19, Zs20. What each proves its own head says; no condition beside those that each theorem names.
-/
import Derived.Test.YtjhcbehnopmnpaaGH
import Derived.Deep.DeepCutAuto
import Derived.Laws.AppendOwnNone
import Derived.Test.YtjhcbehnopmnpaaGI
import Derived.Lib.AppendZeros
/-
  The reference's Row, big, Wrong.
-/
namespace Go.Proofs.Ytjhcbehnopmnpaa
open Go.RowKit Go.Calm
set_option linter.unusedSimpArgs false
set_option linter.unusedVariables false

set_option maxRecDepth 100000 in
theorem big_any (n : Int) (w : World) : Calls Try.prog 117 #[.int .i64 n] w fun e w' => e = .returned (.bool (bigW n)) ∧ w = w' := by
  go_enter Try.func117, Try.ntmps117
  by_cases h1 : n < -1000000
  · have d1 : decide (n < -1000000) = true := decide_eq_true h1
    go_wp2
    go_ret
    refine ret_bool ?_ rfl
    simp [bigW, d1]
  · have d1 : decide (n < -1000000) = false := decide_eq_false h1
    by_cases h2 : 1000000 < n
    · have d2 : decide (1000000 < n) = true := decide_eq_true h2
      go_wp2
      go_ret
      refine ret_bool ?_ rfl
      simp [bigW, d2]
    · have d2 : decide (1000000 < n) = false := decide_eq_false h2
      go_wp2
      go_ret
      refine ret_bool ?_ rfl
      simp [bigW, d1, d2]

set_option maxRecDepth 100000 in
set_option maxHeartbeats 2000000 in
theorem rrow_any (row : List V) (A : Option Addr) (c : Nat) (w : World) (hlen : row.length ≤ 9223372036854775807) (hx : VSl w A row) (R : Int) (hR : rowE row = R) :
    Calls Try.prog 71 #[.slice A row.length c] w fun en w' => en = .returned (.int .i64 R) ∧ Grow w w' := by
  have HR := Lib.hid hR
  have Hx := Lib.hid hx
  clear hx hR
  go_enter Try.func71, Try.ntmps71
  by_cases h8 : 8 < row.length
  · have d8 : decide ((8 : Int) < (row.length : Int)) = true := by simp; omega
    go_wp2
    go_ret
    exact ret_int (by rw [← HR.out]; unfold rowE; rw [if_pos h8]) (Grow.refl _)
  · have d8 : decide ((8 : Int) < (row.length : Int)) = false := by simp; omega
    have inv0 : firstE (row.drop 0) = R := by rw [← HR.out]; unfold rowE; rw [if_neg h8, List.drop_zero]
    have Inv0 := Lib.hid inv0
    clear inv0
    go_wp2
    go_loopw [11] (fun i wr => ∃ k : Nat, k ≤ row.length ∧ i = .int .i64 k ∧ firstE (row.drop k) = R ∧ Grow w wr) (fun i _ => row.length - (intOf i).toNat)
    case atStart => exact ⟨0, Nat.zero_le _, rfl, Inv0.out, Grow.refl _⟩
    case round =>
      obtain ⟨k, hk, rfl, hinv, hg⟩ := hrel
      have Inv := Lib.hid hinv
      clear hinv
      by_cases hlt : k < row.length
      · obtain ⟨x, hxk⟩ : ∃ x, row[k]? = some x := ⟨_, List.getElem?_eq_getElem hlt⟩
        obtain ⟨gx, ox, rfl, c1, c2, c3⟩ := (Hx.out.grow hg) k x hxk
        have inv2 := (firstE_at hxk).symm.trans Inv.out
        have Inv2 := Lib.hid inv2
        clear inv2 hxk
        by_cases hw : wrongV x = 0
        · have dw : (wrongV x != 0) = false := by simpa using hw
          go_wp2_with (go_at_call 42; ((with_reducible refine (rwrong_any x _).mono ?_); rintro e w2 ⟨rfl, hg2⟩; have G2 := (hg.al _).trans hg2))
          go_roundw
          case rel => exact ⟨k + 1, by omega, by go_num, by have := Inv2.out; rw [if_neg (by simpa using hw)] at this; exact this, G2⟩
          case measure => simp [intOf]; omega
        · have dw : (wrongV x != 0) = true := by simpa using hw
          go_wp2_with (go_at_call 42; ((with_reducible refine (rwrong_any x _).mono ?_); rintro e w2 ⟨rfl, hg2⟩; have G2 := (hg.al _).trans hg2))
          go_ret
          exact ret_int (by have := Inv2.out; rw [if_pos hw] at this; exact this) G2
      · obtain rfl : k = row.length := by omega
        have fin : R = 0 := by have := Inv.out; rw [List.drop_length] at this; exact this.symm
        go_wp2
        go_ret
        exact ret_int fin.symm hg

theorem badP_ord {y r : List V} (hy : ∀ v ∈ y, RV v) (hr : ∀ v ∈ r, RV v) : decide (0 ≤ rowsG cmpV y r) = (rowsG ordV y r != -1) := by
  rw [rows_cmp_ord _ _ hy hr]
  rcases rowsG_range ordV ordV_range y r with h | h | h <;> rw [h] <;> decide
set_option maxRecDepth 100000 in
set_option maxHeartbeats 8000000 in
theorem rwrongz_any (xs : List I) (A : Option Addr) (c : Nat) (w : World) (hlen : xs.length ≤ 9223372036854775807) (hz : ZIn w A xs) (hl : ∀ x ∈ xs, x.row.length ≤ 9223372036854775807) (R : Int) (hR : wrongZ (xs.map zOf) = R) :
    Calls Try.prog 67 #[.slice A xs.length c] w fun en w' => en = .returned (.int .i64 R) ∧ Grow w w' := by
  have HR := Lib.hid hR
  have Hz := Lib.hid hz
  have Hl := Lib.hid hl
  clear hz hR hl
  go_enter Try.func67, Try.ntmps67
  by_cases h8 : 400 < xs.length
  · have d8 : decide ((400 : Int) < (xs.length : Int)) = true := by simp; omega
    go_wp2
    go_ret
    exact ret_int (by rw [← HR.out]; unfold wrongZ; rw [if_pos (by simpa using h8)]) (Grow.refl _)
  · have d8 : decide ((400 : Int) < (xs.length : Int)) = false := by simp; omega
    have inv0 : wgo (prevR xs 0) ((xs.drop 0).map zOf) = R := by rw [← HR.out]; unfold wrongZ; rw [if_neg (by simpa using h8), List.drop_zero]; rfl
    have Inv0 := Lib.hid inv0
    clear inv0
    go_wp2
    go_loopw [10] (fun i wr => ∃ k : Nat, k ≤ xs.length ∧ i = .int .i64 k ∧ wgo (prevR xs k) ((xs.drop k).map zOf) = R ∧ (∀ y, prevR xs k = some y → ∀ v ∈ y, RV v) ∧ Grow w wr) (fun i _ => xs.length - (intOf i).toNat)
    case atStart => exact ⟨0, Nat.zero_le _, rfl, Inv0.out, fun y hy => by simp [prevR] at hy, Grow.refl _⟩
    case round =>
      obtain ⟨k, hk, rfl, hinv, hpr, hg⟩ := hrel
      have Inv := Lib.hid hinv
      have Hpr := Lib.hid hpr
      clear hinv hpr
      by_cases hlt : k < xs.length
      · obtain ⟨x, hxk⟩ : ∃ x, xs[k]? = some x := ⟨_, List.getElem?_eq_getElem hlt⟩
        obtain ⟨gx, ox, rfl, c1, c2, hxv⟩ := (Hz.out.grow hg) k x hxk
        have hlx := Hl.out x (List.mem_of_getElem? hxk)
        have inv2 := (wgo_at hxk).symm.trans Inv.out
        have Hxk := Lib.hid hxk
        have Hxv := Lib.hid hxv
        have cb := fun W (h : Grow wr W) (R : Int) (hR : rowE x.row = R) => rrow_any x.row x.A x.cap W hlx (Hxv.out.grow h) R hR
        obtain ⟨rx, hrx⟩ : ∃ r, rowE x.row = r := ⟨_, rfl⟩
        have hnx : prevR xs (k + 1) = some x.row := by unfold prevR; rw [if_neg (by omega), Nat.add_sub_cancel, hxk]; rfl
        have Hnx := Lib.hid hnx
        rw [hrx] at inv2
        have Inv2 := Lib.hid inv2
        clear inv2 hxk hxv hnx
        by_cases hw : rx = 0
        · have dw : (rx != 0) = false := by simpa using hw
          rw [if_neg (by simpa using hw)] at Inv2
          have hrv := ((rowE_zero x.row).1 (hrx.trans hw)).2
          have Hrv := Lib.hid hrv
          clear hrv
          go_upto_region 9 with (go_at_call 71; ((with_reducible refine (cb _ (Grow.refl _) rx hrx).mono ?_); rintro e w2 ⟨rfl, G2⟩))
          have C1 := Lib.hid (G2.cell c1)
          have c2' := G2.cell c2
          by_cases h0 : x.w = 0
          · have d0 : (x.w == 0) = true := by simpa using h0
            go_wp2
            go_ret
            exact ret_int (by have := Inv2.out; rw [if_pos (.inl h0)] at this; exact this) (hg.trans G2)
          · have d0 : (x.w == 0) = false := by simpa using h0
            by_cases h1 : bigW x.w = true
            · go_wp2_with (go_at_call 117; ((with_reducible refine (big_any _ _).mono ?_); rintro e w3 ⟨rfl, rfl⟩; rw [h1]))
              go_ret
              exact ret_int (by have := Inv2.out; rw [if_pos (.inr h1)] at this; exact this) (hg.trans G2)
            · have h1' : bigW x.w = false := by simpa using h1
              have inv3 := Inv2.out
              rw [if_neg (by simp [h0, h1'])] at inv3
              have Inv3 := Lib.hid inv3
              clear inv3 Inv2
              go_upto_region 11 with (go_at_call 117; ((with_reducible refine (big_any _ _).mono ?_); rintro e w3 ⟨rfl, rfl⟩; rw [h1']))
              cases k with
              | zero =>
                have e : R = wgo (prevR xs 1) ((xs.drop 1).map zOf) := by have := Inv3.out; simpa [prevR, badP] using this.symm
                have E := Lib.hid e
                clear e
                apply wp_region_calm 17 (by kernel_rfl) (by kernel_rfl)
                case h' =>
                  intro Q0 hQ0
                  simp only [List.take_succ_cons, List.take_zero]
                  repeat (
                    first
                      | (apply calm_p rfl; case h1 => (intro w1 hw1 hF K hK; go_simp; first | exact hK _ (Grow.refl _) | fail))
                      | (apply calm_y rfl rfl rfl; case h1 => (intro w1 hw1 hF K hK; go_simp; first | exact hK _ (Grow.refl _) | fail))
                      | apply calm_n rfl rfl rfl rfl
                    intro K hK
                    go_simp
                    apply hK
                    clear hK K)
                  refine calm_nil ?_
                  intro w1 hw1 hF
                  apply hQ0
                  clear hQ0
                  simp only [List.drop_succ_cons, List.drop_zero]
                  clear hF
                  go_wp2
                  go_roundw
                  case rel => exact ⟨1, by omega, rfl, E.out.symm, fun y hy => by rw [Hnx.out] at hy; cases hy; exact Hrv.out, hg.trans (G2.trans hw1)⟩
                  case measure => simp [intOf]; omega
                case hp' => trivial
              | succ j =>
                obtain ⟨y, hyk⟩ : ∃ y, xs[j]? = some y := ⟨_, List.getElem?_eq_getElem (by omega)⟩
                obtain ⟨gy, oy, ey, cy1, cy2, hyv⟩ := (Hz.out.grow hg) j y hyk
                cases ey
                have hly := Hl.out y (List.mem_of_getElem? hyk)
                obtain ⟨cr, hcr⟩ : ∃ r, rowsG ordV y.row x.row = r := ⟨_, rfl⟩
                have cc := fun W (h : Grow wr W) => rrows_any y.row x.row y.A x.A y.cap x.cap W hly hlx (hyv.grow h) (Hxv.out.grow h)
                rw [hcr] at cc
                have inv4 := Inv3.out
                have hpy : prevR xs (j + 1) = some y.row := by unfold prevR; rw [if_neg (by omega), Nat.add_sub_cancel, hyk]; rfl
                rw [show badP (prevR xs (j + 1)) x.row = (cr != -1) by rw [hpy, ← hcr]; exact badP_ord (Hpr.out _ hpy) Hrv.out] at inv4
                have Inv4 := Lib.hid inv4
                have Hy := Lib.hid (show wr.cell? ⟨gx, ox + j * 2, none⟩ = some (.slice y.A y.row.length y.cap) from cy1)
                have dj : decide ((0 : Int) < (j : Int) + 1) = true := decide_eq_true (by omega)
                have p0 : (0 : Int) ≤ (j : Int) + 1 := by omega
                have e0 : ((j : Int) + 1).toNat = j + 1 := by omega
                have jz : (j : Int) + 1 < (xs.length : Int) := by omega
                have hwp : IntKind.i64.wrap (j : Int) = (j : Int) := by rw [IntKind.wrap_i64]; omega
                have jz1 : (j : Int) < (xs.length : Int) := by omega
                have jz3 : j < xs.length := by omega
                clear inv4 Inv3 hyk cy1 cy2 hyv hcr c1 c2 hpy
                apply wp_region_calm 17 (by kernel_rfl) (by kernel_rfl)
                case h' =>
                  intro Q0 hQ0
                  simp only [List.take_succ_cons, List.take_zero]
                  repeat (
                    first
                      | (apply calm_p rfl; case h1 => (intro w1 hw1 hF K hK; have cx1 := hw1.cell C1.out; have cy1 := (G2.trans hw1).cell Hy.out; go_simp; first | exact hK _ (Grow.refl _) | (go_at_call 27; ((with_reducible refine (cc _ (G2.trans hw1)).mono ?_); rintro e w' ⟨rfl, hg⟩; exact ⟨_, rfl, hK _ hg⟩))))
                      | (apply calm_y rfl rfl rfl; case h1 => (intro w1 hw1 hF K hK; have cx1 := hw1.cell C1.out; have cy1 := (G2.trans hw1).cell Hy.out; go_simp; first | exact hK _ (Grow.refl _) | (go_at_call 27; ((with_reducible refine (cc _ (G2.trans hw1)).mono ?_); rintro e w' ⟨rfl, hg⟩; exact ⟨_, rfl, hK _ hg⟩))))
                      | apply calm_n rfl rfl rfl rfl
                    intro K hK
                    go_simp
                    apply hK
                    clear hK K)
                  refine calm_nil ?_
                  intro w1 hw1 hF
                  apply hQ0
                  clear hQ0
                  simp only [List.drop_succ_cons, List.drop_zero]
                  clear hF
                  by_cases hc : cr = -1
                  · have dc : (cr != -1) = false := by simpa using hc
                    simp only [dc]
                    go_wp2
                    go_roundw
                    case rel => exact ⟨j + 2, by omega, by go_num, by have := Inv4.out; rw [if_neg (by simp [dc])] at this; exact this, fun y hy => by rw [Hnx.out] at hy; cases hy; exact Hrv.out, hg.trans (G2.trans hw1)⟩
                    case measure => simp [intOf]; omega
                  · have dc : (cr != -1) = true := by simpa using hc
                    simp only [dc]
                    go_wp2
                    go_ret
                    exact ret_int (by have := Inv4.out; rw [if_pos dc] at this; exact this) (hg.trans (G2.trans hw1))
                case hp' => trivial
        · have dw : (rx != 0) = true := by simpa using hw
          go_wp2_with (go_at_call 71; ((with_reducible refine (cb _ (Grow.refl _) rx hrx).mono ?_); rintro e w2 ⟨rfl, hg2⟩))
          go_ret
          exact ret_int (by have := Inv2.out; rw [if_pos hw] at this; exact this) (hg.trans hg2)
      · obtain rfl : k = xs.length := by omega
        have fin : R = 0 := by have := Inv.out; rw [List.drop_length] at this; exact this.symm
        go_wp2
        go_ret
        exact ret_int fin.symm hg
end Go.Proofs.Ytjhcbehnopmnpaa

/-
  The reference's Bare, Put.
-/
namespace Go.Proofs.Ytjhcbehnopmnpaa
open Go.RowKit Go.Calm
set_option linter.unusedSimpArgs false
set_option linter.unusedVariables false

theorem flatW_append : ∀ xs ys : List V, flatW (xs ++ ys) = flatW xs ++ flatW ys
  | [], ys => rfl
  | x :: xs, ys => by simp [flatW, flatW_append xs ys]
theorem flatW_one : ∀ xs : List V, ∀ u ∈ flatW xs, u.oneCell' = true
  | [], u, hu => by simp [flatW] at hu
  | x :: xs, u, hu => by
    simp only [flatW, List.mem_cons] at hu
    rcases hu with rfl | rfl | rfl | hu
    · rfl
    · rfl
    · rfl
    · exact flatW_one xs u hu
theorem flatI_one : ∀ xs : List I, ∀ u ∈ flatI xs, u.oneCell' = true
  | [], u, hu => by simp [flatI] at hu
  | x :: xs, u, hu => by
    simp only [flatI, List.mem_cons] at hu
    rcases hu with rfl | rfl | hu
    · rfl
    · rfl
    · exact flatI_one xs u hu
theorem own_vsl {w : World} {base : Nat} {v : Value} {ys : List V} (h : w.ownsRow base 29 3 v ys.length (flatW ys)) : ∃ (B : Option Addr) (cap : Nat), v = .slice B ys.length cap ∧ VSl w B ys := by
  obtain ⟨_, h⟩ := h
  rcases h with ⟨rfl, h0⟩ | ⟨gb, cap, cur, rfl, hB, hgb, hle, hmx, hcs, htk⟩
  · have : ys = [] := List.length_eq_zero_iff.1 h0
    subst this
    exact ⟨none, 0, rfl, fun i x hx => by simp at hx⟩
  · have hb : Blk w gb 29 cur := hgb
    have key : ∀ i v, (flatW ys)[i]? = some v → w.cell? ⟨gb, i, none⟩ = some v := fun i v hv => by
      rw [← htk, List.getElem?_take] at hv
      split at hv
      · rw [hb.cell]; simpa using hv
      · cases hv
    refine ⟨some ⟨gb, 0, none⟩, cap, rfl, fun i x hx => ⟨gb, 0, rfl, ?_⟩⟩
    obtain ⟨a, b, c⟩ := flatW_get ys i x hx
    exact ⟨by rw [Nat.zero_add]; exact key _ _ a, by rw [Nat.zero_add]; exact key _ _ b, by rw [Nat.zero_add]; exact key _ _ c⟩
theorem own_zin {w : World} {base : Nat} {v : Value} {ys : List I} (h : w.ownsRow base 71 2 v ys.length (flatI ys)) (hv : ∀ y ∈ ys, VSl w y.A y.row) : ∃ (B : Option Addr) (cap : Nat), v = .slice B ys.length cap ∧ ZIn w B ys := by
  obtain ⟨_, h⟩ := h
  rcases h with ⟨rfl, h0⟩ | ⟨gb, cap, cur, rfl, hB, hgb, hle, hmx, hcs, htk⟩
  · have : ys = [] := List.length_eq_zero_iff.1 h0
    subst this
    exact ⟨none, 0, rfl, fun i x hx => by simp at hx⟩
  · have hb : Blk w gb 71 cur := hgb
    have key : ∀ i v, (flatI ys)[i]? = some v → w.cell? ⟨gb, i, none⟩ = some v := fun i v hv => by
      rw [← htk, List.getElem?_take] at hv
      split at hv
      · rw [hb.cell]; simpa using hv
      · cases hv
    refine ⟨some ⟨gb, 0, none⟩, cap, rfl, fun i x hx => ⟨gb, 0, rfl, ?_, ?_, hv x (List.mem_of_getElem? hx)⟩⟩
    · rw [Nat.zero_add]; exact key _ _ (flatI_get ys i x hx).1
    · rw [Nat.zero_add]; exact key _ _ (flatI_get ys i x hx).2
theorem own_types {w : World} {b1 b2 n1 n2 s1 s2 : Nat} {e1 e2 : TypeId} {v1 v2 : Value} {x1 x2 : List Value} (h1 : w.ownsRow b1 e1 s1 v1 n1 x1) (h2 : w.ownsRow b2 e2 s2 v2 n2 x2) (hne : e1 ≠ e2) : v1.ownBlock = none ∨ v1.ownBlock ≠ v2.ownBlock := by
  rcases h1.2 with ⟨rfl, _⟩ | ⟨g, cap, cur, rfl, hB, hgb, _⟩
  · exact .inl rfl
  · right
    rcases h2.2 with ⟨rfl, _⟩ | ⟨g', cap', cur', rfl, hB', hgb', _⟩
    · simp [Value.ownBlock]
    · intro e
      simp [Value.ownBlock] at e
      subst e
      rw [hgb] at hgb'
      simp at hgb'
      exact hne hgb'.2
theorem info_val2' : ∃ ti, Try.prog.info? 29 = some ti ∧ ti.zero = some (.agg #[.int .i64 0, .int .i64 0, .string ⟨#[]⟩]) ∧ ti.size = 3 ∧ ti.bytes = 32 := by
  have h := info_val2
  cases hi : Try.prog.info? 29 with
  | none => rw [hi] at h; simp at h
  | some i => rw [hi] at h; simp at h; exact ⟨i, rfl, h⟩
/-- cells of rows that lie in memory, from one on -/
theorem zin_news {w : World} {g o : Nat} {xs : List I} (h : ZIn w (some ⟨g, o, none⟩) xs) (k : Nat) : ∀ j u, (flatI (xs.drop k))[j]? = some u → w.cell? ((⟨g, o + k * 2, none⟩ : Addr).add j) = some u := fun j u hj => by
  have hlt : j < (flatI (xs.drop k)).length := (List.getElem?_eq_some_iff.1 hj).1
  rw [flatI_len] at hlt
  have hi : j / 2 < (xs.drop k).length := by omega
  obtain ⟨x, hx⟩ : ∃ x, (xs.drop k)[j / 2]? = some x := ⟨_, List.getElem?_eq_getElem hi⟩
  obtain ⟨a, b⟩ := flatI_get _ _ _ hx
  rw [List.getElem?_drop] at hx
  obtain ⟨g', o', e, c1, c2, _⟩ := h _ _ hx
  cases e
  have hA : (⟨g, o + k * 2, none⟩ : Addr).add j = ⟨g, o + k * 2 + j, none⟩ := by
    unfold Addr.add
    split
    · rename_i h0; subst h0; rfl
    · rfl
  rw [hA]
  rcases Nat.mod_two_eq_zero_or_one j with h2 | h2
  · rw [show j / 2 * 2 = j by omega] at a
    rw [a] at hj; cases hj
    rw [show o + k * 2 + j = o + (k + j / 2) * 2 by omega]; exact c1
  · rw [show j / 2 * 2 + 1 = j by omega] at b
    rw [b] at hj; cases hj
    rw [show o + k * 2 + j = o + (k + j / 2) * 2 + 1 by omega]; exact c2
theorem zin_take {w : World} {g o : Nat} {xs : List I} (h : ZIn w (some ⟨g, o, none⟩) xs) (k : Nat) : ∀ j u, (flatI (xs.take k))[j]? = some u → w.cell? ((⟨g, o, none⟩ : Addr).add j) = some u := fun j u hj => by
  have := zin_news h 0 j u
  rw [Nat.zero_mul, Nat.add_zero, List.drop_zero] at this
  refine this ?_
  have e := flatI_append (xs.take k) (xs.drop k)
  rw [List.take_append_drop] at e
  rw [e, List.getElem?_append_left (List.getElem?_eq_some_iff.1 hj).1]
  exact hj

set_option maxRecDepth 100000 in
set_option maxHeartbeats 4000000 in
theorem rbare_row (row : List V) (A : Option Addr) (c : Nat) (w : World) (hlen : row.length ≤ 1000) (hrv : ∀ v ∈ row, RV v) (hx : VSl w A row) :
    Calls Try.prog 152 #[.slice A row.length c] w fun en w' => ∃ (B : Option Addr) (cap : Nat), en = .returned (.slice B row.length cap) ∧ w'.ownsRow w.heap.size 29 3 (.slice B row.length cap) row.length (flatW (bareR row)) ∧ Grow w w' := by
  have Hx := Lib.hid hx
  have Hrv := Lib.hid hrv
  have Ti := Lib.hid info_val2'
  clear hx hrv
  go_enter Try.func152, Try.ntmps152
  go_wp2
  go_loopw [3, 8] (fun t i wr => ∃ k : Nat, k ≤ row.length ∧ i = .int .i64 k ∧ wr.ownsRow w.heap.size 29 3 t k (flatW ((row.take k).map bare)) ∧ Grow w wr) (fun _ i _ => row.length - (intOf i).toNat)
  case atStart => exact ⟨0, Nat.zero_le _, rfl, World.ownsRow_nil _ _ _ _, Grow.refl w⟩
  case round =>
    obtain ⟨k, hk, rfl, hown, hg⟩ := hrel
    have Own := Lib.hid hown
    clear hown
    by_cases hlt : k < row.length
    · obtain ⟨x, hxk⟩ : ∃ x, row[k]? = some x := ⟨_, List.getElem?_eq_getElem hlt⟩
      obtain ⟨gx, ox, rfl, c1, c2, c3⟩ := (Hx.out.grow hg) k x hxk
      have hxr := Hrv.out x (List.mem_of_getElem? hxk)
      have e : (row.take (k + 1)).map bare = (row.take k).map bare ++ [bare x] := by
        have hx' := (List.getElem?_eq_some_iff.1 hxk).2
        rw [List.take_succ_eq_append_getElem hlt, hx']; simp
      have E := Lib.hid e
      obtain ⟨ti, hti, hz0, hz1, hz2⟩ := Ti.out
      have hl2 := Own.out.lt
      have HL2 := Lib.hid hl2
      clear hxk e hl2
      go_wp2_with (first
        | (go_at_call 43; ((with_reducible refine (rbare_any x hxr _).mono ?_); rintro e w2 ⟨rfl, hg2⟩; have Own2 := Lib.hid (own_grow Own.out (((Grow.refl wr).al _).trans hg2)); have G2 := (hg.al _).trans hg2; clear hg2))
        | (at_builtin; refine wpList_append_own _ rfl _ _ 22 rfl w.heap.size 29 ti (.agg #[.int .i64 0, .int .i64 0, .string ⟨#[]⟩]) 3 32 Try.underlying22 hti hz0 hz1 hz2 rfl (by decide) _ _ _ rfl (Own2.out.alloc _) ⟨w2.heap.size, 0, none⟩ 1 1 (flatW [bare x]) rfl rfl ?c1 (flatW_one _) ?c3 ?c4 ?c5 ?_))
      case c1 =>
        intro j u hj
        match j, hj with
        | 0, hj => simp [flatW] at hj; subst hj; simp [Addr.add]
        | 1, hj => simp [flatW] at hj; subst hj; simp [Addr.add]
        | 2, hj => simp [flatW] at hj; subst hj; simp [Addr.add]
      case c3 => unfold maxLen; omega
      case c4 => omega
      case c5 => have := G2.size; simp; omega
      · intro v' w7 hown' hgrow _
        have hg7 : Grow w w7 := Grow.own (G2.al _) hgrow (fun i hi => (HL2.out i hi).1)
        clear hgrow
        go_wp2
        go_roundw
        case rel => exact ⟨k + 1, by omega, by go_num, by rw [E.out, flatW_append]; simpa using hown', hg7⟩
        case measure => simp [intOf]; omega
    · obtain rfl : k = row.length := by omega
      have hfin : ∃ (B : Option Addr) (cap : Nat), u3 = .slice B row.length cap := by
        have h := Own.out
        rw [List.take_length] at h
        obtain ⟨B, cap, e, _⟩ := own_vsl (ys := row.map bare) (by simpa using h)
        exact ⟨B, cap, by simpa using e⟩
      obtain ⟨B, cap, rfl⟩ := hfin
      go_wp2
      go_ret
      exact ⟨B, cap, rfl, by have h := Own.out; rw [List.take_length] at h; exact h, hg⟩
end Go.Proofs.Ytjhcbehnopmnpaa

/-
  The reference's Put: so much of a row more.
-/
namespace Go.Proofs.Ytjhcbehnopmnpaa
open Go.RowKit Go.Calm
set_option linter.unusedSimpArgs false
set_option linter.unusedVariables false

theorem addr_add (g o j : Nat) : (⟨g, o, none⟩ : Addr).add j = ⟨g, o + j, none⟩ := by
  unfold Addr.add
  split
  · rename_i h0; subst h0; rfl
  · rfl
/-- rows to be taken over into a row of the call's own -/
def Src (w : World) (src : Value) (L : List I) : Prop := (src = .slice none 0 0 ∧ L = []) ∨ ∃ ad c, src = .slice (some ad) L.length c ∧ ∀ j u, (flatI L)[j]? = some u → w.cell? (ad.add j) = some u
theorem Src.grow {w w' : World} {src : Value} {L : List I} (h : Src w src L) (hg : Grow w w') : Src w' src L := by
  rcases h with h | ⟨ad, c, e, h⟩
  · exact .inl h
  · exact .inr ⟨ad, c, e, fun j u hj => hg.cell (h j u hj)⟩
theorem wpList_append_src {w : World} {ops : Array Oper} {rest : List Oper} {o : Oper} {a : Act} {Q : Exit → Act → World → Prop} (hgd : o.guard = none) (s x : Operand)
    (ho : o.op = .call { callee := .builtin .append, args := #[s, x], argTypes := #[62, 62] })
    (base : Nat) (v : Value) (n : Nat) (xs : List I) (hs : a.eval s = v) (hown : w.ownsRow base 71 2 v n (flatI xs)) (src : Value) (L : List I) (hx : a.eval x = src) (hsrc : Src w src L) (hB : n + L.length ≤ 100000) (hbase : base ≤ w.heap.size)
    (h : ∀ v' w', w'.ownsRow base 71 2 v' (n + L.length) (flatI (xs ++ L)) → w.grownBy w' v.ownBlock → wpList Try.prog ops Q rest (a.put o.dst v') w') : wpList Try.prog ops Q (o :: rest) a w := by
  obtain ⟨ti, hti, hz0, hz1, hz2⟩ := info_zrow'
  rcases hsrc with ⟨rfl, rfl⟩ | ⟨ad, c, rfl, hc⟩
  · refine wpList_append_own_none hgd s x _ ho base 71 ti 2 Try.underlying62 hti v n (flatI xs) hs hown hx ?_
    exact h v w (by simpa using hown) ⟨rfl, rfl, rfl, Nat.le_refl _, fun _ _ _ => rfl⟩
  · refine wpList_append_own _ hgd s x _ ho base 71 ti (.agg #[.slice none 0 0, .int .i64 0]) 2 32 Try.underlying62 hti hz0 hz1 hz2 rfl (by decide) v n (flatI xs) hs hown ad L.length c (flatI L) hx (by rw [flatI_len]) hc (flatI_one _) (by unfold maxLen; omega) (by omega) hbase ?_
    intro v' w' h1 h2 _
    exact h v' w' (by rw [flatI_append]; exact h1) h2
theorem src_take {w : World} {A : Option Addr} {xs : List I} {c k : Nat} (h : SlOk A xs.length c) (hz : ZIn w A xs) (hk : k ≤ xs.length) : Src w (.slice A k c) (xs.take k) := by
  obtain ⟨h1, h2⟩ := h
  cases A with
  | none =>
    have := h2 rfl
    obtain rfl : k = 0 := by omega
    exact .inl ⟨by rw [this], by simp⟩
  | some ad =>
    refine .inr ⟨ad, c, by rw [List.length_take, Nat.min_eq_left hk], ?_⟩
    cases xs with
    | nil => intro j u hj; simp [flatI] at hj
    | cons x l =>
      obtain ⟨g, o, e, _⟩ := hz 0 x rfl
      cases e
      exact zin_take hz k
theorem src_drop {w : World} {A : Option Addr} {xs : List I} {c k : Nat} (h : SlOk A xs.length c) (hz : ZIn w A xs) (hk : k ≤ xs.length) : Src w (sliced A k xs.length c 2) (xs.drop k) := by
  obtain ⟨h1, h2⟩ := h
  cases A with
  | none =>
    have := h2 rfl
    obtain rfl : k = 0 := by omega
    obtain h0 : xs.length = 0 := by omega
    exact .inl ⟨by simp [sliced, h0, this], by simpa using h0⟩
  | some ad =>
    by_cases hn : k < xs.length
    · obtain ⟨g, o, e, _⟩ := hz k _ (List.getElem?_eq_getElem hn)
      cases e
      refine .inr ⟨⟨g, o + k * 2, none⟩, c - k, ?_, zin_news hz k⟩
      unfold sliced
      rw [if_neg (by omega), Option.map_some, addr_add, List.length_drop]
    · have e : xs.length = k := by omega
      refine .inr ⟨if c = k then ad else ad.add (k * 2), c - k, ?_, fun j u hj => ?_⟩
      · unfold sliced; split <;> simp
      · rw [← e, List.drop_length] at hj
        simp [flatI] at hj
theorem own_zin' {w : World} {base : Nat} {v : Value} {ys : List I} (h : w.ownsRow base 71 2 v ys.length (flatI ys)) (hv : ∀ y ∈ ys, VSl w y.A y.row) : ∃ (B : Option Addr) (cap : Nat), v = .slice B ys.length cap ∧ ZIn w B ys ∧ SlOk B ys.length cap := by
  obtain ⟨B, cap, rfl, hz⟩ := own_zin h hv
  refine ⟨B, cap, rfl, hz, ?_⟩
  obtain ⟨_, h⟩ := h
  rcases h with ⟨e, h0⟩ | ⟨gb, cap', cur, e, hB, hgb, hle, hmx, hcs, htk⟩
  · simp at e
    exact ⟨by omega, fun _ => e.2.2⟩
  · simp at e
    obtain ⟨rfl, rfl⟩ := e
    exact ⟨hle, fun h => by cases h⟩
theorem putZ_at {xs : List I} {k : Nat} {x : I} (r : List V) (n : Int) (h : xs[k]? = some x) : putZ ((xs.drop k).map zOf) r n = if ordR x.row r < 0 then zOf x :: putZ ((xs.drop (k + 1)).map zOf) r n else if ordR x.row r = 0 then (if n + x.w ≠ 0 then (bareR r, n + x.w) :: (xs.drop (k + 1)).map zOf else (xs.drop (k + 1)).map zOf) else (if n ≠ 0 then (bareR r, n) :: (xs.drop k).map zOf else (xs.drop k).map zOf) := by
  obtain ⟨h1, e1⟩ := List.getElem?_eq_some_iff.1 h
  rw [List.drop_eq_getElem_cons h1, e1]; rfl
theorem putZ_step {xs : List I} {k : Nat} {x : I} {r : List V} {n : Int} (h : xs[k]? = some x) (hr : ordR x.row r < 0) (hi : putZ (xs.map zOf) r n = (xs.take k).map zOf ++ putZ ((xs.drop k).map zOf) r n) : putZ (xs.map zOf) r n = (xs.take (k + 1)).map zOf ++ putZ ((xs.drop (k + 1)).map zOf) r n := by
  obtain ⟨h1, e1⟩ := List.getElem?_eq_some_iff.1 h
  rw [hi, putZ_at r n h, if_pos hr, List.take_succ_eq_append_getElem h1, e1]; simp
theorem grow_own {w wr w' : World} {v : Value} (hg : Grow w wr) (h : wr.grownBy w' v.ownBlock) {e : TypeId} {s n : Nat} {xs : List Value} (hown : wr.ownsRow w.heap.size e s v n xs) : Grow w w' := by
  refine Grow.own hg h (fun i hi => ?_)
  rcases hown.2 with ⟨rfl, _⟩ | ⟨g, cap, cur, rfl, hB, _⟩
  · cases hi
  · simp [Value.ownBlock] at hi; omega
end Go.Proofs.Ytjhcbehnopmnpaa

/-
  The reference's Put: the walk.
-/
namespace Go.Proofs.Ytjhcbehnopmnpaa
open Go.RowKit Go.Calm
set_option linter.unusedSimpArgs false
set_option linter.unusedVariables false

theorem ZIn.vsl {w : World} {A : Option Addr} {xs : List I} (h : ZIn w A xs) : ∀ x ∈ xs, VSl w x.A x.row := fun x hx => by
  obtain ⟨i, hi, e⟩ := List.mem_iff_getElem.1 hx
  obtain ⟨_, _, _, _, _, hv⟩ := h i x (by rw [← e]; exact List.getElem?_eq_getElem hi)
  exact hv
theorem src_one {w : World} {g : Nat} {t : TypeId} {y : I} {m : Nat} (hm : y.row.length = m) (hb : Blk w g t #[.slice y.A m y.cap, .int .i64 y.w]) : Src w (.slice (some ⟨g, 0, none⟩) 1 1) [y] := by
  refine .inr ⟨⟨g, 0, none⟩, 1, rfl, fun j u hj => ?_⟩
  rw [addr_add, hb.cell]
  match j, hj with
  | 0, hj => simp [flatI] at hj; subst hj; rw [hm]; rfl
  | 1, hj => simp [flatI] at hj; subst hj; rfl
theorem own_zin2 {w : World} {base : Nat} {v : Value} {n : Nat} {ys : List I} (h : w.ownsRow base 71 2 v n (flatI ys)) (hv : ∀ y ∈ ys, VSl w y.A y.row) : ∃ (B : Option Addr) (cap : Nat), v = .slice B ys.length cap ∧ ZIn w B ys ∧ SlOk B ys.length cap := by
  have h1 := h.1
  rw [flatI_len] at h1
  obtain rfl : n = ys.length := by omega
  exact own_zin' h hv
theorem bareR_len (r : List V) : (bareR r).length = r.length := by simp [bareR]
theorem own_row {w : World} {base : Nat} {B : Option Addr} {n c : Nat} {row : List V} (h : w.ownsRow base 29 3 (.slice B n c) n (flatW (bareR row))) (hn : n = row.length) : VSl w B (bareR row) := by
  rw [hn, ← bareR_len row] at h
  obtain ⟨B', c', e, hv⟩ := own_vsl h
  simp at e
  rw [e.1]; exact hv
theorem vsl_mid {w : World} {A : Option Addr} {xs : List I} {k K : Nat} {y : I} (h : ZIn w A xs) (hy : VSl w y.A y.row) : ∀ u ∈ xs.take k ++ [y] ++ xs.drop K, VSl w u.A u.row := fun u hu => by
  simp only [List.mem_append, List.mem_singleton] at hu
  rcases hu with (hu | rfl) | hu
  · exact h.vsl u (List.mem_of_mem_take hu)
  · exact hy
  · exact h.vsl u (List.mem_of_mem_drop hu)
theorem vsl_mid0 {w : World} {A : Option Addr} {xs : List I} {k K : Nat} (h : ZIn w A xs) : ∀ u ∈ xs.take k ++ xs.drop K, VSl w u.A u.row := fun u hu => by
  simp only [List.mem_append] at hu
  rcases hu with hu | hu
  · exact h.vsl u (List.mem_of_mem_take hu)
  · exact h.vsl u (List.mem_of_mem_drop hu)
/-- a set given back, in a slice that may be cut -/
def GivesS (w w' : World) (e : Ending) (r : List Z) : Prop := ∃ (B : Option Addr) (ys : List I) (cap : Nat), e = .returned (.slice B ys.length cap) ∧ ZIn w' B ys ∧ ys.map zOf = r ∧ SlOk B ys.length cap ∧ Grow w w'
set_option maxRecDepth 100000 in
set_option maxHeartbeats 8000000 in
theorem put_any (xs : List I) (A : Option Addr) (c : Nat) (row : List V) (Ar : Option Addr) (cr : Nat) (n : Int) (w : World) (hlen : xs.length ≤ 5000) (hok : SlOk A xs.length c) (hz : ZIn w A xs) (hrow : ∀ x ∈ xs, x.row.length ≤ 1000) (hw : ∀ x ∈ xs, -1000000000000000 ≤ x.w ∧ x.w ≤ 1000000000000000) (hl : row.length ≤ 1000) (hr : ∀ v ∈ row, RV v) (hx : VSl w Ar row) (hn : -1000000000000000 ≤ n ∧ n ≤ 1000000000000000) :
    Calls Try.prog 128 #[.slice A xs.length c, .slice Ar row.length cr, .int .i64 n] w fun en w' => GivesS w w' en (putZ (xs.map zOf) row n) := by
  have Hz := Lib.hid hz
  have Hok := Lib.hid hok
  have Hrow := Lib.hid hrow
  have Hw := Lib.hid hw
  have Hx := Lib.hid hx
  have Hr := Lib.hid hr
  obtain ⟨hn1, hn2⟩ := hn
  have hac := hok.1
  clear hz hrow hw hx hr hok
  go_enter Try.func128, Try.ntmps128
  go_wp2
  go_loopw [7] (fun i wr => ∃ k : Nat, k ≤ xs.length ∧ i = .int .i64 k ∧ putZ (xs.map zOf) row n = (xs.take k).map zOf ++ putZ ((xs.drop k).map zOf) row n ∧ Grow w wr) (fun i _ => xs.length - (intOf i).toNat)
  case atStart => exact ⟨0, Nat.zero_le _, rfl, by simp, Grow.refl _⟩
  case round =>
    obtain ⟨k, hk, rfl, hinv, hg⟩ := hrel
    have Inv := Lib.hid hinv
    have Tk := Lib.hid (src_take Hok.out (Hz.out.grow hg) hk)
    clear hinv
    by_cases hlt : k < xs.length
    · obtain ⟨x, hxk⟩ : ∃ x, xs[k]? = some x := ⟨_, List.getElem?_eq_getElem hlt⟩
      obtain ⟨gx, ox, rfl, c1, c2, hxv⟩ := (Hz.out.grow hg) k x hxk
      have hlx := Hrow.out x (List.mem_of_getElem? hxk)
      obtain ⟨hw1, hw2⟩ := Hw.out x (List.mem_of_getElem? hxk)
      have cc := fun W (h : Grow wr W) => rrows_any x.row row x.A Ar x.cap cr W (by omega) (by omega) (hxv.grow h) (Hx.out.grow (hg.trans h))
      obtain ⟨d, hd⟩ : ∃ d, rowsG ordV x.row row = d := ⟨_, rfl⟩
      rw [hd] at cc
      have Hd := Lib.hid (show ordR x.row row = d from hd)
      have Hxk := Lib.hid hxk
      have b0 : (0 : Int) ≤ (k : Int) := by omega
      have b1 : (k : Int) < (xs.length : Int) := by omega
      clear hd hxk hxv
      by_cases h1 : d < 0
      · have d1 : decide (d < 0) = true := decide_eq_true h1
        go_wp2_with (go_at_call 27; ((with_reducible refine (cc _ (Grow.refl _)).mono ?_); rintro e w2 ⟨rfl, G2⟩))
        go_roundw
        case rel => exact ⟨k + 1, by omega, by go_num, putZ_step Hxk.out (by rw [Hd.out]; exact h1) Inv.out, hg.trans G2⟩
        case measure => simp [intOf]; omega
      · have d1 : decide (d < 0) = false := decide_eq_false h1
        go_upto_region 5 with (first | (go_at_call 27; ((with_reducible refine (cc _ (Grow.refl _)).mono ?_); rintro e w2 ⟨rfl, G2⟩)) | (at_builtin; refine wpList_append_src rfl _ _ rfl w.heap.size _ 0 [] rfl (World.ownsRow_made _ _ 0 (hg.trans G2).size (by unfold maxLen; omega) (by simp)) _ (xs.take k) rfl (Tk.out.grow (G2.al _)) (by rw [List.length_take]; omega) (by have := (hg.trans G2).size; simp; omega) ?_; intro v8 w8 own8 gr8; have GW : Grow wr w8 := grow_own (G2.al _) gr8 (World.ownsRow_made (e := 71) (size := 2) _ #[] 0 G2.size (by unfold maxLen; omega) (by simp)); have e8 : 0 + (xs.take k).length = k := (by rw [Nat.zero_add, List.length_take]; omega); rw [e8] at own8; have Own8 := Lib.hid (show w8.ownsRow w.heap.size 71 2 v8 k (flatI (xs.take k)) from own8); clear own8 gr8 e8))
        have c18 := GW.cell c1
        have c28 := GW.cell c2
        by_cases h0 : d = 0
        · have d2 : (d == 0) = true := by simpa using h0
          have hwp : IntKind.i64.wrap (n + x.w) = n + x.w := by rw [IntKind.wrap_i64]; omega
          go_upto_region 8 with (go_at_call 27; ((with_reducible refine (cc _ GW).mono ?_); rintro e w9 ⟨rfl, G9⟩; have c29 := G9.cell c28))
          by_cases hN : n + x.w = 0
          · have GV := hg.trans (GW.trans G9)
            have Own9 := Lib.hid (own_grow Own8.out G9)
            have dn : (n + x.w != 0) = false := by simpa using hN
            go_upto_region 10 with fail
            by_cases hc : c = k + 1
            · have hd := src_drop Hok.out (Hz.out.grow GV) (show k + 1 ≤ xs.length by omega)
              simp only [sliced, if_pos hc, Option.map_some, addr_add] at hd
              have Dr := Lib.hid hd
              clear hd
              go_wp2_with (at_builtin; refine wpList_append_src rfl _ _ rfl w.heap.size _ _ (xs.take k) rfl Own9.out _ (xs.drop (k + 1)) rfl ?src (by simp; omega) GV.size ?_; rotate_left; intro v11 w11 own11 gr11; have G11 : Grow w w11 := grow_own GV gr11 Own9.out; have Own11 := Lib.hid own11; clear own11 gr11)
              case src => (go_simp; first | exact Dr.out | simpa using Dr.out | simpa [hc] using Dr.out)
              obtain ⟨B, cap, rfl, hz, hk2⟩ := own_zin2 (ys := xs.take k ++ xs.drop (k + 1)) Own11.out (vsl_mid0 (Hz.out.grow G11))
              have Fin := Lib.hid (And.intro hz hk2)
              clear hz hk2
              go_ret
              exact ⟨B, _, cap, rfl, Fin.out.1, by rw [Inv.out, putZ_at _ _ Hxk.out, Hd.out, if_neg (by omega), if_pos h0, if_neg (by simpa using hN)]; simp [zOf], Fin.out.2, G11⟩
            · have hd := src_drop Hok.out (Hz.out.grow GV) (show k + 1 ≤ xs.length by omega)
              simp only [sliced, if_neg hc, Option.map_some, addr_add] at hd
              have Dr := Lib.hid hd
              clear hd
              go_wp2_with (at_builtin; refine wpList_append_src rfl _ _ rfl w.heap.size _ _ (xs.take k) rfl Own9.out _ (xs.drop (k + 1)) rfl ?src (by simp; omega) GV.size ?_; rotate_left; intro v11 w11 own11 gr11; have G11 : Grow w w11 := grow_own GV gr11 Own9.out; have Own11 := Lib.hid own11; clear own11 gr11)
              case src => (go_simp; first | exact Dr.out | simpa using Dr.out | simpa [hc] using Dr.out)
              obtain ⟨B, cap, rfl, hz, hk2⟩ := own_zin2 (ys := xs.take k ++ xs.drop (k + 1)) Own11.out (vsl_mid0 (Hz.out.grow G11))
              have Fin := Lib.hid (And.intro hz hk2)
              clear hz hk2
              go_ret
              exact ⟨B, _, cap, rfl, Fin.out.1, by rw [Inv.out, putZ_at _ _ Hxk.out, Hd.out, if_neg (by omega), if_pos h0, if_neg (by simpa using hN)]; simp [zOf], Fin.out.2, G11⟩
          · have GV := hg.trans (GW.trans G9)
            have Own9 := Lib.hid (own_grow Own8.out G9)
            have dn : (n + x.w != 0) = true := by simpa using hN
            go_upto_region 10 with (first | (go_at_call 152; ((with_reducible refine (rbare_row row Ar cr _ hl Hr.out (Hx.out.grow GV)).mono ?_); rintro e wB ⟨Bb, cb, rfl, ownB, gB⟩; have OwnB := Lib.hid ownB; have OwnA := Lib.hid (own_grow Own9.out gB); clear ownB)) | (at_builtin; refine wpList_append_src rfl _ _ rfl w.heap.size _ k (xs.take k) rfl (OwnA.out.alloc _) _ [I.mk Bb (bareR row) cb (n + x.w)] rfl (src_one (bareR_len row) (Blk.new _ _ _)) (by simp; omega) (by have := (GV.trans gB).size; simp; omega) ?_; intro v10 w10 own10 gr10))
            have G10 : Grow w w10 := grow_own ((GV.trans gB).al _) gr10 (OwnA.out.alloc _)
            have OwnB10 := Lib.hid (World.ownsRow.kept (OwnB.out.alloc _) gr10 (own_types OwnB.out OwnA.out (by decide)))
            have Own10 := Lib.hid own10
            clear own10 gr10
            by_cases hc : c = k + 1
            · have hd := src_drop Hok.out (Hz.out.grow G10) (show k + 1 ≤ xs.length by omega)
              simp only [sliced, if_pos hc, Option.map_some, addr_add] at hd
              have Dr := Lib.hid hd
              clear hd
              go_wp2_with (at_builtin; refine wpList_append_src rfl _ _ rfl w.heap.size _ _ (xs.take k ++ [I.mk Bb (bareR row) cb (n + x.w)]) rfl Own10.out _ (xs.drop (k + 1)) rfl ?src (by simp; omega) G10.size ?_; rotate_left; intro v11 w11 own11 gr11; have G11 : Grow w w11 := grow_own G10 gr11 Own10.out; have OwnB11 := Lib.hid (World.ownsRow.kept OwnB10.out gr11 (own_types OwnB10.out Own10.out (by decide))); have Own11 := Lib.hid own11; clear own11 gr11)
              case src => (go_simp; first | exact Dr.out | simpa using Dr.out | simpa [hc] using Dr.out)
              obtain ⟨B, cap, rfl, hz, hk2⟩ := own_zin2 (ys := xs.take k ++ [I.mk Bb (bareR row) cb (n + x.w)] ++ xs.drop (k + 1)) Own11.out (vsl_mid (Hz.out.grow G11) (own_row OwnB11.out rfl))
              have Fin := Lib.hid (And.intro hz hk2)
              clear hz hk2
              go_ret
              exact ⟨B, _, cap, rfl, Fin.out.1, by rw [Inv.out, putZ_at _ _ Hxk.out, Hd.out, if_neg (by omega), if_pos h0, if_pos hN]; simp [zOf], Fin.out.2, G11⟩
            · have hd := src_drop Hok.out (Hz.out.grow G10) (show k + 1 ≤ xs.length by omega)
              simp only [sliced, if_neg hc, Option.map_some, addr_add] at hd
              have Dr := Lib.hid hd
              clear hd
              go_wp2_with (at_builtin; refine wpList_append_src rfl _ _ rfl w.heap.size _ _ (xs.take k ++ [I.mk Bb (bareR row) cb (n + x.w)]) rfl Own10.out _ (xs.drop (k + 1)) rfl ?src (by simp; omega) G10.size ?_; rotate_left; intro v11 w11 own11 gr11; have G11 : Grow w w11 := grow_own G10 gr11 Own10.out; have OwnB11 := Lib.hid (World.ownsRow.kept OwnB10.out gr11 (own_types OwnB10.out Own10.out (by decide))); have Own11 := Lib.hid own11; clear own11 gr11)
              case src => (go_simp; first | exact Dr.out | simpa using Dr.out | simpa [hc] using Dr.out)
              obtain ⟨B, cap, rfl, hz, hk2⟩ := own_zin2 (ys := xs.take k ++ [I.mk Bb (bareR row) cb (n + x.w)] ++ xs.drop (k + 1)) Own11.out (vsl_mid (Hz.out.grow G11) (own_row OwnB11.out rfl))
              have Fin := Lib.hid (And.intro hz hk2)
              clear hz hk2
              go_ret
              exact ⟨B, _, cap, rfl, Fin.out.1, by rw [Inv.out, putZ_at _ _ Hxk.out, Hd.out, if_neg (by omega), if_pos h0, if_pos hN]; simp [zOf], Fin.out.2, G11⟩
        · have d2 : (d == 0) = false := by simpa using h0
          go_upto_region 8 with (go_at_call 27; ((with_reducible refine (cc _ GW).mono ?_); rintro e w9 ⟨rfl, G9⟩))
          by_cases hN : n = 0
          · have GV := hg.trans (GW.trans G9)
            have Own9 := Lib.hid (own_grow Own8.out G9)
            have dn : (n != 0) = false := by simpa using hN
            go_upto_region 10 with fail
            by_cases hc : c = k
            · have hd := src_drop Hok.out (Hz.out.grow GV) (show k ≤ xs.length by omega)
              simp only [sliced, if_pos hc, Option.map_some, addr_add] at hd
              have Dr := Lib.hid hd
              clear hd
              go_wp2_with (at_builtin; refine wpList_append_src rfl _ _ rfl w.heap.size _ _ (xs.take k) rfl Own9.out _ (xs.drop (k)) rfl ?src (by simp; omega) GV.size ?_; rotate_left; intro v11 w11 own11 gr11; have G11 : Grow w w11 := grow_own GV gr11 Own9.out; have Own11 := Lib.hid own11; clear own11 gr11)
              case src => (go_simp; first | exact Dr.out | simpa using Dr.out | simpa [hc] using Dr.out)
              obtain ⟨B, cap, rfl, hz, hk2⟩ := own_zin2 (ys := xs.take k ++ xs.drop (k)) Own11.out (vsl_mid0 (Hz.out.grow G11))
              have Fin := Lib.hid (And.intro hz hk2)
              clear hz hk2
              go_ret
              exact ⟨B, _, cap, rfl, Fin.out.1, by rw [Inv.out, putZ_at _ _ Hxk.out, Hd.out, if_neg (by omega), if_neg h0, if_neg (by simpa using hN)]; simp [zOf], Fin.out.2, G11⟩
            · have hd := src_drop Hok.out (Hz.out.grow GV) (show k ≤ xs.length by omega)
              simp only [sliced, if_neg hc, Option.map_some, addr_add] at hd
              have Dr := Lib.hid hd
              clear hd
              go_wp2_with (at_builtin; refine wpList_append_src rfl _ _ rfl w.heap.size _ _ (xs.take k) rfl Own9.out _ (xs.drop (k)) rfl ?src (by simp; omega) GV.size ?_; rotate_left; intro v11 w11 own11 gr11; have G11 : Grow w w11 := grow_own GV gr11 Own9.out; have Own11 := Lib.hid own11; clear own11 gr11)
              case src => (go_simp; first | exact Dr.out | simpa using Dr.out | simpa [hc] using Dr.out)
              obtain ⟨B, cap, rfl, hz, hk2⟩ := own_zin2 (ys := xs.take k ++ xs.drop (k)) Own11.out (vsl_mid0 (Hz.out.grow G11))
              have Fin := Lib.hid (And.intro hz hk2)
              clear hz hk2
              go_ret
              exact ⟨B, _, cap, rfl, Fin.out.1, by rw [Inv.out, putZ_at _ _ Hxk.out, Hd.out, if_neg (by omega), if_neg h0, if_neg (by simpa using hN)]; simp [zOf], Fin.out.2, G11⟩
          · have GV := hg.trans (GW.trans G9)
            have Own9 := Lib.hid (own_grow Own8.out G9)
            have dn : (n != 0) = true := by simpa using hN
            go_upto_region 10 with (first | (go_at_call 152; ((with_reducible refine (rbare_row row Ar cr _ hl Hr.out (Hx.out.grow GV)).mono ?_); rintro e wB ⟨Bb, cb, rfl, ownB, gB⟩; have OwnB := Lib.hid ownB; have OwnA := Lib.hid (own_grow Own9.out gB); clear ownB)) | (at_builtin; refine wpList_append_src rfl _ _ rfl w.heap.size _ k (xs.take k) rfl (OwnA.out.alloc _) _ [I.mk Bb (bareR row) cb (n)] rfl (src_one (bareR_len row) (Blk.new _ _ _)) (by simp; omega) (by have := (GV.trans gB).size; simp; omega) ?_; intro v10 w10 own10 gr10))
            have G10 : Grow w w10 := grow_own ((GV.trans gB).al _) gr10 (OwnA.out.alloc _)
            have OwnB10 := Lib.hid (World.ownsRow.kept (OwnB.out.alloc _) gr10 (own_types OwnB.out OwnA.out (by decide)))
            have Own10 := Lib.hid own10
            clear own10 gr10
            by_cases hc : c = k
            · have hd := src_drop Hok.out (Hz.out.grow G10) (show k ≤ xs.length by omega)
              simp only [sliced, if_pos hc, Option.map_some, addr_add] at hd
              have Dr := Lib.hid hd
              clear hd
              go_wp2_with (at_builtin; refine wpList_append_src rfl _ _ rfl w.heap.size _ _ (xs.take k ++ [I.mk Bb (bareR row) cb (n)]) rfl Own10.out _ (xs.drop (k)) rfl ?src (by simp; omega) G10.size ?_; rotate_left; intro v11 w11 own11 gr11; have G11 : Grow w w11 := grow_own G10 gr11 Own10.out; have OwnB11 := Lib.hid (World.ownsRow.kept OwnB10.out gr11 (own_types OwnB10.out Own10.out (by decide))); have Own11 := Lib.hid own11; clear own11 gr11)
              case src => (go_simp; first | exact Dr.out | simpa using Dr.out | simpa [hc] using Dr.out)
              obtain ⟨B, cap, rfl, hz, hk2⟩ := own_zin2 (ys := xs.take k ++ [I.mk Bb (bareR row) cb (n)] ++ xs.drop (k)) Own11.out (vsl_mid (Hz.out.grow G11) (own_row OwnB11.out rfl))
              have Fin := Lib.hid (And.intro hz hk2)
              clear hz hk2
              go_ret
              exact ⟨B, _, cap, rfl, Fin.out.1, by rw [Inv.out, putZ_at _ _ Hxk.out, Hd.out, if_neg (by omega), if_neg h0, if_pos hN]; simp [zOf], Fin.out.2, G11⟩
            · have hd := src_drop Hok.out (Hz.out.grow G10) (show k ≤ xs.length by omega)
              simp only [sliced, if_neg hc, Option.map_some, addr_add] at hd
              have Dr := Lib.hid hd
              clear hd
              go_wp2_with (at_builtin; refine wpList_append_src rfl _ _ rfl w.heap.size _ _ (xs.take k ++ [I.mk Bb (bareR row) cb (n)]) rfl Own10.out _ (xs.drop (k)) rfl ?src (by simp; omega) G10.size ?_; rotate_left; intro v11 w11 own11 gr11; have G11 : Grow w w11 := grow_own G10 gr11 Own10.out; have OwnB11 := Lib.hid (World.ownsRow.kept OwnB10.out gr11 (own_types OwnB10.out Own10.out (by decide))); have Own11 := Lib.hid own11; clear own11 gr11)
              case src => (go_simp; first | exact Dr.out | simpa using Dr.out | simpa [hc] using Dr.out)
              obtain ⟨B, cap, rfl, hz, hk2⟩ := own_zin2 (ys := xs.take k ++ [I.mk Bb (bareR row) cb (n)] ++ xs.drop (k)) Own11.out (vsl_mid (Hz.out.grow G11) (own_row OwnB11.out rfl))
              have Fin := Lib.hid (And.intro hz hk2)
              clear hz hk2
              go_ret
              exact ⟨B, _, cap, rfl, Fin.out.1, by rw [Inv.out, putZ_at _ _ Hxk.out, Hd.out, if_neg (by omega), if_neg h0, if_pos hN]; simp [zOf], Fin.out.2, G11⟩
    · obtain rfl : k = xs.length := by omega
      have hlt2 : decide ((xs.length : Int) < (xs.length : Int)) = false := by simp
      go_upto_region 5 with (at_builtin; refine wpList_append_src rfl _ _ rfl w.heap.size _ 0 [] rfl (World.ownsRow_made _ _ 0 hg.size (by unfold maxLen; omega) (by simp)) _ (xs.take xs.length) rfl (Tk.out.grow ((Grow.refl wr).al _)) (by rw [List.length_take]; omega) (by have := hg.size; simp; omega) ?_; intro v8 w8 own8 gr8; have GW : Grow wr w8 := grow_own ((Grow.refl wr).al _) gr8 (World.ownsRow_made (e := 71) (size := 2) _ #[] 0 (Grow.refl wr).size (by unfold maxLen; omega) (by simp)); have e8 : 0 + (xs.take xs.length).length = xs.length := (by rw [Nat.zero_add, List.length_take]; omega); rw [e8] at own8; have Own8 := Lib.hid (show w8.ownsRow w.heap.size 71 2 v8 xs.length (flatI (xs.take xs.length)) from own8); clear own8 gr8 e8)
      go_upto_region 8 with fail
      by_cases hN : n = 0
      · have GV := hg.trans GW
        have Own9 := Lib.hid (own_grow Own8.out (Grow.refl _))
        have dn : (n != 0) = false := by simpa using hN
        go_upto_region 10 with fail
        by_cases hc : c = xs.length
        · have hd := src_drop Hok.out (Hz.out.grow GV) (show xs.length ≤ xs.length by omega)
          simp only [sliced, if_pos hc, Option.map_some, addr_add] at hd
          have Dr := Lib.hid hd
          clear hd
          go_wp2_with (at_builtin; refine wpList_append_src rfl _ _ rfl w.heap.size _ _ (xs.take xs.length) rfl Own9.out _ (xs.drop (xs.length)) rfl ?src (by simp; omega) GV.size ?_; rotate_left; intro v11 w11 own11 gr11; have G11 : Grow w w11 := grow_own GV gr11 Own9.out; have Own11 := Lib.hid own11; clear own11 gr11)
          case src => (go_simp; first | exact Dr.out | simpa using Dr.out | simpa [hc] using Dr.out)
          obtain ⟨B, cap, rfl, hz, hk2⟩ := own_zin2 (ys := xs.take xs.length ++ xs.drop (xs.length)) Own11.out (vsl_mid0 (Hz.out.grow G11))
          have Fin := Lib.hid (And.intro hz hk2)
          clear hz hk2
          go_ret
          exact ⟨B, _, cap, rfl, Fin.out.1, by rw [Inv.out, List.drop_length]; simp [putZ, hN, zOf], Fin.out.2, G11⟩
        · have hd := src_drop Hok.out (Hz.out.grow GV) (show xs.length ≤ xs.length by omega)
          simp only [sliced, if_neg hc, Option.map_some, addr_add] at hd
          have Dr := Lib.hid hd
          clear hd
          go_wp2_with (at_builtin; refine wpList_append_src rfl _ _ rfl w.heap.size _ _ (xs.take xs.length) rfl Own9.out _ (xs.drop (xs.length)) rfl ?src (by simp; omega) GV.size ?_; rotate_left; intro v11 w11 own11 gr11; have G11 : Grow w w11 := grow_own GV gr11 Own9.out; have Own11 := Lib.hid own11; clear own11 gr11)
          case src => (go_simp; first | exact Dr.out | simpa using Dr.out | simpa [hc] using Dr.out)
          obtain ⟨B, cap, rfl, hz, hk2⟩ := own_zin2 (ys := xs.take xs.length ++ xs.drop (xs.length)) Own11.out (vsl_mid0 (Hz.out.grow G11))
          have Fin := Lib.hid (And.intro hz hk2)
          clear hz hk2
          go_ret
          exact ⟨B, _, cap, rfl, Fin.out.1, by rw [Inv.out, List.drop_length]; simp [putZ, hN, zOf], Fin.out.2, G11⟩
      · have GV := hg.trans GW
        have Own9 := Lib.hid (own_grow Own8.out (Grow.refl _))
        have dn : (n != 0) = true := by simpa using hN
        go_upto_region 10 with (first | (go_at_call 152; ((with_reducible refine (rbare_row row Ar cr _ hl Hr.out (Hx.out.grow GV)).mono ?_); rintro e wB ⟨Bb, cb, rfl, ownB, gB⟩; have OwnB := Lib.hid ownB; have OwnA := Lib.hid (own_grow Own9.out gB); clear ownB)) | (at_builtin; refine wpList_append_src rfl _ _ rfl w.heap.size _ xs.length (xs.take xs.length) rfl (OwnA.out.alloc _) _ [I.mk Bb (bareR row) cb (n)] rfl (src_one (bareR_len row) (Blk.new _ _ _)) (by simp; omega) (by have := (GV.trans gB).size; simp; omega) ?_; intro v10 w10 own10 gr10))
        have G10 : Grow w w10 := grow_own ((GV.trans gB).al _) gr10 (OwnA.out.alloc _)
        have OwnB10 := Lib.hid (World.ownsRow.kept (OwnB.out.alloc _) gr10 (own_types OwnB.out OwnA.out (by decide)))
        have Own10 := Lib.hid own10
        clear own10 gr10
        by_cases hc : c = xs.length
        · have hd := src_drop Hok.out (Hz.out.grow G10) (show xs.length ≤ xs.length by omega)
          simp only [sliced, if_pos hc, Option.map_some, addr_add] at hd
          have Dr := Lib.hid hd
          clear hd
          go_wp2_with (at_builtin; refine wpList_append_src rfl _ _ rfl w.heap.size _ _ (xs.take xs.length ++ [I.mk Bb (bareR row) cb (n)]) rfl Own10.out _ (xs.drop (xs.length)) rfl ?src (by simp; omega) G10.size ?_; rotate_left; intro v11 w11 own11 gr11; have G11 : Grow w w11 := grow_own G10 gr11 Own10.out; have OwnB11 := Lib.hid (World.ownsRow.kept OwnB10.out gr11 (own_types OwnB10.out Own10.out (by decide))); have Own11 := Lib.hid own11; clear own11 gr11)
          case src => (go_simp; first | exact Dr.out | simpa using Dr.out | simpa [hc] using Dr.out)
          obtain ⟨B, cap, rfl, hz, hk2⟩ := own_zin2 (ys := xs.take xs.length ++ [I.mk Bb (bareR row) cb (n)] ++ xs.drop (xs.length)) Own11.out (vsl_mid (Hz.out.grow G11) (own_row OwnB11.out rfl))
          have Fin := Lib.hid (And.intro hz hk2)
          clear hz hk2
          go_ret
          exact ⟨B, _, cap, rfl, Fin.out.1, by rw [Inv.out, List.drop_length]; simp [putZ, hN, zOf], Fin.out.2, G11⟩
        · have hd := src_drop Hok.out (Hz.out.grow G10) (show xs.length ≤ xs.length by omega)
          simp only [sliced, if_neg hc, Option.map_some, addr_add] at hd
          have Dr := Lib.hid hd
          clear hd
          go_wp2_with (at_builtin; refine wpList_append_src rfl _ _ rfl w.heap.size _ _ (xs.take xs.length ++ [I.mk Bb (bareR row) cb (n)]) rfl Own10.out _ (xs.drop (xs.length)) rfl ?src (by simp; omega) G10.size ?_; rotate_left; intro v11 w11 own11 gr11; have G11 : Grow w w11 := grow_own G10 gr11 Own10.out; have OwnB11 := Lib.hid (World.ownsRow.kept OwnB10.out gr11 (own_types OwnB10.out Own10.out (by decide))); have Own11 := Lib.hid own11; clear own11 gr11)
          case src => (go_simp; first | exact Dr.out | simpa using Dr.out | simpa [hc] using Dr.out)
          obtain ⟨B, cap, rfl, hz, hk2⟩ := own_zin2 (ys := xs.take xs.length ++ [I.mk Bb (bareR row) cb (n)] ++ xs.drop (xs.length)) Own11.out (vsl_mid (Hz.out.grow G11) (own_row OwnB11.out rfl))
          have Fin := Lib.hid (And.intro hz hk2)
          clear hz hk2
          go_ret
          exact ⟨B, _, cap, rfl, Fin.out.1, by rw [Inv.out, List.drop_length]; simp [putZ, hN, zOf], Fin.out.2, G11⟩
end Go.Proofs.Ytjhcbehnopmnpaa

/-
  Lists of sets in memory; zsets.right; slices.Grow, slices.Concat.
-/
namespace Go.Proofs.Ytjhcbehnopmnpaa
open Go.RowKit Go.Calm
set_option linter.unusedSimpArgs false
set_option linter.unusedVariables false

/-- a set in memory -/
structure S where
  A : Option Addr
  xs : List I
  cap : Nat
instance : Inhabited S := ⟨⟨none, [], 0⟩⟩
def S.z (s : S) : List Z := s.xs.map zOf
/-- sets at an address -/
def SIn (w : World) (A : Option Addr) (ss : List S) : Prop := ∀ i s, ss[i]? = some s → ∃ g o, A = some ⟨g, o, none⟩ ∧ w.cell? ⟨g, o + i, none⟩ = some (.slice s.A s.xs.length s.cap) ∧ ZIn w s.A s.xs
theorem SIn.grow {w w' : World} {A : Option Addr} {ss : List S} (h : SIn w A ss) (hg : Grow w w') : SIn w' A ss := fun i s hs => by
  obtain ⟨g, o, hA, a, b⟩ := h i s hs
  exact ⟨g, o, hA, hg.cell a, b.grow hg⟩
/-- the first thing that is wrong with sets -/
def rightZ : List (List Z) → Int
  | [] => 0
  | z :: l => if wrongZ z ≠ 0 then wrongZ z else rightZ l
theorem rightZ_at {ss : List S} {k : Nat} {s : S} (h : ss[k]? = some s) : rightZ ((ss.drop k).map S.z) = if wrongZ s.z ≠ 0 then wrongZ s.z else rightZ ((ss.drop (k + 1)).map S.z) := by
  obtain ⟨h1, e1⟩ := List.getElem?_eq_some_iff.1 h
  rw [List.drop_eq_getElem_cons h1, e1]; rfl
/-- a set no larger than memory has -/
def S.ok (s : S) : Prop := s.xs.length ≤ 9223372036854775807 ∧ ∀ x ∈ s.xs, x.row.length ≤ 9223372036854775807

set_option maxRecDepth 100000 in
set_option maxHeartbeats 4000000 in
theorem zright_any (ss : List S) (A : Option Addr) (c : Nat) (w : World) (hlen : ss.length ≤ 9223372036854775807) (hs : SIn w A ss) (hl : ∀ s ∈ ss, s.ok) (R : Int) (hR : rightZ (ss.map S.z) = R) :
    Calls Try.prog 126 #[.slice A ss.length c] w fun en w' => en = .returned (.int .i64 R) ∧ Grow w w' := by
  have HR := Lib.hid hR
  have Hs := Lib.hid hs
  have Hl := Lib.hid hl
  clear hs hR hl
  go_enter Try.func126, Try.ntmps126
  go_wp2
  go_loopw [8] (fun i wr => ∃ k : Nat, k ≤ ss.length ∧ i = .int .i64 k ∧ rightZ ((ss.drop k).map S.z) = R ∧ Grow w wr) (fun i _ => ss.length - (intOf i).toNat)
  case atStart => exact ⟨0, Nat.zero_le _, rfl, by simpa using HR.out, Grow.refl _⟩
  case round =>
    obtain ⟨k, hk, rfl, hinv, hg⟩ := hrel
    have Inv := Lib.hid hinv
    clear hinv
    by_cases hlt : k < ss.length
    · obtain ⟨s, hsk⟩ : ∃ s, ss[k]? = some s := ⟨_, List.getElem?_eq_getElem hlt⟩
      obtain ⟨g, o, rfl, c1, hz⟩ := (Hs.out.grow hg) k s hsk
      have hok := Hl.out s (List.mem_of_getElem? hsk)
      have inv2 := (rightZ_at hsk).symm.trans Inv.out
      obtain ⟨E, hE⟩ : ∃ E, wrongZ s.z = E := ⟨_, rfl⟩
      rw [hE] at inv2
      have cs := fun W (h : Grow wr W) => wrongz_any s.xs s.A s.cap W hok.1 (hz.grow h) hok.2 E hE
      have Inv2 := Lib.hid inv2
      clear inv2 hsk hz hok hE
      by_cases hw : E = 0
      · have dw : (E != 0) = false := by simpa using hw
        go_wp2_with (go_at_call 66; ((with_reducible refine (cs _ (by repeat (first | (with_reducible exact Grow.refl _) | (with_reducible assumption) | (with_reducible refine Grow.set ?_ (by first | (simp; done) | (simp; omega)) _) | (with_reducible refine Grow.al ?_ _) | (with_reducible refine Grow.drew ?_) | (with_reducible refine Grow.drewN ?_ _) | (with_reducible refine Grow.trans ?_ (by assumption))))).mono ?_); rintro e w2 ⟨rfl, hg2⟩))
        go_roundw
        case rel => exact ⟨k + 1, by omega, by go_num, by have := Inv2.out; rw [if_neg (by simpa using hw)] at this; exact this, hg.trans hg2⟩
        case measure => simp [intOf]; omega
      · have dw : (E != 0) = true := by simpa using hw
        go_wp2_with (go_at_call 66; ((with_reducible refine (cs _ (by repeat (first | (with_reducible exact Grow.refl _) | (with_reducible assumption) | (with_reducible refine Grow.set ?_ (by first | (simp; done) | (simp; omega)) _) | (with_reducible refine Grow.al ?_ _) | (with_reducible refine Grow.drew ?_) | (with_reducible refine Grow.drewN ?_ _) | (with_reducible refine Grow.trans ?_ (by assumption))))).mono ?_); rintro e w2 ⟨rfl, hg2⟩))
        go_ret
        exact ret_int (by have := Inv2.out; rw [if_pos hw] at this; exact this) (hg.trans hg2)
    · obtain rfl : k = ss.length := by omega
      have fin : R = 0 := by have := Inv.out; rw [List.drop_length] at this; exact this.symm
      go_wp2
      go_ret
      exact ret_int fin.symm hg

set_option maxRecDepth 100000 in
set_option maxHeartbeats 4000000 in
theorem grow_any (n : Nat) (w : World) (hn : n ≤ 100000) :
    Calls Try.prog 151 #[.slice none 0 0, .int .i64 n] w fun e w' => ∃ v, e = .returned v ∧ w'.ownsRow w.heap.size 71 2 v 0 (flatI []) ∧ Grow w w' := by
  obtain ⟨ti, hti, hz0, hz1, hz2⟩ := info_zrow'
  go_enter Try.func151, Try.ntmps151
  by_cases h0 : n = 0
  · subst h0
    go_wp2
    go_ret
    exact ⟨_, rfl, World.ownsRow_nil _ _ _ _, Grow.refl _⟩
  · have hpos : decide ((0 : Int) < (n : Int)) = true := decide_eq_true (by omega)
    have hwp : IntKind.i64.wrap (n : Int) = (n : Int) := by rw [IntKind.wrap_i64]; omega
    have hrz := fun ty => Lib.run_append_nil_zeros w 62 3 ty 71 ti _ .i64 .i64 Try.underlying62 Try.underlying3 hti hz0 n (by omega) (by omega) (by omega) (by rw [hz2]; omega)
    have hge : n ≤ grownCap w n 0 71 := grownCap_ge w n 0 _
    have hmx := grownCap_le_maxLen w n 0 71 (by unfold maxLen; omega)
    obtain ⟨G, hG⟩ : ∃ G, grownCap w n 0 71 = G := ⟨_, rfl⟩
    rw [hG] at hrz hge hmx
    have HM := Lib.hid hmx
    have hG63 : G ≤ 9223372036854775807 := by unfold maxLen at hmx; omega
    clear hG hmx
    go_wp2_with (at_builtin; refine Lib.wpList_append_run _ rfl _ _ _ _ rfl _ _ rfl rfl _ _ (hrz _) ?_)
    go_ret
    refine ⟨_, rfl, World.ownsRow_made w.drew _ G (Nat.le_refl _) HM.out ?_, (Grow.refl w).drew.al _⟩
    simp [size_zeroCells, Value.cells]
    omega
def fl (ss : List S) : List I := ss.flatMap S.xs
theorem fl_succ {ss : List S} {k : Nat} {s : S} (h : ss[k]? = some s) : fl (ss.take (k + 1)) = fl (ss.take k) ++ s.xs := by
  obtain ⟨h1, e1⟩ := List.getElem?_eq_some_iff.1 h
  rw [List.take_succ_eq_append_getElem h1, e1]; simp [fl]
theorem fl_len (ss : List S) (k : Nat) : (fl (ss.take k)).length ≤ (fl ss).length := by
  have : fl ss = fl (ss.take k) ++ fl (ss.drop k) := by unfold fl; rw [← List.flatMap_append, List.take_append_drop]
  rw [this, List.length_append]
  omega
theorem SIn.vsl {w : World} {A : Option Addr} {ss : List S} (h : SIn w A ss) : ∀ x ∈ fl ss, VSl w x.A x.row := fun x hx => by
  obtain ⟨s, hs, hx⟩ := List.mem_flatMap.1 hx
  obtain ⟨i, hi, e⟩ := List.mem_iff_getElem.1 hs
  obtain ⟨_, _, _, _, hz⟩ := h i s (by rw [← e]; exact List.getElem?_eq_getElem hi)
  exact hz.vsl x hx
theorem src_all {w : World} {A : Option Addr} {xs : List I} {c : Nat} (h : SlOk A xs.length c) (hz : ZIn w A xs) : Src w (.slice A xs.length c) xs := by
  have := src_take h hz (Nat.le_refl _)
  rwa [List.take_length] at this
set_option maxRecDepth 100000 in
set_option maxHeartbeats 4000000 in
theorem concat_any (ss : List S) (A : Option Addr) (c : Nat) (w : World) (hlen : ss.length ≤ 1000) (hs : SIn w A ss) (hsum : (fl ss).length ≤ 10000) (hok : ∀ s ∈ ss, SlOk s.A s.xs.length s.cap) :
    Calls Try.prog 127 #[.slice A ss.length c] w fun en w' => ∃ (B : Option Addr) (cap : Nat), en = .returned (.slice B (fl ss).length cap) ∧ ZIn w' B (fl ss) ∧ SlOk B (fl ss).length cap ∧ Grow w w' := by
  have Hs := Lib.hid hs
  have Hok := Lib.hid hok
  clear hs hok
  go_enter Try.func127, Try.ntmps127
  go_wp2
  go_loopw [3, 11] (fun n i wr => ∃ (k m : Nat), k ≤ ss.length ∧ i = .int .i64 k ∧ n = .int .i64 m ∧ m = (fl (ss.take k)).length ∧ Grow w wr) (fun _ i _ => ss.length - (intOf i).toNat)
  case atStart => exact ⟨0, 0, Nat.zero_le _, rfl, rfl, rfl, Grow.refl _⟩
  case round =>
    rename World => wa
    obtain ⟨k, m, hk, rfl, rfl, hm, hg⟩ := hrel
    have Hm := Lib.hid hm
    clear hm
    by_cases hlt : k < ss.length
    · obtain ⟨s, hsk⟩ : ∃ s, ss[k]? = some s := ⟨_, List.getElem?_eq_getElem hlt⟩
      obtain ⟨g, o, rfl, c1, hz⟩ := (Hs.out.grow hg) k s hsk
      have hm2 : m + s.xs.length = (fl (ss.take (k + 1))).length := by rw [fl_succ hsk, List.length_append, ← Hm.out]
      have hb := fl_len ss (k + 1)
      rw [← hm2] at hb
      have Hm2 := Lib.hid hm2
      have hwp : IntKind.i64.wrap ((m : Int) + (s.xs.length : Int)) = ((m + s.xs.length : Nat) : Int) := by rw [IntKind.wrap_i64]; omega
      have d0 : decide (((m + s.xs.length : Nat) : Int) < 0) = false := decide_eq_false (by omega)
      clear hm2 hsk hz
      go_wp2
      go_roundw
      case rel => exact ⟨k + 1, m + s.xs.length, by omega, by go_num, by go_num, Hm2.out, hg⟩
      case measure => simp [intOf]; omega
    · obtain rfl : k = ss.length := by omega
      have hm2 : m ≤ 10000 := by rw [Hm.out, List.take_length]; exact hsum
      have cg := fun W => grow_any m W (by omega)
      go_upto_region 10 with (go_at_call 151; ((with_reducible refine (cg _).mono ?_); rintro en w2 ⟨v, rfl, hown, hg2⟩; have Own := Lib.hid hown; clear hown))
      have G2 := hg.trans hg2
      go_wp2
      go_loopw [6, 27] (fun t i wq => ∃ (k n : Nat), k ≤ ss.length ∧ i = .int .i64 k ∧ n = (fl (ss.take k)).length ∧ wq.ownsRow wa.heap.size 71 2 t n (flatI (fl (ss.take k))) ∧ Grow wa wq) (fun _ i _ => ss.length - (intOf i).toNat)
      case atStart => exact ⟨0, 0, Nat.zero_le _, rfl, rfl, Own.out, hg2⟩
      case round =>
        obtain ⟨k, n, hk, rfl, hn, hown, hg3⟩ := hrel
        have Own3 := Lib.hid hown
        have Hn := Lib.hid hn
        clear hown hn
        by_cases hlt : k < ss.length
        · obtain ⟨s, hsk⟩ : ∃ s, ss[k]? = some s := ⟨_, List.getElem?_eq_getElem hlt⟩
          obtain ⟨g, o, rfl, c1, hz⟩ := (Hs.out.grow (hg.trans hg3)) k s hsk
          have src := Lib.hid (src_all (Hok.out s (List.mem_of_getElem? hsk)) hz)
          have hn2 : n + s.xs.length = (fl (ss.take (k + 1))).length := by rw [fl_succ hsk, List.length_append, ← Hn.out]
          have hfl := Lib.hid (fl_succ hsk)
          have hb := fl_len ss (k + 1)
          rw [← hn2] at hb
          have Hn2 := Lib.hid hn2
          clear hn2 hsk hz
          go_wp2_with (at_builtin; refine wpList_append_src rfl _ _ rfl wa.heap.size _ n (fl (ss.take k)) rfl Own3.out _ s.xs rfl src.out (by omega) hg3.size ?_; intro v' w7 hown' hgrow)
          have hg7 : Grow wa w7 := grow_own hg3 hgrow Own3.out
          have Own7 := Lib.hid hown'
          clear hgrow hown'
          go_wp2
          go_roundw
          case rel => exact ⟨k + 1, n + s.xs.length, by omega, by go_num, Hn2.out, by rw [hfl.out]; exact Own7.out, hg7⟩
          case measure => simp [intOf]; omega
        · obtain rfl : k = ss.length := by omega
          have own := Own3.out
          have hn := Hn.out
          rw [List.take_length] at own hn
          rw [hn] at own
          obtain ⟨B, cap, rfl, hz, hk⟩ := own_zin' own (Hs.out.grow (hg.trans hg3)).vsl
          have Fin := Lib.hid (And.intro hz hk)
          clear own hn hz hk
          go_wp2
          go_ret
          exact ⟨B, cap, rfl, Fin.out.1, Fin.out.2, hg.trans hg3⟩
end Go.Proofs.Ytjhcbehnopmnpaa

/-
  The reference's Fit, Sum, Of.
-/
namespace Go.Proofs.Ytjhcbehnopmnpaa
open Go.RowKit Go.Calm
set_option linter.unusedSimpArgs false
set_option linter.unusedVariables false

theorem addZ_bd {K : Int} : ∀ (l z : List Z) {M : Int}, 0 ≤ M → 0 ≤ K → bdZ M z → bdZ K l → bdZ (M + K * l.length) (addZ z l)
  | [], z, M, _, _, hz, _ => by simpa [addZ] using hz
  | x :: l, z, M, hM, hK, hz, hl => by
    have h1 := putZ_bd (r := x.1) (n := x.2) hz hM (hl x (by simp)).1 (hl x (by simp)).2
    have h2 := addZ_bd l (putZ z x.1 x.2) (M := M + K) (by omega) hK h1 (fun y hy => hl y (by simp [hy]))
    rw [addZ_cons]
    intro y hy
    have := h2 y hy
    rw [List.length_cons, Int.natCast_succ, Int.mul_add, Int.mul_one]
    omega
theorem setZ_bd {K : Int} {l : List Z} (hK : 0 ≤ K) (hl : bdZ K l) : bdZ (K * l.length) (setZ l) := fun y hy => by
  have := addZ_bd l [] (M := 0) (by omega) hK (fun x hx => by simp at hx) hl y hy
  omega
theorem setZ_snoc (l : List Z) (x : Z) : setZ (l ++ [x]) = putZ (setZ l) x.1 x.2 := by unfold setZ addZ; rw [List.foldl_append]; rfl
/-- rows that may be put into a set -/
def Pl (l : List Z) : Prop := (∀ x ∈ l, x.1.length ≤ 1000 ∧ ∀ v ∈ x.1, RV v) ∧ bdZ 1000000 l
theorem Pl.snoc {l : List Z} {x : Z} (h : Pl l) (h1 : x.1.length ≤ 1000) (h2 : ∀ v ∈ x.1, RV v) (h3 : -1000000 ≤ x.2 ∧ x.2 ≤ 1000000) : Pl (l ++ [x]) := by
  refine ⟨fun y hy => ?_, fun y hy => ?_⟩
  · rcases List.mem_append.1 hy with hy | hy
    · exact h.1 y hy
    · simp at hy; subst hy; exact ⟨h1, h2⟩
  · rcases List.mem_append.1 hy with hy | hy
    · exact h.2 y hy
    · simp at hy; subst hy; exact h3
theorem Pl.nil : Pl [] := ⟨fun x hx => by simp at hx, fun x hx => by simp at hx⟩
/-- a set being made, in a slice -/
structure PutSt (w wr : World) (t : Value) (l : List Z) : Prop where
  sl : ∃ (B : Option Addr) (ys : List I) (cap : Nat), t = .slice B ys.length cap ∧ ZIn wr B ys ∧ ys.map zOf = setZ l ∧ SlOk B ys.length cap
  grow : Grow w wr
  pl : Pl l
theorem PutSt.nil (w wr : World) (hg : Grow w wr) : PutSt w wr (.slice none 0 0) [] := ⟨⟨none, [], 0, rfl, zin_nil _ _, rfl, SlOk.nil⟩, hg, Pl.nil⟩
theorem PutSt.more {w wr wq : World} {t : Value} {l : List Z} (h : PutSt w wr t l) (hg : Grow wr wq) : PutSt w wq t l := by
  obtain ⟨⟨B, ys, cap, h1, h2, h3, h4⟩, h5, h6⟩ := h
  exact ⟨⟨B, ys, cap, h1, h2.grow hg, h3, h4⟩, h5.trans hg, h6⟩
theorem put_step {w wr : World} {t : Value} {l : List Z} (h : PutSt w wr t l) (row : List V) (Ar : Option Addr) (cr : Nat) (n : Int) (hx : VSl wr Ar row) (hl : row.length ≤ 1000) (hr : ∀ v ∈ row, RV v) (hn : -1000000 ≤ n ∧ n ≤ 1000000) (hlen : l.length ≤ 5000) :
    Calls Try.prog 128 #[t, .slice Ar row.length cr, .int .i64 n] wr fun en w' => ∃ v, en = .returned v ∧ PutSt w w' v (l ++ [(row, n)]) ∧ Grow wr w' := by
  obtain ⟨⟨B, ys, cap, rfl, hz, hm, hk⟩, hg, hp⟩ := h
  have hlen2 : ys.length ≤ 5000 := by
    have h1 := congrArg List.length hm
    have h2 := setZ_len l
    simp at h1
    omega
  have hrow : ∀ x ∈ ys, x.row.length ≤ 1000 := fun x hx => by
    have h1 : zOf x ∈ setZ l := by rw [← hm]; exact List.mem_map_of_mem hx
    obtain ⟨u, hu, e⟩ := setZ_mem h1
    have := (hp.1 u hu).1
    have e2 : x.row = bareR u.1 := e
    rw [e2]
    simpa [bareR] using this
  have hw : ∀ x ∈ ys, -1000000000000000 ≤ x.w ∧ x.w ≤ 1000000000000000 := fun x hx => by
    have h1 : zOf x ∈ setZ l := by rw [← hm]; exact List.mem_map_of_mem hx
    have h2 := setZ_bd (by omega) hp.2 _ h1
    simp only [zOf] at h2
    omega
  refine (put_any ys B cap row Ar cr n wr hlen2 hk hz hrow hw hl hr hx (by omega)).mono ?_
  rintro en w' ⟨C, zs, cap2, rfl, hz2, hm2, hk2, hg2⟩
  exact ⟨_, rfl, ⟨⟨C, zs, cap2, rfl, hz2, by rw [hm2, hm, setZ_snoc], hk2⟩, hg.trans hg2, hp.snoc hl hr hn⟩, hg2⟩
set_option maxRecDepth 100000 in
set_option maxHeartbeats 4000000 in
theorem rfit_any (xs : List I) (A : Option Addr) (c : Nat) (w : World) (hlen : xs.length ≤ 9223372036854775807) (hz : ZIn w A xs) (hok : SlOk A xs.length c) :
    Calls Try.prog 129 #[.slice A xs.length c] w fun en w' => Gives w w' en (fitZ (xs.map zOf)) := by
  have Hz := Lib.hid hz
  have Hok := Lib.hid hok
  obtain ⟨B, hB⟩ : ∃ b, (xs.map zOf).any (fun x => bigW x.2) = b := ⟨_, rfl⟩
  have HB := Lib.hid hB
  clear hz hok hB
  go_enter Try.func129, Try.ntmps129
  go_wp2
  go_loopw [8] (fun i wr => ∃ k : Nat, k ≤ xs.length ∧ i = .int .i64 k ∧ ((xs.drop k).map zOf).any (fun x => bigW x.2) = B ∧ Grow w wr) (fun i _ => xs.length - (intOf i).toNat)
  case atStart => exact ⟨0, Nat.zero_le _, rfl, HB.out, Grow.refl _⟩
  case round =>
    obtain ⟨k, hk, rfl, hinv, hg⟩ := hrel
    have Inv := Lib.hid hinv
    clear hinv
    by_cases hlt : k < xs.length
    · obtain ⟨x, hxk⟩ : ∃ x, xs[k]? = some x := ⟨_, List.getElem?_eq_getElem hlt⟩
      obtain ⟨gx, ox, rfl, c1, c2, hxv⟩ := (Hz.out.grow hg) k x hxk
      have inv2 := (any_at hxk).symm.trans Inv.out
      have Inv2 := Lib.hid inv2
      clear inv2 hxk hxv
      by_cases h1 : bigW x.w = true
      · go_wp2_with (go_at_call 117; ((with_reducible refine (big_any _ _).mono ?_); rintro e w3 ⟨rfl, rfl⟩; rw [h1]))
        refine bodyPost_ret (by simp [results, Try.results129, go_sem] <;> rfl) rfl ?_
        have fin : B = true := by have := Inv2.out; rw [h1, Bool.true_or] at this; exact this.symm
        have e : fitZ (xs.map zOf) = ([], 3) := by unfold fitZ; rw [if_pos (HB.out.trans fin)]
        exact ⟨none, [], 0, by rw [e]; rfl, zin_nil _ _, by rw [e]; rfl, SlOk.nil, hg.al _⟩
      · have h1' : bigW x.w = false := by simpa using h1
        go_wp2_with (go_at_call 117; ((with_reducible refine (big_any _ _).mono ?_); rintro e w3 ⟨rfl, rfl⟩; rw [h1']))
        go_roundw
        case rel => exact ⟨k + 1, by omega, by go_num, by have := Inv2.out; rw [h1', Bool.false_or] at this; exact this, hg.al _⟩
        case measure => simp [intOf]; omega
    · obtain rfl : k = xs.length := by omega
      have fin : B = false := by have := Inv.out; rw [List.drop_length] at this; exact this.symm
      have fin2 : ¬ (xs.map zOf).any (fun x => bigW x.2) = true := by rw [HB.out, fin]; simp
      have Fin2 := Lib.hid fin2
      clear fin2
      by_cases h4 : 400 < xs.length
      · have d4 : decide ((400 : Int) < (xs.length : Int)) = true := decide_eq_true (by omega)
        go_wp2
        refine bodyPost_ret (by simp [results, Try.results129, go_sem] <;> rfl) rfl ?_
        have e : fitZ (xs.map zOf) = ([], 5) := by unfold fitZ; rw [if_neg Fin2.out, if_pos (by simpa using h4)]
        exact ⟨none, [], 0, by rw [e]; rfl, zin_nil _ _, by rw [e]; rfl, SlOk.nil, hg⟩
      · have d4 : decide ((400 : Int) < (xs.length : Int)) = false := decide_eq_false (by omega)
        go_wp2
        refine bodyPost_ret (by simp [results, Try.results129, go_sem] <;> rfl) rfl ?_
        have e : fitZ (xs.map zOf) = (xs.map zOf, 0) := by unfold fitZ; rw [if_neg Fin2.out, if_neg (by simpa using h4)]
        exact ⟨A, xs, c, by rw [e], Hz.out.grow hg, by rw [e], Hok.out, hg⟩
theorem take_snoc {xs : List I} {k : Nat} {x : I} (h : xs[k]? = some x) : (xs.take (k + 1)).map zOf = (xs.take k).map zOf ++ [(x.row, x.w)] := by
  obtain ⟨h1, e1⟩ := List.getElem?_eq_some_iff.1 h
  rw [List.take_succ_eq_append_getElem h1, e1]; simp [zOf]
theorem take_len' (xs : List I) (k : Nat) : ((xs.take k).map zOf).length ≤ k := by simp; omega
set_option maxRecDepth 100000 in
set_option maxHeartbeats 4000000 in
theorem rsum_any (xs : List I) (A : Option Addr) (c : Nat) (w : World) (hlen : xs.length ≤ 5000) (hz : ZIn w A xs) (hrow : ∀ x ∈ xs, x.row.length ≤ 1000) (hrv : ∀ x ∈ xs, ∀ v ∈ x.row, RV v) (hw : ∀ x ∈ xs, -1000000 ≤ x.w ∧ x.w ≤ 1000000) :
    Calls Try.prog 119 #[.slice A xs.length c] w fun en w' => Gives w w' en (sumZ (xs.map zOf)) := by
  have Hz := Lib.hid hz
  have Hrow := Lib.hid hrow
  have Hrv := Lib.hid hrv
  have Hw := Lib.hid hw
  clear hz hrow hrv hw
  go_enter Try.func119, Try.ntmps119
  go_wp2
  go_loopw [4, 9] (fun t i wr => ∃ k : Nat, k ≤ xs.length ∧ i = .int .i64 k ∧ PutSt w wr t ((xs.take k).map zOf)) (fun _ i _ => xs.length - (intOf i).toNat)
  case atStart => exact ⟨0, Nat.zero_le _, rfl, PutSt.nil _ _ (Grow.refl _)⟩
  case round =>
    obtain ⟨k, hk, rfl, hst⟩ := hrel
    have hg := hst.grow
    have St := Lib.hid hst
    clear hst
    by_cases hlt : k < xs.length
    · obtain ⟨x, hxk⟩ : ∃ x, xs[k]? = some x := ⟨_, List.getElem?_eq_getElem hlt⟩
      obtain ⟨gx, ox, rfl, c1, c2, hxv⟩ := (Hz.out.grow hg) k x hxk
      have hmem := List.mem_of_getElem? hxk
      have cp := fun W (h : Grow wr W) => put_step (St.out.more h) x.row x.A x.cap x.w (hxv.grow h) (Hrow.out x hmem) (Hrv.out x hmem) (Hw.out x hmem) (by have := take_len' xs k; omega)
      rw [← take_snoc hxk] at cp
      clear hxk hxv hmem
      go_wp2_with (go_at_call 128; ((with_reducible refine (cp _ (by repeat (first | (with_reducible exact Grow.refl _) | (with_reducible assumption) | (with_reducible refine Grow.set ?_ (by first | (simp; done) | (simp; omega)) _) | (with_reducible refine Grow.al ?_ _) | (with_reducible refine Grow.drew ?_) | (with_reducible refine Grow.drewN ?_ _) | (with_reducible refine Grow.trans ?_ (by assumption))))).mono ?_); rintro e w3 ⟨v, rfl, hst3, hg3⟩; have St3 := Lib.hid hst3; clear hst3))
      go_roundw
      case rel => exact ⟨k + 1, by omega, by go_num, St3.out⟩
      case measure => simp [intOf]; omega
    · obtain rfl : k = xs.length := by omega
      have hst := St.out
      rw [List.take_length] at hst
      obtain ⟨⟨B, ys, cap, rfl, hzy, hm, hky⟩, _, hp⟩ := hst
      have hl2 : ys.length ≤ 9223372036854775807 := by
        have h1 := congrArg List.length hm
        have h2 := setZ_len (xs.map zOf)
        simp at h1 h2
        omega
      have cf := rfit_any ys B cap wr hl2 hzy hky
      rw [hm] at cf
      clear hzy hm hky hp
      go_wp2_with (go_at_call 129; ((with_reducible refine cf.mono ?_); rintro en w3 ⟨C, zs, cap2, rfl, hz3, hm3, hk3, hg3⟩; have Fin := Lib.hid (And.intro hz3 (And.intro hm3 hk3)); clear hz3 hm3 hk3))
      refine bodyPost_ret (by simp [results, Try.results119, go_sem] <;> rfl) rfl ?_
      exact ⟨C, zs, cap2, rfl, Fin.out.1, Fin.out.2.1, Fin.out.2.2, hg.trans hg3⟩
end Go.Proofs.Ytjhcbehnopmnpaa

/-
  zsets.Add, each, Neg, Sub, Positive, Distinct.
-/
namespace Go.Proofs.Ytjhcbehnopmnpaa
open Go.RowKit Go.Calm
set_option linter.unusedSimpArgs false
set_option linter.unusedVariables false

/-- two sets side by side in new memory -/
theorem sin_two {w : World} {g : Nat} {t : TypeId} {s1 s2 : S} (hb : Blk w g t #[.slice s1.A s1.xs.length s1.cap, .slice s2.A s2.xs.length s2.cap]) (h1 : ZIn w s1.A s1.xs) (h2 : ZIn w s2.A s2.xs) : SIn w (some ⟨g, 0, none⟩) [s1, s2] := fun i s hs => by
  match i, hs with
  | 0, hs => simp at hs; subst hs; exact ⟨g, 0, rfl, by rw [hb.cell]; rfl, h1⟩
  | 1, hs => simp at hs; subst hs; exact ⟨g, 0, rfl, by rw [hb.cell]; rfl, h2⟩
theorem sin_one {w : World} {g : Nat} {t : TypeId} {s1 : S} (hb : Blk w g t #[.slice s1.A s1.xs.length s1.cap]) (h1 : ZIn w s1.A s1.xs) : SIn w (some ⟨g, 0, none⟩) [s1] := fun i s hs => by
  match i, hs with
  | 0, hs => simp at hs; subst hs; exact ⟨g, 0, rfl, by rw [hb.cell]; rfl, h1⟩
/-- a set's slice as it came in -/
structure In (w : World) (s : S) : Prop where
  z : ZIn w s.A s.xs
  sl : SlOk s.A s.xs.length s.cap
  ok : s.ok
theorem In.grow {w w' : World} {s : S} (h : In w s) (hg : Grow w w') : In w' s := ⟨h.z.grow hg, h.sl, h.ok⟩
def S.v (s : S) : Value := .slice s.A s.xs.length s.cap

theorem both_eq (x y : List Z) (t : Int) : bothZ x y t = if rightZ [x, y] ≠ 0 then ([], rightZ [x, y]) else sumZ (x ++ scaleZ t y) := by
  unfold bothZ rightZ
  by_cases h1 : wrongZ x = 0
  · by_cases h2 : wrongZ y = 0
    · simp [rightZ, h1, h2]
    · simp [rightZ, h1, h2]
  · simp [h1]
theorem right_two {x y : List Z} (h : rightZ [x, y] = 0) : wrongZ x = 0 ∧ wrongZ y = 0 := by
  unfold rightZ at h
  split at h
  · rename_i h1; exact absurd h h1
  · rename_i h1
    unfold rightZ at h
    split at h
    · rename_i h2; exact absurd h h2
    · rename_i h2
      exact ⟨by simpa using h1, by simpa using h2⟩
/-- what is right, as the walks want it -/
theorem S.facts {s : S} (h : wrongZ s.z = 0) : s.xs.length ≤ 400 ∧ (∀ x ∈ s.xs, x.row.length ≤ 8) ∧ (∀ x ∈ s.xs, ∀ v ∈ x.row, RV v) ∧ ∀ x ∈ s.xs, -1000000 ≤ x.w ∧ x.w ≤ 1000000 := by
  have h := (wrongZ_zero _).1 h
  exact ⟨by simpa [S.z] using h.len, fun x hx => (h.row (zOf x) (List.mem_map_of_mem hx)).1, fun x hx => (h.row (zOf x) (List.mem_map_of_mem hx)).2, fun x hx => (h.w (zOf x) (List.mem_map_of_mem hx)).2⟩
theorem fl_two (a b : S) : fl [a, b] = a.xs ++ b.xs := by simp [fl]
/-- the sum of two right sets put one behind the other -/
theorem sum_two (a b : S) (B : Option Addr) (cap : Nat) (w : World) (hz : ZIn w B (fl [a, b])) (ha : wrongZ a.z = 0) (hb : wrongZ b.z = 0) :
    Calls Try.prog 118 #[.slice B (fl [a, b]).length cap] w fun en w' => Gives w w' en (sumZ (a.z ++ b.z)) := by
  obtain ⟨a1, a2, a3, a4⟩ := S.facts ha
  obtain ⟨b1, b2, b3, b4⟩ := S.facts hb
  have e : (fl [a, b]).map zOf = a.z ++ b.z := by rw [fl_two, List.map_append]; rfl
  rw [← e]
  have mem : ∀ x ∈ fl [a, b], x ∈ a.xs ∨ x ∈ b.xs := fun x hx => by rw [fl_two] at hx; exact List.mem_append.1 hx
  refine sum_any _ _ _ _ (by rw [fl_two, List.length_append]; omega) hz (fun x hx => ?_) (fun x hx => ?_) (fun x hx => ?_)
  · rcases mem x hx with h | h
    · have := a2 x h; omega
    · have := b2 x h; omega
  · rcases mem x hx with h | h
    · exact a3 x h
    · exact b3 x h
  · rcases mem x hx with h | h
    · exact a4 x h
    · exact b4 x h
theorem zright_two (a b : S) (g : Nat) (w : World) (t : TypeId) (h : Blk w g t #[.slice a.A a.xs.length a.cap, .slice b.A b.xs.length b.cap]) (ha : In w a) (hb : In w b) :
    Calls Try.prog 126 #[.slice (some ⟨g, 0, none⟩) 2 2] w fun en w' => en = .returned (.int .i64 (rightZ [a.z, b.z])) ∧ Grow w w' :=
  zright_any [a, b] (some ⟨g, 0, none⟩) 2 w (by simp) (sin_two h ha.z hb.z) (fun s hs => by simp at hs; rcases hs with rfl | rfl; exact ha.ok; exact hb.ok) _ rfl
theorem zright_one (a : S) (g : Nat) (w : World) (t : TypeId) (h : Blk w g t #[.slice a.A a.xs.length a.cap]) (ha : In w a) :
    Calls Try.prog 126 #[.slice (some ⟨g, 0, none⟩) 1 1] w fun en w' => en = .returned (.int .i64 (wrongZ a.z)) ∧ Grow w w' :=
  zright_any [a] (some ⟨g, 0, none⟩) 1 w (by simp) (sin_one h ha.z) (fun s hs => by simp at hs; rcases hs with rfl; exact ha.ok) _ (by simp only [List.map_cons, List.map_nil, rightZ]; split; rfl; simp_all)
theorem concat_two (a b : S) (g : Nat) (w : World) (t : TypeId) (h : Blk w g t #[.slice a.A a.xs.length a.cap, .slice b.A b.xs.length b.cap]) (ha : In w a) (hb : In w b) (hl : a.xs.length + b.xs.length ≤ 10000) :
    Calls Try.prog 127 #[.slice (some ⟨g, 0, none⟩) 2 2] w fun en w' => ∃ (B : Option Addr) (cap : Nat), en = .returned (.slice B (fl [a, b]).length cap) ∧ ZIn w' B (fl [a, b]) ∧ SlOk B (fl [a, b]).length cap ∧ Grow w w' :=
  concat_any [a, b] (some ⟨g, 0, none⟩) 2 w (by simp) (sin_two h ha.z hb.z) (by rw [fl_two, List.length_append]; omega) (fun s hs => by simp at hs; rcases hs with rfl | rfl; exact ha.sl; exact hb.sl)
set_option maxRecDepth 100000 in
set_option maxHeartbeats 4000000 in
theorem add_any (a b : S) (w : World) (ha : In w a) (hb : In w b) :
    Calls Try.prog 77 #[.slice a.A a.xs.length a.cap, .slice b.A b.xs.length b.cap] w fun en w' => Gives w w' en (bothZ a.z b.z 1) := by
  have Ha := Lib.hid ha
  have Hb := Lib.hid hb
  clear ha hb
  go_enter Try.func77, Try.ntmps77
  obtain ⟨E, hE⟩ : ∃ E, rightZ [a.z, b.z] = E := ⟨_, rfl⟩
  have cr := fun W (h1 : Blk W w.heap.size 62 #[.slice a.A a.xs.length a.cap, .slice b.A b.xs.length b.cap]) (hg : Grow w W) => zright_two a b w.heap.size W _ h1 (Ha.out.grow hg) (Hb.out.grow hg)
  rw [hE] at cr
  have HE := Lib.hid hE
  clear hE
  go_upto_region 2 with (go_at_call 126; ((with_reducible refine (cr _ (Blk.new _ _ _) (by repeat (first | (with_reducible exact Grow.refl _) | (with_reducible assumption) | (with_reducible refine Grow.set ?_ (by first | (simp; done) | (simp; omega)) _) | (with_reducible refine Grow.al ?_ _) | (with_reducible refine Grow.drew ?_) | (with_reducible refine Grow.drewN ?_ _) | (with_reducible refine Grow.trans ?_ (by assumption))))).mono ?_); rintro e w2 ⟨rfl, hg2⟩))
  have G2 := ((Grow.refl w).al _).trans hg2
  clear cr
  by_cases h0 : E = 0
  · have d0 : (E != 0) = false := by simpa using h0
    obtain ⟨ra, rb⟩ := right_two (HE.out.trans h0)
    obtain ⟨a1, a2, a3, a4⟩ := S.facts ra
    obtain ⟨b1, b2, b3, b4⟩ := S.facts rb
    have cc := fun W (h1 : Blk W w2.heap.size 62 #[.slice a.A a.xs.length a.cap, .slice b.A b.xs.length b.cap]) (hg : Grow w W) => concat_two a b w2.heap.size W _ h1 (Ha.out.grow hg) (Hb.out.grow hg) (by omega)
    have fin : bothZ a.z b.z 1 = sumZ (a.z ++ b.z) := by rw [both_eq, HE.out, if_neg (by simpa using h0), scale_one]
    have Fin := Lib.hid fin
    have cs := fun B cap W hz => sum_two a b B cap W hz ra rb
    clear fin ra rb a1 a2 a3 a4 b1 b2 b3 b4
    go_wp2_with (first
      | (go_at_call 127; ((with_reducible refine (cc _ (Blk.new _ _ _) (G2.al _)).mono ?_); rintro e w3 ⟨B, cap, rfl, hz3, hk3, hg3⟩; have Hz3 := Lib.hid hz3; clear hz3 hk3))
      | (go_at_call 118; ((with_reducible refine (cs _ _ _ Hz3.out).mono ?_); rintro e w4 ⟨C, zs, cap2, rfl, hz4, hm4, hk4, hg4⟩; have Out := Lib.hid (And.intro hz4 (And.intro hm4 hk4)); clear hz4 hm4 hk4)))
    refine bodyPost_ret (by simp [results, Try.results77, go_sem] <;> rfl) rfl ?_
    exact ⟨C, zs, cap2, by rw [Fin.out], Out.out.1, by rw [Fin.out]; exact Out.out.2.1, Out.out.2.2, ((G2.al _).trans hg3).trans hg4⟩
  · have d0 : (E != 0) = true := by simpa using h0
    go_wp2
    refine bodyPost_ret (by simp [results, Try.results77, go_sem] <;> rfl) rfl ?_
    have e : bothZ a.z b.z 1 = ([], E) := by rw [both_eq, HE.out, if_pos h0]
    exact ⟨none, [], 0, by rw [e]; rfl, zin_nil _ _, by rw [e]; rfl, SlOk.nil, G2⟩

theorem DV.kept {w w' : World} {base n g : Nat} {v : Value} {xs : List Value} {r : List V} (h : DV w g r) (hown : w.ownsRow base 71 2 v n xs) (hg : w.grownBy w' v.ownBlock) : DV w' g r := by
  have h1 := hg.block g h.lt (fun e => by
    rcases hown.2 with ⟨rfl, _⟩ | ⟨g', cap, cur, rfl, _, hgb, _⟩
    · simp [Value.ownBlock] at e
    · simp [Value.ownBlock] at e
      subst e
      have h2 : w.heap[g]? = some (.cells (flatW r).toArray 29 (0, 0)) := h
      rw [hgb] at h2
      simp at h2)
  exact h1.trans h
theorem eachL_snoc (f : Int → Int) {xs : List I} {k : Nat} {x : I} (h : xs[k]? = some x) : eachL f ((xs.take (k + 1)).map zOf) = eachL f ((xs.take k).map zOf) ++ (if f x.w ≠ 0 then [(bareR x.row, f x.w)] else []) := by
  obtain ⟨h1, e1⟩ := List.getElem?_eq_some_iff.1 h
  rw [List.take_succ_eq_append_getElem h1, e1]
  unfold eachL
  simp only [List.map_append, List.filter_append, List.map_cons, List.map_nil, zOf]
  by_cases hf : f x.w = 0
  · simp [hf]
  · simp [hf]
end Go.Proofs.Ytjhcbehnopmnpaa

/-
  The reference's Of, Both, Weight.
-/
namespace Go.Proofs.Ytjhcbehnopmnpaa
open Go.RowKit Go.Calm
set_option linter.unusedSimpArgs false
set_option linter.unusedVariables false

set_option maxRecDepth 100000 in
set_option maxHeartbeats 4000000 in
theorem rof_any (xs : List I) (A : Option Addr) (c : Nat) (w : World) (hlen : xs.length ≤ 9223372036854775807) (hz : ZIn w A xs) (hl : ∀ x ∈ xs, x.row.length ≤ 9223372036854775807) :
    Calls Try.prog 69 #[.slice A xs.length c] w fun en w' => Gives w w' en (ofZ (xs.map zOf)) := by
  have Hz := Lib.hid hz
  have Hl := Lib.hid hl
  clear hz hl
  go_enter Try.func69, Try.ntmps69
  by_cases h8 : 1600 < xs.length
  · have d8 : decide ((1600 : Int) < (xs.length : Int)) = true := decide_eq_true (by omega)
    go_wp2
    refine bodyPost_ret (by simp [results, Try.results69, go_sem] <;> rfl) rfl ?_
    have e : ofZ (xs.map zOf) = ([], 5) := by unfold ofZ; rw [if_pos (by simpa using h8)]
    exact ⟨none, [], 0, by rw [e]; rfl, zin_nil _ _, by rw [e]; rfl, SlOk.nil, Grow.refl _⟩
  · have d8 : decide ((1600 : Int) < (xs.length : Int)) = false := decide_eq_false (by omega)
    obtain ⟨R, hR⟩ : ∃ R, ofGo (xs.map zOf) = R := ⟨_, rfl⟩
    have e : ofZ (xs.map zOf) = if R ≠ 0 then ([], R) else sumZ (xs.map zOf) := by unfold ofZ; rw [if_neg (by simpa using h8), hR]
    have E := Lib.hid e
    have HR := Lib.hid hR
    clear e hR
    go_wp2
    go_loopw [12] (fun i wr => ∃ k : Nat, k ≤ xs.length ∧ i = .int .i64 k ∧ ofGo ((xs.drop k).map zOf) = R ∧ Grow w wr) (fun i _ => xs.length - (intOf i).toNat)
    case atStart => exact ⟨0, Nat.zero_le _, rfl, HR.out, Grow.refl _⟩
    case round =>
      obtain ⟨k, hk, rfl, hinv, hg⟩ := hrel
      have Inv := Lib.hid hinv
      clear hinv
      by_cases hlt : k < xs.length
      · obtain ⟨x, hxk⟩ : ∃ x, xs[k]? = some x := ⟨_, List.getElem?_eq_getElem hlt⟩
        obtain ⟨gx, ox, rfl, c1, c2, hxv⟩ := (Hz.out.grow hg) k x hxk
        have hlx := Hl.out x (List.mem_of_getElem? hxk)
        have inv2 := (ofGo_at hxk).symm.trans Inv.out
        have Hxv := Lib.hid hxv
        have cb := fun W (h : Grow wr W) (R : Int) (hR : rowE x.row = R) => rrow_any x.row x.A x.cap W hlx (Hxv.out.grow h) R hR
        obtain ⟨rx, hrx⟩ : ∃ r, rowE x.row = r := ⟨_, rfl⟩
        rw [hrx] at inv2
        have Inv2 := Lib.hid inv2
        clear inv2 hxk hxv
        go_upto_region 6 with fail
        refine wp_forget (fun X => Blk X wr.heap.size 71 #[.slice x.A x.row.length x.cap, .int .i64 x.w] ∧ Grow wr X) ⟨Blk.new _ _ _, (Grow.refl wr).al _⟩ ?_
        rintro X ⟨Bx, G⟩
        obtain ⟨bx, fx⟩ := Bx.rules
        by_cases hw : rx = 0
        · have dw : (rx != 0) = false := by simpa using hw
          rw [if_neg (by simpa using hw)] at Inv2
          go_upto_region 9 with (go_at_call 71; ((with_reducible refine (cb _ G rx hrx).mono ?_); rintro e w2 ⟨rfl, hg2⟩; have Bx2 := Lib.hid (Bx.grow hg2)))
          obtain ⟨bx2, fx2⟩ := Bx2.out.rules
          have G2 := G.trans hg2
          by_cases h1 : bigW x.w = true
          · go_wp2_with (go_at_call 117; ((with_reducible refine (big_any _ _).mono ?_); rintro e w3 ⟨rfl, rfl⟩; rw [h1]))
            refine bodyPost_ret (by simp [results, Try.results69, go_sem] <;> rfl) rfl ?_
            have r3 : R = 3 := by have := Inv2.out; rw [if_pos h1] at this; exact this.symm
            have e : ofZ (xs.map zOf) = ([], 3) := by rw [E.out, r3]; rfl
            exact ⟨none, [], 0, by rw [e]; rfl, zin_nil _ _, by rw [e]; rfl, SlOk.nil, hg.trans G2⟩
          · have h1' : bigW x.w = false := by simpa using h1
            go_wp2_with (go_at_call 117; ((with_reducible refine (big_any _ _).mono ?_); rintro e w3 ⟨rfl, rfl⟩; rw [h1']))
            go_roundw
            case rel => exact ⟨k + 1, by omega, by go_num, by have := Inv2.out; rw [if_neg h1] at this; exact this, hg.trans G2⟩
            case measure => simp [intOf]; omega
        · have dw : (rx != 0) = true := by simpa using hw
          go_wp2_with (go_at_call 71; ((with_reducible refine (cb _ G rx hrx).mono ?_); rintro e w2 ⟨rfl, hg2⟩))
          refine bodyPost_ret (by simp [results, Try.results69, go_sem] <;> rfl) rfl ?_
          have r3 : R = rx := by have := Inv2.out; rw [if_pos hw] at this; exact this.symm
          have e : ofZ (xs.map zOf) = ([], rx) := by rw [E.out, r3, if_pos hw]
          exact ⟨none, [], 0, by rw [e]; rfl, zin_nil _ _, by rw [e]; rfl, SlOk.nil, hg.trans (G.trans hg2)⟩
      · obtain rfl : k = xs.length := by omega
        have fin : R = 0 := by have := Inv.out; rw [List.drop_length] at this; exact this.symm
        have hok := (ofGo_zero _).1 (HR.out.trans fin)
        have cs := rsum_any xs A c wr (by omega) (Hz.out.grow hg) (fun x hx => by have := (hok (zOf x) (List.mem_map_of_mem hx)).1.1; simp [zOf] at this; omega) (fun x hx => (hok (zOf x) (List.mem_map_of_mem hx)).1.2) (fun x hx => (hok (zOf x) (List.mem_map_of_mem hx)).2)
        have e : ofZ (xs.map zOf) = sumZ (xs.map zOf) := by rw [E.out, fin]; rfl
        have E2 := Lib.hid e
        clear hok e
        go_wp2_with (go_at_call 119; ((with_reducible refine cs.mono ?_); rintro en w3 ⟨C, zs, cap2, rfl, hz3, hm, hk3, hg3⟩; have Fin := Lib.hid (And.intro hz3 (And.intro hm hk3)); clear hz3 hm hk3))
        refine bodyPost_ret (by simp [results, Try.results69, go_sem] <;> rfl) rfl ?_
        exact ⟨C, zs, cap2, by rw [E2.out], Fin.out.1, by rw [E2.out]; exact Fin.out.2.1, Fin.out.2.2, hg.trans hg3⟩
theorem PutSt.made (w wr : World) (A : Option Addr) (c : Nat) (hA : A ≠ none) (hg : Grow w wr) : PutSt w wr (.slice A 0 c) [] := ⟨⟨A, [], c, rfl, zin_nil _ _, rfl, Nat.zero_le _, fun e => absurd e hA⟩, hg, Pl.nil⟩
theorem scale_take {xs : List I} {k : Nat} {x : I} (t : Int) (h : xs[k]? = some x) : scaleZ t ((xs.take (k + 1)).map zOf) = scaleZ t ((xs.take k).map zOf) ++ [(x.row, t * x.w)] := by
  rw [take_snoc h]; simp [scaleZ]
set_option maxRecDepth 100000 in
set_option maxHeartbeats 8000000 in
theorem rboth_any (xs ys : List I) (A B : Option Addr) (c d : Nat) (t : Int) (ht : t = 1 ∨ t = -1) (w : World) (ha : In w ⟨A, xs, c⟩) (hb : In w ⟨B, ys, d⟩) :
    Calls Try.prog 78 #[.slice A xs.length c, .slice B ys.length d, .int .i64 t] w fun en w' => Gives w w' en (bothZ (xs.map zOf) (ys.map zOf) t) := by
  have Ha := Lib.hid ha
  have Hb := Lib.hid hb
  have hza : ZIn w A xs := ha.z
  have hzb : ZIn w B ys := hb.z
  have Hza := Lib.hid hza
  have Hzb := Lib.hid hzb
  have Ht := Lib.hid ht
  clear ha hb hza hzb ht
  go_enter Try.func78, Try.ntmps78
  obtain ⟨E, hE⟩ : ∃ E, wrongZ (xs.map zOf) = E := ⟨_, rfl⟩
  obtain ⟨F, hF⟩ : ∃ F, wrongZ (ys.map zOf) = F := ⟨_, rfl⟩
  have ca := fun W (h : Grow w W) => rwrongz_any xs A c W Ha.out.ok.1 (Hza.out.grow h) Ha.out.ok.2 E hE
  have cb := fun W (h : Grow w W) => rwrongz_any ys B d W Hb.out.ok.1 (Hzb.out.grow h) Hb.out.ok.2 F hF
  have HE := Lib.hid hE
  have HF := Lib.hid hF
  clear hE hF
  by_cases h0 : E = 0
  · have d0 : (E != 0) = false := by simpa using h0
    by_cases h1 : F = 0
    · have d1 : (F != 0) = false := by simpa using h1
      obtain ⟨a1, a2, a3, a4⟩ := S.facts (s := ⟨A, xs, c⟩) (HE.out.trans h0)
      obtain ⟨b1, b2, b3, b4⟩ := S.facts (s := ⟨B, ys, d⟩) (HF.out.trans h1)
      have a1 : xs.length ≤ 400 := a1
      have b1 : ys.length ≤ 400 := b1
      have A2 := Lib.hid a2
      have A3 := Lib.hid a3
      have A4 := Lib.hid a4
      have B2 := Lib.hid b2
      have B3 := Lib.hid b3
      have B4 := Lib.hid b4
      have fin : bothZ (xs.map zOf) (ys.map zOf) t = sumZ (xs.map zOf ++ scaleZ t (ys.map zOf)) := by unfold bothZ; rw [HE.out, HF.out, if_neg (by simpa using h0), if_neg (by simpa using h1)]
      have Fin := Lib.hid fin
      clear fin a2 a3 a4 b2 b3 b4
      go_upto_region 4 with (go_at_call 67; ((with_reducible refine (ca _ (Grow.refl _)).mono ?_); rintro e w2 ⟨rfl, hg2⟩))
      go_upto_region 7 with (go_at_call 67; ((with_reducible refine (cb _ hg2).mono ?_); rintro e w3 ⟨rfl, hg3⟩))
      have G3 := hg2.trans hg3
      go_wp2
      go_loopw [10, 28] (fun u i wr => ∃ k : Nat, k ≤ xs.length ∧ i = .int .i64 k ∧ PutSt w wr u ((xs.take k).map zOf)) (fun _ i _ => xs.length - (intOf i).toNat)
      case atStart => exact ⟨0, Nat.zero_le _, rfl, PutSt.made _ _ _ _ (by simp) (G3.al _)⟩
      case round =>
        obtain ⟨k, hk, rfl, hst⟩ := hrel
        have hg := hst.grow
        have St := Lib.hid hst
        clear hst
        by_cases hlt : k < xs.length
        · obtain ⟨x, hxk⟩ : ∃ x, xs[k]? = some x := ⟨_, List.getElem?_eq_getElem hlt⟩
          obtain ⟨gx, ox, rfl, c1, c2, hxv⟩ := (Hza.out.grow hg) k x hxk
          have hmem := List.mem_of_getElem? hxk
          have cp := fun W (h : Grow wr W) => put_step (St.out.more h) x.row x.A x.cap x.w (hxv.grow h) (by have := A2.out x hmem; omega) (A3.out x hmem) (A4.out x hmem) (by have := take_len' xs k; omega)
          rw [← take_snoc hxk] at cp
          clear hxk hxv hmem
          go_wp2_with (go_at_call 128; ((with_reducible refine (cp _ (by repeat (first | (with_reducible exact Grow.refl _) | (with_reducible assumption) | (with_reducible refine Grow.set ?_ (by first | (simp; done) | (simp; omega)) _) | (with_reducible refine Grow.al ?_ _) | (with_reducible refine Grow.drew ?_) | (with_reducible refine Grow.drewN ?_ _) | (with_reducible refine Grow.trans ?_ (by assumption))))).mono ?_); rintro e w3 ⟨v, rfl, hst3, hg3⟩; have St3 := Lib.hid hst3; clear hst3))
          go_roundw
          case rel => exact ⟨k + 1, by omega, by go_num, St3.out⟩
          case measure => simp [intOf]; omega
        · obtain rfl : k = xs.length := by omega
          have St0 : PutSt w wr u10 (xs.map zOf ++ scaleZ t ((ys.take 0).map zOf)) := by have := St.out; rw [List.take_length] at this; simpa [scaleZ] using this
          have St1 := Lib.hid St0
          clear St0 St
          go_wp2
          go_loopw [10, 41] (fun u i wr => ∃ k : Nat, k ≤ ys.length ∧ i = .int .i64 k ∧ PutSt w wr u (xs.map zOf ++ scaleZ t ((ys.take k).map zOf))) (fun _ i _ => ys.length - (intOf i).toNat)
          case atStart => exact ⟨0, Nat.zero_le _, rfl, St1.out⟩
          case round =>
            obtain ⟨k, hk, rfl, hst⟩ := hrel
            have hg := hst.grow
            have St := Lib.hid hst
            clear hst
            by_cases hlt : k < ys.length
            · obtain ⟨x, hxk⟩ : ∃ x, ys[k]? = some x := ⟨_, List.getElem?_eq_getElem hlt⟩
              obtain ⟨gx, ox, rfl, c1, c2, hxv⟩ := (Hzb.out.grow hg) k x hxk
              have hmem := List.mem_of_getElem? hxk
              have hw4 := B4.out x hmem
              have htw : -1000000 ≤ t * x.w ∧ t * x.w ≤ 1000000 := by rcases Ht.out with rfl | rfl <;> omega
              have hwp : IntKind.i64.wrap (t * x.w) = t * x.w := by rw [IntKind.wrap_i64]; omega
              have cp := fun W (h : Grow wr W) => put_step (St.out.more h) x.row x.A x.cap (t * x.w) (hxv.grow h) (by have := B2.out x hmem; omega) (B3.out x hmem) htw (by have := take_len' ys k; simp [scaleZ] at this ⊢; omega)
              rw [List.append_assoc, ← scale_take t hxk] at cp
              clear hxk hxv hmem
              go_wp2_with (go_at_call 128; ((with_reducible refine (cp _ (by repeat (first | (with_reducible exact Grow.refl _) | (with_reducible assumption) | (with_reducible refine Grow.set ?_ (by first | (simp; done) | (simp; omega)) _) | (with_reducible refine Grow.al ?_ _) | (with_reducible refine Grow.drew ?_) | (with_reducible refine Grow.drewN ?_ _) | (with_reducible refine Grow.trans ?_ (by assumption))))).mono ?_); rintro e w3 ⟨v, rfl, hst3, hg3⟩; have St3 := Lib.hid hst3; clear hst3))
              go_roundw
              case rel => exact ⟨k + 1, by omega, by go_num, St3.out⟩
              case measure => simp [intOf]; omega
            · obtain rfl : k = ys.length := by omega
              have hst := St.out
              rw [List.take_length] at hst
              obtain ⟨⟨D, zs, cap, rfl, hzy, hm, hky⟩, _, hp⟩ := hst
              have hl2 : zs.length ≤ 9223372036854775807 := by
                have h1 := congrArg List.length hm
                have h2 := setZ_len (xs.map zOf ++ scaleZ t (ys.map zOf))
                simp [scaleZ] at h1 h2
                omega
              have cf := rfit_any zs D cap wr hl2 hzy hky
              rw [hm] at cf
              clear hzy hm hky hp
              go_wp2_with (go_at_call 129; ((with_reducible refine cf.mono ?_); rintro en w3 ⟨C, us, cap2, rfl, hz3, hm3, hk3, hg3⟩; have Out := Lib.hid (And.intro hz3 (And.intro hm3 hk3)); clear hz3 hm3 hk3))
              refine bodyPost_ret (by simp [results, Try.results78, go_sem] <;> rfl) rfl ?_
              exact ⟨C, us, cap2, by rw [Fin.out]; rfl, Out.out.1, by rw [Fin.out]; exact Out.out.2.1, Out.out.2.2, hg.trans hg3⟩
    · have d1 : (F != 0) = true := by simpa using h1
      go_upto_region 4 with (go_at_call 67; ((with_reducible refine (ca _ (Grow.refl _)).mono ?_); rintro e w2 ⟨rfl, hg2⟩))
      go_wp2_with (go_at_call 67; ((with_reducible refine (cb _ hg2).mono ?_); rintro e w3 ⟨rfl, hg3⟩))
      refine bodyPost_ret (by simp [results, Try.results78, go_sem] <;> rfl) rfl ?_
      have e : bothZ (xs.map zOf) (ys.map zOf) t = ([], F) := by unfold bothZ; rw [HE.out, HF.out, if_neg (by simpa using h0), if_pos h1]
      exact ⟨none, [], 0, by rw [e]; rfl, zin_nil _ _, by rw [e]; rfl, SlOk.nil, hg2.trans hg3⟩
  · have d0 : (E != 0) = true := by simpa using h0
    go_wp2_with (go_at_call 67; ((with_reducible refine (ca _ (Grow.refl _)).mono ?_); rintro e w2 ⟨rfl, hg2⟩))
    refine bodyPost_ret (by simp [results, Try.results78, go_sem] <;> rfl) rfl ?_
    have e : bothZ (xs.map zOf) (ys.map zOf) t = ([], E) := by unfold bothZ; rw [HE.out, if_pos h0]
    exact ⟨none, [], 0, by rw [e]; rfl, zin_nil _ _, by rw [e]; rfl, SlOk.nil, hg2⟩
theorem weightG_at {xs : List I} {k : Nat} {x : I} {r : List V} (h : xs[k]? = some x) : weightG r ((xs.drop k).map zOf) = if ordR x.row r = 0 then x.w else weightG r ((xs.drop (k + 1)).map zOf) := by
  obtain ⟨h1, e1⟩ := List.getElem?_eq_some_iff.1 h
  rw [List.drop_eq_getElem_cons h1, e1]; rfl
set_option maxRecDepth 100000 in
set_option maxHeartbeats 8000000 in
theorem rweight_any (xs : List I) (A : Option Addr) (c : Nat) (r : List V) (Ar : Option Addr) (cr : Nat) (w : World) (ha : In w ⟨A, xs, c⟩) (hr : VSl w Ar r) (hl : r.length ≤ 9223372036854775807) :
    Calls Try.prog 73 #[.slice A xs.length c, .slice Ar r.length cr] w fun en w' => en = .returned (.int .i64 (weightG r (xs.map zOf))) ∧ Grow w w' := by
  have Ha := Lib.hid ha
  have hza : ZIn w A xs := ha.z
  have Hza := Lib.hid hza
  have Hr := Lib.hid hr
  have hlen : xs.length ≤ 9223372036854775807 := ha.ok.1
  clear ha hza hr
  obtain ⟨R, hR⟩ : ∃ R, weightG r (xs.map zOf) = R := ⟨_, rfl⟩
  rw [hR]
  have HR := Lib.hid hR
  clear hR
  go_enter Try.func73, Try.ntmps73
  go_wp2
  go_loopw [9] (fun i wr => ∃ k : Nat, k ≤ xs.length ∧ i = .int .i64 k ∧ weightG r ((xs.drop k).map zOf) = R ∧ Grow w wr) (fun i _ => xs.length - (intOf i).toNat)
  case atStart => exact ⟨0, Nat.zero_le _, rfl, HR.out, Grow.refl _⟩
  case round =>
    obtain ⟨k, hk, rfl, hinv, hg⟩ := hrel
    have Inv := Lib.hid hinv
    clear hinv
    by_cases hlt : k < xs.length
    · obtain ⟨x, hxk⟩ : ∃ x, xs[k]? = some x := ⟨_, List.getElem?_eq_getElem hlt⟩
      obtain ⟨gx, ox, rfl, c1, c2, hxv⟩ := (Hza.out.grow hg) k x hxk
      have hlx : x.row.length ≤ 9223372036854775807 := Ha.out.ok.2 x (List.mem_of_getElem? hxk)
      have cc := fun W (h : Grow wr W) => rrows_any x.row r x.A Ar x.cap cr W hlx hl (hxv.grow h) (Hr.out.grow (hg.trans h))
      obtain ⟨d, hd⟩ : ∃ d, rowsG ordV x.row r = d := ⟨_, rfl⟩
      rw [hd] at cc
      have inv2 := (weightG_at hxk).symm.trans Inv.out
      rw [show ordR x.row r = d from hd] at inv2
      have Inv2 := Lib.hid inv2
      clear hd hxk hxv inv2
      go_upto_region 4 with fail
      refine wp_forget (fun X => Blk X wr.heap.size 71 #[.slice x.A x.row.length x.cap, .int .i64 x.w] ∧ Grow wr X) ⟨Blk.new _ _ _, (Grow.refl wr).al _⟩ ?_
      rintro X ⟨Bx, G⟩
      obtain ⟨bx, fx⟩ := Bx.rules
      by_cases h0 : d = 0
      · have d0 : (d == 0) = true := by simpa using h0
        go_upto_region 5 with (go_at_call 27; ((with_reducible refine (cc _ G).mono ?_); rintro e w2 ⟨rfl, hg2⟩))
        obtain ⟨bx2, fx2⟩ := (Bx.grow hg2).rules
        go_wp2
        go_ret
        exact ret_int (by have := Inv2.out; rw [if_pos h0] at this; exact this) (hg.trans (G.trans hg2))
      · have d0 : (d == 0) = false := by simpa using h0
        go_wp2_with (go_at_call 27; ((with_reducible refine (cc _ G).mono ?_); rintro e w2 ⟨rfl, hg2⟩))
        go_roundw
        case rel => exact ⟨k + 1, by omega, by go_num, by have := Inv2.out; rw [if_neg h0] at this; exact this, hg.trans (G.trans hg2)⟩
        case measure => simp [intOf]; omega
    · obtain rfl : k = xs.length := by omega
      have fin : R = 0 := by have := Inv.out; rw [List.drop_length] at this; exact this.symm
      go_wp2
      go_ret
      exact ret_int fin.symm hg
end Go.Proofs.Ytjhcbehnopmnpaa

/-
  zsets.Weight: binary search.
-/
namespace Go.Proofs.Ytjhcbehnopmnpaa
open Go.RowKit Go.Calm
set_option linter.unusedSimpArgs false
set_option linter.unusedVariables false

theorem wt_miss {r : List V} (hr : ∀ v ∈ r, RV v) : ∀ {z : List Z}, (∀ y ∈ z, ∀ v ∈ y.1, RV v) → (∀ y ∈ z, ordR y.1 r ≠ 0) → wtZ z r = 0
  | [], _, _ => rfl
  | y :: z, hz, h => by
    rw [wtZ_cons, wt_miss hr (fun u hu => hz u (by simp [hu])) (fun u hu => h u (by simp [hu])), if_neg]
    · rfl
    · intro e
      exact h y (by simp) ((ordR_zero y.1 r (hz y (by simp)) hr).2 e)
theorem wt_hit {r : List V} (hr : ∀ v ∈ r, RV v) : ∀ {z : List Z} {x : Z}, (∀ y ∈ z, ∀ v ∈ y.1, RV v) → z.Pairwise (fun x y => ordR x.1 y.1 < 0) → x ∈ z → ordR x.1 r = 0 → wtZ z r = x.2
  | y :: z, x, hz, hu, hx, h => by
    have e := (ordR_zero x.1 r (hz x hx) hr).1 h
    rcases List.mem_cons.1 hx with rfl | hx
    · rw [wtZ_cons, if_pos e, wt_none (hz x (by simp)) (fun u hu => hz u (by simp [hu])) (List.pairwise_cons.1 hu).1 e]
      simp
    · rw [wtZ_cons, wt_hit hr (fun u hu => hz u (by simp [hu])) (List.pairwise_cons.1 hu).2 hx h, if_neg]
      · simp
      · intro e2
        have h1 := (List.pairwise_cons.1 hu).1 x hx
        have h2 := (ordR_zero y.1 x.1 (hz y (by simp)) (hz x (by simp [hx]))).2 (e2.trans e.symm)
        omega
abbrev wcmpF : Value := .func (.func 121) #[] #[]
set_option maxRecDepth 100000 in
theorem wcmp_fn (x : I) (r : List V) (Ar : Option Addr) (cr : Nat) (w : World) (hx : VSl w x.A x.row) (lx : x.row.length ≤ 9223372036854775807) (rx : ∀ v ∈ x.row, RV v) (hr : VSl w Ar r) (lr : r.length ≤ 9223372036854775807) (rr : ∀ v ∈ r, RV v) :
    Calls Try.prog 121 #[.agg #[.slice x.A x.row.length x.cap, .int .i64 x.w], .slice Ar r.length cr] w fun e w' => e = .returned (.int .i64 (ordR x.row r)) ∧ Grow w w' := by
  have c := fun W (h : Grow w W) => vrows_any x.row r x.A Ar x.cap cr W lx lr (hx.grow h) (hr.grow h)
  have e : rowsG cmpV x.row r = ordR x.row r := rows_cmp_ord _ _ rx rr
  rw [e] at c
  clear hx hr rx rr e
  go_enter Try.func121, Try.ntmps121
  go_wp2_with (go_at_call 26; ((with_reducible refine (c _ (by repeat (first | (with_reducible exact Grow.refl _) | (with_reducible assumption) | (with_reducible refine Grow.set ?_ (by first | (simp; done) | (simp; omega)) _) | (with_reducible refine Grow.al ?_ _) | (with_reducible refine Grow.drew ?_) | (with_reducible refine Grow.drewN ?_ _) | (with_reducible refine Grow.trans ?_ (by assumption))))).mono ?_); rintro e w' ⟨rfl, hg'⟩))
  go_ret
  exact ret_int rfl (by repeat (first | (with_reducible exact Grow.refl _) | (with_reducible assumption) | (with_reducible refine Grow.set ?_ (by first | (simp; done) | (simp; omega)) _) | (with_reducible refine Grow.al ?_ _) | (with_reducible refine Grow.drew ?_) | (with_reducible refine Grow.drewN ?_ _) | (with_reducible refine Grow.trans ?_ (by assumption))))
set_option maxRecDepth 100000 in
set_option maxHeartbeats 8000000 in
theorem bsearch_any (xs : List I) (A : Option Addr) (c : Nat) (r : List V) (Ar : Option Addr) (cr : Nat) (w : World) (hlen : xs.length ≤ 400) (hz : ZIn w A xs) (hl : ∀ x ∈ xs, x.row.length ≤ 8) (hrv : ∀ x ∈ xs, ∀ v ∈ x.row, RV v) (hup : ∀ (i j : Nat) (x y : I), xs[i]? = some x → xs[j]? = some y → i < j → ordR x.row y.row < 0) (hr : VSl w Ar r) (lr : r.length ≤ 1000) (rr : ∀ v ∈ r, RV v) :
    Calls Try.prog 120 #[.slice A xs.length c, .slice Ar r.length cr, wcmpF] w fun en w' => (∃ (k : Nat) (b : Bool), en = .returned (.tuple #[.int .i64 k, .bool b]) ∧ (b = true → ∃ x, xs[k]? = some x ∧ ordR x.row r = 0) ∧ (b = false → ∀ x ∈ xs, ordR x.row r ≠ 0)) ∧ Grow w w' := by
  have Hz := Lib.hid hz
  have Hl := Lib.hid hl
  have Hrv := Lib.hid hrv
  have Hup := Lib.hid hup
  have Hr := Lib.hid hr
  have Rr := Lib.hid rr
  clear hz hl hrv hup hr rr
  go_enter Try.func120, Try.ntmps120
  go_wp2
  go_loopw [9, 10] (fun si sj wr => ∃ (i j : Nat), si = .int .i64 (i : Int) ∧ sj = .int .i64 (j : Int) ∧ i ≤ j ∧ j ≤ xs.length ∧ (∀ t x, xs[t]? = some x → t < i → ordR x.row r < 0) ∧ (∀ t x, xs[t]? = some x → j ≤ t → 0 ≤ ordR x.row r) ∧ Grow w wr) (fun si sj _ => (intOf sj).toNat - (intOf si).toNat)
  case atStart => exact ⟨0, xs.length, rfl, rfl, Nat.zero_le _, Nat.le_refl _, fun t x h1 h2 => by omega, fun t x h1 h2 => by have := (List.getElem?_eq_some_iff.1 h1).1; omega, Grow.refl _⟩
  case round =>
    obtain ⟨i, j, rfl, rfl, hij, hjb, hlo, hhi, hg⟩ := hrel
    have Lo := Lib.hid hlo
    have Hi := Lib.hid hhi
    clear hlo hhi
    by_cases hlt : i < j
    · have dl : decide ((i : Int) < (j : Int)) = true := by simp; omega
      obtain ⟨h, eh⟩ : ∃ h : Nat, h = (i + j) / 2 := ⟨_, rfl⟩
      have eh2 : ((i : Int) + (j : Int)) / 2 = (h : Int) := by omega
      have h1 : i ≤ h := by omega
      have h2 : h < j := by omega
      have hbig : (i : Int) + j ≤ 200000 := by omega
      have hhN : h < xs.length := by omega
      obtain ⟨x, hxk⟩ : ∃ x, xs[h]? = some x := ⟨_, List.getElem?_eq_getElem hhN⟩
      obtain ⟨gx, ox, rfl, c1, c2, hxv⟩ := (Hz.out.grow hg) h x hxk
      have hmem := List.mem_of_getElem? hxk
      have cc := fun W (h : Grow wr W) => wcmp_fn x r Ar cr W (hxv.grow h) (by have := Hl.out x hmem; omega) (Hrv.out x hmem) (Hr.out.grow (hg.trans h)) (by omega) Rr.out
      obtain ⟨d, hd⟩ : ∃ d, ordR x.row r = d := ⟨_, rfl⟩
      rw [hd] at cc
      have Hd := Lib.hid hd
      have Hxk := Lib.hid hxk
      have Eh := Lib.hid eh
      have b0 : (0 : Int) ≤ (h : Int) := by omega
      have b1 : (h : Int) < (xs.length : Int) := by omega
      clear hd hxk hmem hxv eh
      by_cases hc : d < 0
      · have dc : decide (d < 0) = true := by simpa using hc
        have hnew : ∀ t y, xs[t]? = some y → t < h + 1 → ordR y.row r < 0 := fun t y ht hlt' => by
          by_cases e : t = h
          · subst e
            have := ht.symm.trans Hxk.out
            cases this
            rw [Hd.out]; exact hc
          · exact ordR_lt (Hup.out t h y x ht Hxk.out (by omega)) (by rw [Hd.out]; exact hc)
        have Hnew := Lib.hid hnew
        clear hnew
        go_wp2_with (go_at_call 121; ((with_reducible refine (cc _ (Grow.refl _)).mono ?_); rintro e w3 ⟨rfl, hg3⟩))
        go_roundw
        case rel => exact ⟨h + 1, j, by go_num, rfl, by omega, hjb, Hnew.out, Hi.out, hg.trans hg3⟩
        case measure => simp [intOf]; omega
      · have dc : decide (d < 0) = false := by simpa using hc
        have hnew : ∀ t y, xs[t]? = some y → h ≤ t → 0 ≤ ordR y.row r := fun t y ht hlt' => by
          by_cases e : t = h
          · subst e
            have := ht.symm.trans Hxk.out
            cases this
            rw [Hd.out]; omega
          · have h3 := Hup.out h t x y Hxk.out ht (by omega)
            have h4 := ordR_swap x.row r
            have h5 := ordR_trans (a := r) (b := x.row) (c := y.row) (by rw [h4, Hd.out]; omega) (by omega)
            have h6 := ordR_swap y.row r
            omega
        have Hnew := Lib.hid hnew
        clear hnew
        go_wp2_with (go_at_call 121; ((with_reducible refine (cc _ (Grow.refl _)).mono ?_); rintro e w3 ⟨rfl, hg3⟩))
        go_roundw
        case rel => exact ⟨i, h, rfl, by go_num, by omega, by omega, Lo.out, Hnew.out, hg.trans hg3⟩
        case measure => simp [intOf]; omega
    · obtain rfl : i = j := by omega
      have dl : decide ((i : Int) < (i : Int)) = false := by simp
      by_cases hn : i < xs.length
      · have dn : decide ((i : Int) < (xs.length : Int)) = true := by simp; omega
        obtain ⟨x, hxk⟩ : ∃ x, xs[i]? = some x := ⟨_, List.getElem?_eq_getElem hn⟩
        obtain ⟨gx, ox, rfl, c1, c2, hxv⟩ := (Hz.out.grow hg) i x hxk
        have hmem := List.mem_of_getElem? hxk
        have cc := fun W (h : Grow wr W) => wcmp_fn x r Ar cr W (hxv.grow h) (by have := Hl.out x hmem; omega) (Hrv.out x hmem) (Hr.out.grow (hg.trans h)) (by omega) Rr.out
        obtain ⟨d, hd⟩ : ∃ d, ordR x.row r = d := ⟨_, rfl⟩
        rw [hd] at cc
        have Hd := Lib.hid hd
        have Hxk := Lib.hid hxk
        have b0 : (0 : Int) ≤ (i : Int) := by omega
        have b1 : (i : Int) < (xs.length : Int) := by omega
        clear hd hxk hmem hxv
        have hres : ((d == 0) = true → ∃ x, xs[i]? = some x ∧ ordR x.row r = 0) ∧ ((d == 0) = false → ∀ x ∈ xs, ordR x.row r ≠ 0) := by
          refine ⟨fun e => ⟨x, Hxk.out, by rw [Hd.out]; simpa using e⟩, fun e y hy => ?_⟩
          have hd0 : d ≠ 0 := by simpa using e
          obtain ⟨t, ht, ey⟩ := List.mem_iff_getElem.1 hy
          have hty : xs[t]? = some y := by rw [← ey]; exact List.getElem?_eq_getElem ht
          have hi0 := Hi.out i x Hxk.out (Nat.le_refl _)
          rw [Hd.out] at hi0
          rcases Nat.lt_trichotomy t i with h | h | h
          · have := Lo.out t y hty h; omega
          · subst h
            have := hty.symm.trans Hxk.out
            cases this
            rw [Hd.out]; exact hd0
          · have h3 := Hup.out i t x y Hxk.out hty h
            have h4 := ordR_swap x.row r
            have h5 := ordR_lt (a := r) (b := x.row) (c := y.row) (by rw [h4, Hd.out]; omega) h3
            have h6 := ordR_swap y.row r
            omega
        have Res := Lib.hid hres
        clear hres
        obtain ⟨b, hb⟩ : ∃ b, (d == 0) = b := ⟨_, rfl⟩
        rw [hb] at Res
        go_wp2_with (go_at_call 121; ((with_reducible refine (cc _ (Grow.refl _)).mono ?_); rintro e w3 ⟨rfl, hg3⟩))
        refine bodyPost_ret (by simp [results, Try.results120, go_sem] <;> rfl) rfl ?_
        exact ⟨⟨i, b, rfl, Res.out.1, Res.out.2⟩, hg.trans hg3⟩
      · obtain rfl : i = xs.length := by omega
        have hres : ∀ x ∈ xs, ordR x.row r ≠ 0 := fun y hy => by
          obtain ⟨t, ht, ey⟩ := List.mem_iff_getElem.1 hy
          have := Lo.out t y (by rw [← ey]; exact List.getElem?_eq_getElem ht) ht
          omega
        have Res := Lib.hid hres
        clear hres
        go_wp2
        refine bodyPost_ret (by simp [results, Try.results120, go_sem] <;> rfl) rfl ?_
        exact ⟨⟨xs.length, false, rfl, (fun e => by cases e), (fun _ => Res.out)⟩, hg⟩
set_option maxRecDepth 100000 in
set_option maxHeartbeats 4000000 in
theorem zweight_any (xs : List I) (A : Option Addr) (c : Nat) (r : List V) (Ar : Option Addr) (cr : Nat) (w : World) (hz : ZIn w A xs) (hw : wrongZ (xs.map zOf) = 0) (hr : VSl w Ar r) (hre : rowE r = 0) :
    Calls Try.prog 72 #[.slice A xs.length c, .slice Ar r.length cr] w fun en w' => en = .returned (.int .i64 (wtZ (xs.map zOf) r)) ∧ Grow w w' := by
  obtain ⟨a1, a2, a3, a4⟩ := S.facts (s := ⟨A, xs, c⟩) hw
  have a1 : xs.length ≤ 400 := a1
  have hup0 := ((wrongZ_zero _).1 hw).up
  have hrv0 : ∀ y ∈ xs.map zOf, ∀ v ∈ y.1, RV v := fun y hy => (((wrongZ_zero _).1 hw).row y hy).2
  have hup : ∀ (i j : Nat) (x y : I), xs[i]? = some x → xs[j]? = some y → i < j → ordR x.row y.row < 0 := fun i j x y hx hy hij => by
    have h1 := List.pairwise_iff_getElem.1 hup0 i j (by simpa using (List.getElem?_eq_some_iff.1 hx).1) (by simpa using (List.getElem?_eq_some_iff.1 hy).1) hij
    simp only [List.getElem_map, (List.getElem?_eq_some_iff.1 hx).2, (List.getElem?_eq_some_iff.1 hy).2] at h1
    exact h1
  obtain ⟨l8, rr⟩ := (rowE_zero r).1 hre
  have cs := bsearch_any xs A c r Ar cr w a1 hz a2 a3 hup hr (by omega) rr
  obtain ⟨R, hR⟩ : ∃ R, wtZ (xs.map zOf) r = R := ⟨_, rfl⟩
  have hit : ∀ (k : Nat) (x : I), xs[k]? = some x → ordR x.row r = 0 → x.w = R := fun k x hx h => by
    rw [← hR]; exact (wt_hit (x := zOf x) rr hrv0 hup0 (List.mem_map_of_mem (List.mem_of_getElem? hx)) h).symm
  have miss : (∀ x ∈ xs, ordR x.row r ≠ 0) → R = 0 := fun h => by
    rw [← hR]; exact wt_miss rr hrv0 (fun y hy => by obtain ⟨x, hx, rfl⟩ := List.mem_map.1 hy; exact h x hx)
  rw [hR]
  have Hit := Lib.hid hit
  have Miss := Lib.hid miss
  have Hz := Lib.hid hz
  clear hz hw hr hre a2 a3 a4 hup0 hrv0 hup rr hR hit miss
  go_enter Try.func72, Try.ntmps72
  go_upto_region 2 with (go_at_call 120; ((with_reducible refine cs.mono ?_); rintro en w2 ⟨⟨k, b, rfl, h1, h2⟩, hg2⟩; have H1 := Lib.hid h1; have H2 := Lib.hid h2; clear h1 h2))
  cases b with
  | true =>
    obtain ⟨x, hxk, h0⟩ := H1.out rfl
    have e := Hit.out k x hxk h0
    obtain ⟨gx, ox, rfl, c1, c2, _⟩ := (Hz.out.grow hg2) k x hxk
    have hlt := (List.getElem?_eq_some_iff.1 hxk).1
    have b0 : (0 : Int) ≤ (k : Int) := by omega
    have b1 : (k : Int) < (xs.length : Int) := by omega
    have E := Lib.hid e
    clear hxk h0 e
    go_wp2
    go_ret
    exact ret_int E.out hg2
  | false =>
    have e := Lib.hid (Miss.out (H2.out rfl))
    go_wp2
    go_ret
    exact ret_int e.out.symm hg2
end Go.Proofs.Ytjhcbehnopmnpaa
