/-
  Fits, of both.
-/
import Derived.Test.YtjhcbehnopmnpaaEv
import Derived.BigQuiet
import Derived.Deep.QuietTactic
namespace Go.Proofs.Ytjhcbehnopmnpaa
open Go.RowKit Go.Calm
set_option linter.unusedSimpArgs false
set_option linter.unusedVariables false

theorem fitG_at {row : List V} {cols : List Int} {k : Nat} {x : V} {t : Int} (hx : row[k]? = some x) (ht : cols[k]? = some t) :
    fitG (row.drop k) (cols.drop k) = if wrongV x ≠ 0 then wrongV x else if x.k ≠ 1 ∧ x.k ≠ t then 9 else fitG (row.drop (k + 1)) (cols.drop (k + 1)) := by
  obtain ⟨h1, e1⟩ := List.getElem?_eq_some_iff.1 hx
  obtain ⟨h2, e2⟩ := List.getElem?_eq_some_iff.1 ht
  rw [List.drop_eq_getElem_cons h1, List.drop_eq_getElem_cons h2, e1, e2]
  conv => lhs; unfold fitG
  simp

set_option maxRecDepth 100000 in
set_option maxHeartbeats 4000000 in
theorem fits_any (cols : List Int) (row : List V) (Ac Ar : Option Addr) (cc cr : Nat) (w : World) (hlc : cols.length ≤ 9223372036854775807) (hlr : row.length ≤ 9223372036854775807) (hc : ISl w Ac cols) (hr : VSl w Ar row) (R : Int) (hR : fitsE cols row = R) :
    Calls Try.prog 56 #[.slice Ac cols.length cc, .slice Ar row.length cr] w fun en w' => en = .returned (.int .i64 R) ∧ Grow w w' := by
  by_cases hlen : row.length = cols.length
  · have hR' : fitG (row.drop 0) (cols.drop 0) = R := by
      rw [List.drop_zero, List.drop_zero, ← hR]; unfold fitsE; rw [if_neg (by simpa using hlen)]
    have HR := Lib.hid hR'
    have Hc := Lib.hid hc
    have Hr := Lib.hid hr
    have d1 : ((row.length : Int) != (cols.length : Int)) = false := by simp; omega
    have Hlen := Lib.hid hlen
    clear hR hR' hc hr hlen
    go_enter Try.func56, Try.ntmps56
    go_wp2
    go_loopw [15] (fun i wr => ∃ k : Nat, k ≤ row.length ∧ i = .int .i64 k ∧ fitG (row.drop k) (cols.drop k) = R ∧ Grow w wr) (fun i _ => row.length - (intOf i).toNat)
    case atStart => exact ⟨0, Nat.zero_le _, rfl, HR.out, Grow.refl _⟩
    case round =>
      obtain ⟨k, hk, rfl, hinv, hg⟩ := hrel
      have Inv := Lib.hid hinv
      clear hinv
      by_cases hlt : k < row.length
      · obtain ⟨x, hxk⟩ : ∃ x, row[k]? = some x := ⟨_, List.getElem?_eq_getElem hlt⟩
        obtain ⟨t, htk⟩ : ∃ t, cols[k]? = some t := ⟨_, List.getElem?_eq_getElem (by have := Hlen.out; omega)⟩
        obtain ⟨gx, ox, rfl, hx1, hx2, hx3⟩ := Hr.out k x hxk
        obtain ⟨gc, oc, rfl, ht1⟩ := Hc.out k t htk
        have c1 := hg.cell hx1
        have c2 := hg.cell hx2
        have c3 := hg.cell hx3
        have ct := hg.cell ht1
        have inv2 := (fitG_at hxk htk).symm.trans Inv.out
        have hlt2 : k < cols.length := by have := Hlen.out; omega
        clear hxk htk
        by_cases hw : wrongV x = 0
        · have dw : (wrongV x != 0) = false := by simpa using hw
          rw [if_neg (by simpa using hw)] at inv2
          have Inv2 := Lib.hid inv2
          clear inv2 hw
          by_cases hb : x.k ≠ 1 ∧ x.k ≠ t
          · have e : R = 9 := by
              have := Inv2.out
              rw [if_pos hb] at this
              exact this.symm
            subst e
            have b1 : (x.k != 1) = true := by simpa using hb.1
            have b2 : (x.k != t) = true := by simpa using hb.2
            clear hb Inv2 Inv
            go_wp2_with ((go_at_call 41; ((with_reducible refine (wrong_any x _).mono ?_); rintro en w2 ⟨rfl, hg2⟩; have Bx := Blk.grow (Blk.new wr 29 #[.int .i64 x.k, .int .i64 x.n, .string x.s]) hg2; have G2 := (hg.al _).trans hg2; obtain ⟨cx, fx⟩ := Bx.rules; clear c1 c2 c3 ct; have ct := G2.cell ht1)))
            go_quiet (fail)
            go_wp2
            go_ret
            exact ⟨rfl, G2.drewN _⟩
          · have Inv3 := Lib.hid (show fitG (row.drop (k + 1)) (cols.drop (k + 1)) = R by
              have := Inv2.out
              rwa [if_neg hb] at this)
            clear Inv2 Inv
            have hb' : (x.k != 1) = false ∨ (x.k != 1) = true ∧ (x.k != t) = false := by
              by_cases h1 : x.k = 1
              · left; simpa using h1
              · have h2 : x.k = t := Classical.byContradiction fun h => hb ⟨h1, h⟩
                right; exact ⟨by simpa using h1, by simpa using h2⟩
            clear hb
            rcases hb' with b1 | ⟨b1, b2⟩
            · go_wp2_with ((go_at_call 41; ((with_reducible refine (wrong_any x _).mono ?_); rintro en w2 ⟨rfl, hg2⟩; have Bx := Blk.grow (Blk.new wr 29 #[.int .i64 x.k, .int .i64 x.n, .string x.s]) hg2; have G2 := (hg.al _).trans hg2; obtain ⟨cx, fx⟩ := Bx.rules; clear c1 c2 c3 ct; have ct := G2.cell ht1)))
              go_quiet (fail)
              go_wp2
              go_roundw
              case rel => exact ⟨k + 1, by omega, by go_num, Inv3.out, G2.drewN _⟩
              case measure => simp [intOf]; omega
            · go_wp2_with ((go_at_call 41; ((with_reducible refine (wrong_any x _).mono ?_); rintro en w2 ⟨rfl, hg2⟩; have Bx := Blk.grow (Blk.new wr 29 #[.int .i64 x.k, .int .i64 x.n, .string x.s]) hg2; have G2 := (hg.al _).trans hg2; obtain ⟨cx, fx⟩ := Bx.rules; clear c1 c2 c3 ct; have ct := G2.cell ht1)))
              go_quiet (fail)
              go_wp2
              go_roundw
              case rel => exact ⟨k + 1, by omega, by go_num, Inv3.out, G2.drewN _⟩
              case measure => simp [intOf]; omega
        · have dw : (wrongV x != 0) = true := by simpa using hw
          have e : R = wrongV x := by rw [if_pos (by simpa using hw)] at inv2; exact inv2.symm
          subst e
          clear hw inv2 Inv
          go_wp2_with ((go_at_call 41; ((with_reducible refine (wrong_any x _).mono ?_); rintro en w2 ⟨rfl, hg2⟩; have Bx := Blk.grow (Blk.new wr 29 #[.int .i64 x.k, .int .i64 x.n, .string x.s]) hg2; have G2 := (hg.al _).trans hg2; obtain ⟨cx, fx⟩ := Bx.rules; clear c1 c2 c3 ct; have ct := G2.cell ht1)))
          go_ret
          exact ⟨rfl, G2⟩
      · have e : R = 0 := by
          have := Inv.out
          rw [List.drop_eq_nil_of_le (by omega)] at this
          exact this.symm
        subst e
        clear Inv
        go_wp2
        go_ret
        exact ⟨rfl, hg⟩
  · have e : R = 8 := by rw [← hR]; unfold fitsE; rw [if_pos hlen]
    subst e
    have d1 : ((row.length : Int) != (cols.length : Int)) = true := by simp; omega
    clear hR hlen
    go_enter Try.func56, Try.ntmps56
    go_wp2
    go_ret
    exact ⟨rfl, Grow.refl _⟩

set_option maxRecDepth 100000 in
set_option maxHeartbeats 4000000 in
theorem rfits_any (cols : List Int) (row : List V) (Ac Ar : Option Addr) (cc cr : Nat) (w : World) (hlc : cols.length ≤ 9223372036854775807) (hlr : row.length ≤ 9223372036854775807) (hc : ISl w Ac cols) (hr : VSl w Ar row) (R : Int) (hR : fitsE cols row = R) :
    Calls Try.prog 57 #[.slice Ac cols.length cc, .slice Ar row.length cr] w fun en w' => en = .returned (.int .i64 R) ∧ Grow w w' := by
  by_cases hlen : row.length = cols.length
  · have hR' : fitG (row.drop 0) (cols.drop 0) = R := by
      rw [List.drop_zero, List.drop_zero, ← hR]; unfold fitsE; rw [if_neg (by simpa using hlen)]
    have HR := Lib.hid hR'
    have Hc := Lib.hid hc
    have Hr := Lib.hid hr
    have d1 : ((cols.length : Int) != (row.length : Int)) = false := by simp; omega
    have Hlen := Lib.hid hlen
    clear hR hR' hc hr hlen
    go_enter Try.func57, Try.ntmps57
    go_wp2
    go_loopw [14] (fun i wr => ∃ k : Nat, k ≤ row.length ∧ i = .int .i64 k ∧ fitG (row.drop k) (cols.drop k) = R ∧ Grow w wr) (fun i _ => row.length - (intOf i).toNat)
    case atStart => exact ⟨0, Nat.zero_le _, rfl, HR.out, Grow.refl _⟩
    case round =>
      obtain ⟨k, hk, rfl, hinv, hg⟩ := hrel
      have Inv := Lib.hid hinv
      clear hinv
      by_cases hlt : k < row.length
      · obtain ⟨x, hxk⟩ : ∃ x, row[k]? = some x := ⟨_, List.getElem?_eq_getElem hlt⟩
        obtain ⟨t, htk⟩ : ∃ t, cols[k]? = some t := ⟨_, List.getElem?_eq_getElem (by have := Hlen.out; omega)⟩
        obtain ⟨gx, ox, rfl, hx1, hx2, hx3⟩ := Hr.out k x hxk
        obtain ⟨gc, oc, rfl, ht1⟩ := Hc.out k t htk
        have c1 := hg.cell hx1
        have c2 := hg.cell hx2
        have c3 := hg.cell hx3
        have ct := hg.cell ht1
        have inv2 := (fitG_at hxk htk).symm.trans Inv.out
        have hlt2 : k < cols.length := by have := Hlen.out; omega
        clear hxk htk
        by_cases hw : wrongV x = 0
        · have dw : (wrongV x != 0) = false := by simpa using hw
          rw [if_neg (by simpa using hw)] at inv2
          have Inv2 := Lib.hid inv2
          clear inv2 hw
          by_cases hb : x.k ≠ 1 ∧ x.k ≠ t
          · have e : R = 9 := by
              have := Inv2.out
              rw [if_pos hb] at this
              exact this.symm
            subst e
            have b1 : (x.k != 1) = true := by simpa using hb.1
            have b2 : (x.k != t) = true := by simpa using hb.2
            clear hb Inv2 Inv
            go_wp2_with ((go_at_call 42; ((with_reducible refine (rwrong_any x _).mono ?_); rintro en w2 ⟨rfl, hg2⟩; have G2 := hg.trans hg2; clear c1 c2 c3 ct; have ct := G2.cell ht1; have c1 := G2.cell hx1)))
            go_quiet (fail)
            go_wp2
            go_ret
            exact ⟨rfl, G2.drewN _⟩
          · have Inv3 := Lib.hid (show fitG (row.drop (k + 1)) (cols.drop (k + 1)) = R by
              have := Inv2.out
              rwa [if_neg hb] at this)
            clear Inv2 Inv
            have hb' : (x.k != t) = false ∨ (x.k != t) = true ∧ (x.k != 1) = false := by
              by_cases h1 : x.k = 1
              · by_cases h2 : x.k = t; (left; simpa using h2); (right; exact ⟨by simpa using h2, by simpa using h1⟩)
              · have h2 : x.k = t := Classical.byContradiction fun h => hb ⟨h1, h⟩
                left; simpa using h2
            clear hb
            rcases hb' with b1 | ⟨b1, b2⟩
            · go_wp2_with ((go_at_call 42; ((with_reducible refine (rwrong_any x _).mono ?_); rintro en w2 ⟨rfl, hg2⟩; have G2 := hg.trans hg2; clear c1 c2 c3 ct; have ct := G2.cell ht1; have c1 := G2.cell hx1)))
              go_quiet (fail)
              go_wp2
              go_roundw
              case rel => exact ⟨k + 1, by omega, by go_num, Inv3.out, G2.drewN _⟩
              case measure => simp [intOf]; omega
            · go_wp2_with ((go_at_call 42; ((with_reducible refine (rwrong_any x _).mono ?_); rintro en w2 ⟨rfl, hg2⟩; have G2 := hg.trans hg2; clear c1 c2 c3 ct; have ct := G2.cell ht1; have c1 := G2.cell hx1)))
              go_quiet (fail)
              go_wp2
              go_roundw
              case rel => exact ⟨k + 1, by omega, by go_num, Inv3.out, G2.drewN _⟩
              case measure => simp [intOf]; omega
        · have dw : (wrongV x != 0) = true := by simpa using hw
          have e : R = wrongV x := by rw [if_pos (by simpa using hw)] at inv2; exact inv2.symm
          subst e
          clear hw inv2 Inv
          go_wp2_with ((go_at_call 42; ((with_reducible refine (rwrong_any x _).mono ?_); rintro en w2 ⟨rfl, hg2⟩; have G2 := hg.trans hg2; clear c1 c2 c3 ct; have ct := G2.cell ht1; have c1 := G2.cell hx1)))
          go_ret
          exact ⟨rfl, G2⟩
      · have e : R = 0 := by
          have := Inv.out
          rw [List.drop_eq_nil_of_le (by omega)] at this
          exact this.symm
        subst e
        clear Inv
        go_wp2
        go_ret
        exact ⟨rfl, hg⟩
  · have e : R = 8 := by rw [← hR]; unfold fitsE; rw [if_pos hlen]
    subst e
    have d1 : ((cols.length : Int) != (row.length : Int)) = true := by simp; omega
    clear hR hlen
    go_enter Try.func57, Try.ntmps57
    go_wp2
    go_ret
    exact ⟨rfl, Grow.refl _⟩

end Go.Proofs.Ytjhcbehnopmnpaa
