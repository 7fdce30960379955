/-
  Joined texts of this claim: Op1, Op2, Op3. What each proves its own head says; no condition beside those that each theorem names.
-/
import Derived.Test.YtigpbihjjadmlaaGreatGG
import Derived.Test.YtigpbihjjadmlaaGreatGKa
import Derived.Test.YtigpbihjjadmlaaGreatGQ
import Derived.Test.YtigpbihjjadmlaaGreatGK
import Derived.Test.YtigpbihjjadmlaaGreatGJ
namespace Go.Proofs.YtigpbihjjadmlaaGreat
open Go.RowKit Go.Calm
set_option linter.unusedSimpArgs false
set_option linter.unusedVariables false

theorem bare_null : bare nullV' = nullV' := by decide
def fitGo (cols : List Int) : List Z → Int
  | [] => 0
  | x :: l => if fitsE cols x.1 ≠ 0 then fitsE cols x.1 else fitGo cols l
theorem fitGo_zero (cols : List Int) : ∀ z : List Z, fitGo cols z = 0 ↔ ∀ x ∈ z, fitsE cols x.1 = 0
  | [] => by simp [fitGo]
  | x :: l => by
    have ih := fitGo_zero cols l
    unfold fitGo
    simp only [List.mem_cons, forall_eq_or_imp]
    split
    · rename_i h; exact ⟨fun e => absurd e h, fun e => absurd e.1 h⟩
    · rename_i h
      have h : fitsE cols x.1 = 0 := by simpa using h
      rw [ih]; exact ⟨fun e => ⟨h, e⟩, fun e => e.2⟩
theorem fitGo_at (cols : List Int) {xs : List I} {k : Nat} {x : I} (h : xs[k]? = some x) : fitGo cols ((xs.drop k).map zOf) = if fitsE cols x.row ≠ 0 then fitsE cols x.row else fitGo cols ((xs.drop (k + 1)).map zOf) := by
  obtain ⟨h1, e1⟩ := List.getElem?_eq_some_iff.1 h
  rw [List.drop_eq_getElem_cons h1, e1]; rfl
def inputE (cols : List Int) (z : List Z) : Int := if 8 < cols.length then 5 else if wrongZ z ≠ 0 then wrongZ z else fitGo cols z
theorem inputE_zero {cols : List Int} {z : List Z} (h : inputE cols z = 0) : cols.length ≤ 8 ∧ wrongZ z = 0 ∧ ∀ x ∈ z, fitsE cols x.1 = 0 := by
  unfold inputE at h
  split at h
  · simp at h
  · split at h
    · rename_i h1; exact absurd h h1
    · rename_i h0 h1
      exact ⟨by omega, by simpa using h1, (fitGo_zero cols z).1 h⟩
theorem fit_rv {cols : List Int} {x : E} {row : List V} (ht : (typeE cols x).2 = 0) (hf : fitsE cols row = 0) : RV (ofE row x) := by
  obtain ⟨T, hok⟩ := okay_of ht
  have hF := (fits_iff cols row).1 hf
  exact rv_of row hF.rv x (by rw [hF.1]; exact wt_re x hok.ty)
end Go.Proofs.YtigpbihjjadmlaaGreat

namespace Go.Proofs.YtigpbihjjadmlaaGreat
open Go.RowKit Go.Calm
set_option linter.unusedSimpArgs false
set_option linter.unusedVariables false

set_option maxRecDepth 100000 in
set_option maxHeartbeats 4000000 in
theorem input_any (cols : List Int) (Ac : Option Addr) (cc : Nat) (xs : List I) (A : Option Addr) (c : Nat) (w : World) (hlen : cols.length ≤ 9223372036854775807) (hc : ISl w Ac cols) (h : In w ⟨A, xs, c⟩) :
    Calls Tryz.prog 12 #[.slice Ac cols.length cc, .slice A xs.length c] w fun en w' => en = .returned (.int .i64 (inputE cols (xs.map zOf))) ∧ Grow w w' := by
  have hza : ZIn w A xs := h.z
  have l1 : xs.length ≤ 9223372036854775807 := h.ok.1
  have l2 : ∀ x ∈ xs, x.row.length ≤ 9223372036854775807 := h.ok.2
  have Hz := Lib.hid hza
  have Hc := Lib.hid hc
  have L2 := Lib.hid l2
  obtain ⟨R, hR⟩ : ∃ R, inputE cols (xs.map zOf) = R := ⟨_, rfl⟩
  rw [hR]
  have HR := Lib.hid hR
  obtain ⟨E, hE⟩ : ∃ E, wrongZ (xs.map zOf) = E := ⟨_, rfl⟩
  have cw := fun W (h : Grow w W) => wrongz_any xs A c W l1 (Hz.out.grow h) L2.out E hE
  have HE := Lib.hid hE
  clear h hza l2 hc hR hE
  go_enter Tryz.func12, Tryz.ntmps12
  by_cases h8 : 8 < cols.length
  · have d8 : decide ((8 : Int) < (cols.length : Int)) = true := decide_eq_true (by omega)
    go_wp2
    go_ret
    exact ret_int (by rw [← HR.out]; unfold inputE; rw [if_pos h8]) (Grow.refl _)
  · have d8 : decide ((8 : Int) < (cols.length : Int)) = false := decide_eq_false (by omega)
    by_cases h0 : E = 0
    · subst h0
      have inv0 : fitGo cols ((xs.drop 0).map zOf) = R := by rw [← HR.out]; unfold inputE; rw [if_neg h8, HE.out, if_neg (by simp), List.drop_zero]
      have Inv0 := Lib.hid inv0
      clear inv0
      go_upto_region 6 with (go_at_call 35; ((with_reducible refine (cw _ (Grow.refl _)).mono ?_); rintro e w2 ⟨rfl, hg2⟩))
      go_wp2
      go_loopw [19] (fun i wr => ∃ k : Nat, k ≤ xs.length ∧ i = .int .i64 k ∧ fitGo cols ((xs.drop k).map zOf) = R ∧ Grow w wr) (fun i _ => xs.length - (intOf i).toNat)
      case atStart => exact ⟨0, Nat.zero_le _, rfl, Inv0.out, hg2⟩
      case round =>
        obtain ⟨k, hk, rfl, hinv, hg⟩ := hrel
        have Inv := Lib.hid hinv
        clear hinv
        by_cases hlt : k < xs.length
        · obtain ⟨x, hxk⟩ : ∃ x, xs[k]? = some x := ⟨_, List.getElem?_eq_getElem hlt⟩
          obtain ⟨gx, ox, rfl, c1, c2, hxv⟩ := (Hz.out.grow hg) k x hxk
          have hlx := L2.out x (List.mem_of_getElem? hxk)
          have inv2 := (fitGo_at cols hxk).symm.trans Inv.out
          obtain ⟨F, hF⟩ : ∃ F, fitsE cols x.row = F := ⟨_, rfl⟩
          have cf := fun W (h : Grow wr W) => fits_any cols x.row Ac x.A cc x.cap W hlen hlx (Hc.out.grow (hg.trans h)) (hxv.grow h) F hF
          rw [hF] at inv2
          have Inv2 := Lib.hid inv2
          clear hxk hxv inv2 hF
          by_cases hf0 : F = 0
          · subst hf0
            go_wp2_with (go_at_call 36; ((with_reducible refine (cf _ (by repeat (first | (with_reducible exact Grow.refl _) | (with_reducible assumption) | (with_reducible refine Grow.set ?_ (by first | (simp; done) | (simp; omega)) _) | (with_reducible refine Grow.al ?_ _) | (with_reducible refine Grow.drew ?_) | (with_reducible refine Grow.drewN ?_ _) | (with_reducible refine Grow.trans ?_ (by assumption))))).mono ?_); rintro e w3 ⟨rfl, hg3⟩))
            go_roundw
            case rel => exact ⟨k + 1, by omega, by go_num, by have := Inv2.out; rw [if_neg (by simp)] at this; exact this, (hg.al _).trans hg3⟩
            case measure => simp [intOf]; omega
          · have df : (F != 0) = true := by simpa using hf0
            go_wp2_with (go_at_call 36; ((with_reducible refine (cf _ (by repeat (first | (with_reducible exact Grow.refl _) | (with_reducible assumption) | (with_reducible refine Grow.set ?_ (by first | (simp; done) | (simp; omega)) _) | (with_reducible refine Grow.al ?_ _) | (with_reducible refine Grow.drew ?_) | (with_reducible refine Grow.drewN ?_ _) | (with_reducible refine Grow.trans ?_ (by assumption))))).mono ?_); rintro e w3 ⟨rfl, hg3⟩))
            go_ret
            exact ret_int (by have := Inv2.out; rw [if_pos hf0] at this; exact this) ((hg.al _).trans hg3)
        · obtain rfl : k = xs.length := by omega
          have fin : R = 0 := by have := Inv.out; rw [List.drop_length] at this; exact this.symm
          go_wp2
          go_ret
          exact ret_int fin.symm hg
    · have d0 : (E != 0) = true := by simpa using h0
      go_wp2_with (go_at_call 35; ((with_reducible refine (cw _ (Grow.refl _)).mono ?_); rintro e w2 ⟨rfl, hg2⟩))
      go_ret
      exact ret_int (by rw [← HR.out]; unfold inputE; rw [if_neg h8, HE.out, if_pos h0]) hg2

end Go.Proofs.YtigpbihjjadmlaaGreat

namespace Go.Proofs.YtigpbihjjadmlaaGreat
open Go.RowKit Go.Calm
set_option linter.unusedSimpArgs false
set_option linter.unusedVariables false

end Go.Proofs.YtigpbihjjadmlaaGreat
