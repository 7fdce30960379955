/- Parts of a proof. No condition. -/
import Derived.Test.YtflggnopgnoeiaaGreatGZ
set_option maxRecDepth 100000
set_option maxHeartbeats 4000000
set_option maxRecDepth 100000
set_option linter.unusedSimpArgs false
set_option linter.unusedVariables false
namespace Go
variable {p : Prop}
theorem o1_ (h : p := by simp [results, Tryz.results30, go_sem] <;> rfl) : p := h
end Go
namespace Go.Proofs.YtflggnopgnoeiaaGreat
open Go.RowKit Go.Calm
theorem Rh (cols : List Int) (Ac : Option Addr) (cc : Nat) (xs : List E) (A : Option Addr) (c : Nat) (w : World) (hlen : cols.length <= 9223372036854775807) (hl : xs.length <= 9223372036854775807) (hc : yU w Ac cols) (hx : WW w A xs) :
  Calls Tryz.prog 30 #[.slice Ac cols.length cc, .slice A xs.length c] w fun en w' => ∃ (B : Option Addr) (cap : Nat), en = .returned (.tuple #[.slice B (zB cols xs).1.length cap, .int .i64 (zB cols xs).2]) /\ yU w' B (zB cols xs).1 /\ yf B (zB cols xs).1.length cap /\ Ya w B /\ za w w' := by
 have Hx := hh_ hx; have Hc := hh_ hc; have Ti := hh_ qV; clear hx hc; obtain ⟨R, hR⟩ : ∃ R, zB cols xs = R := ⟨_, rfl⟩
 rw [hR]; have HR := hh_ hR; clear hR; go_enter Tryz.func30, Tryz.ntmps30
 by_cases h8 : 8 < xs.length
 ·have d8 : decide ((8 : Int) < (xs.length : Int)) = true := decide_eq_true uX_; have e : R = ([], 5) := by rw [<- HR.out]; unfold zB; rw [if_pos h8]
  subst e; go_wp2; refine qX_ o1_ rfl ?_; exact ⟨none, 0, rfl, jX _ _, yf.nil, (fun a ha => by cases ha), za.refl _⟩
 ·have d8 : decide ((8 : Int) < (xs.length : Int)) = false := decide_eq_false uX_; have e : R = xF cols xs := by rw [<- HR.out]; unfold zB; rw [if_neg h8]
  have Re := hh_ e; clear e; go_wp2
  go_loopw [6, 15] (fun t i wr => ∃ k : Nat, k <= xs.length /\ i = .int .i64 k /\ wr.ownsRow w.heap.size 3 1 t k (((xs.take k).map (fun x => (zD cols x).1)).map (Value.int .i64)) /\ (∀ x ∈ xs.take k, (zD cols x).2 = 0) /\ za w wr) (fun _ i _ => xs.length - (intOf i).toNat)
  case atStart => exact xX_
  case round =>
   obtain ⟨k, hk, rfl, hown, hz, hg⟩ := hrel; have Own := hh_ hown; have Hz := hh_ hz; clear hown hz
   by_cases hlt : k < xs.length
   ·obtain ⟨x, hxk⟩ : ∃ x, xs[k]? = some x := ⟨_, qQ_ hlt⟩
    obtain ⟨gx, ox, rfl, hec, hex⟩ := (Hx.out.grow hg) k x hxk; obtain ⟨c0, c1, c2, c3, c4, c5⟩ := hec; obtain ⟨T, F, hTF⟩ : ∃ T F, zD cols x = (T, F) := ⟨_, _, rfl⟩
    have ct := fun W (h : za wr W) => ZN cols Ac cc x W hlen (Hc.out.grow (hg.trans h)) (hex.grow h)
    rw [hTF] at ct; simp only at ct; have Hxk := hh_ hxk; have HTF := hh_ hTF; have hl2 := Own.out.lt; have HL2 := hh_ hl2; clear hxk hex hTF hl2; unfold E.val at ct; obtain ⟨ti, hti, hz0, hz1, hz2⟩ := Ti.out
    by_cases h0 : F = 0
    ·subst h0
     go_wp2_with (first
      | (go_at_call 76; ((with_reducible refine (ct _ (za.refl _)).mono ?_); rintro e w2 ⟨rfl, hg2⟩; have Own2 := hh_ (zi Own.out hg2); have G2 := hg.trans hg2; clear hg2))
      | (at_builtin; refine wpList_append_own _ rfl _ _ 22 rfl w.heap.size 3 ti (.int .i64 0) 1 8 Tryz.underlying22 hti hz0 hz1 hz2 rfl uW_ _ _ _ rfl (Own2.out.alloc _) ⟨w2.heap.size, 0, none⟩ 1 1 [.int .i64 T] rfl rfl ?c1 ?c2 ?c3 ?c4 ?c5 ?_))
     case c1 => exact wR_
     case c2 => exact x2_
     case c3 => exact yc_
     case c4 => omega
     case c5 => exact yz_
     ·exact yY_
    ·have d0 : (F != 0) = true := by simpa using h0
     have e : R = ([], F) := by rw [Re.out, YA cols xs k x Hxk.out Hz.out (by rw [HTF.out]; exact h0), HTF.out]
     subst e
     go_wp2_with (go_at_call 76; ((with_reducible refine (ct _ (za.refl _)).mono ?_); rintro e w2 ⟨rfl, hg2⟩; have G2 := hg.trans hg2; clear hg2))
     refine qX_ o1_ rfl ?_; exact ⟨none, 0, rfl, jX _ _, yf.nil, (fun a ha => by cases ha), G2⟩
   ·obtain rfl : k = xs.length := by omega
    have own := Own.out; rw [List.take_length] at own; have e : R = (xs.map (fun x => (zD cols x).1), 0) := by rw [Re.out, kI cols xs or_]
    subst e; obtain ⟨B, cap, rfl, hi, hs⟩ := Y5 own; have Fin := hh_ (And.intro hi (And.intro hs (x8 own))); clear own hi hs; go_wp2; refine qX_ o1_ rfl ?_; exact ⟨B, cap, by simp, Fin.out.1, by simpa using Fin.out.2.1, Fin.out.2.2, hg⟩
