/- Parts of a proof. No condition. -/
import Derived.Test.YtflggnopgnoeiaaGreatGY
import Derived.Test.YtflggnopgnoeiaaGreatGX
import Derived.Test.YtflggnopgnoeiaaGreatGVc
import Derived.Deep.RegionLaw
set_option maxRecDepth 100000
set_option maxHeartbeats 4000000
set_option linter.unusedSimpArgs false
set_option linter.unusedVariables false
namespace Go.Proofs.YtflggnopgnoeiaaGreat
open Go.RowKit Go.Calm
theorem SX (cols : List Int) (Ac : Option Addr) (cc : Nat) (xs : List I) (A : Option Addr) (c : Nat) (w : World) (hlen : cols.length <= 9223372036854775807) (hc : yU w Ac cols) (h : In w ⟨A, xs, c⟩) :
  Calls Tryz.prog 32 #[.slice Ac cols.length cc, .slice A xs.length c] w fun en w' => en = .returned (.int .i64 (zo cols (xs.map zh))) /\ za w w' := by
 have hza : xe w A xs := h.z; have l1 : xs.length <= 9223372036854775807 := h.ok.1; have l2 : ∀ x ∈ xs, x.row.length <= 9223372036854775807 := h.ok.2; have Hz := hh_ hza; have Hc := hh_ hc; have L2 := hh_ l2; obtain ⟨R, hR⟩ : ∃ R, zo cols (xs.map zh) = R := ⟨_, rfl⟩
 rw [hR]; have HR := hh_ hR; obtain ⟨E, hE⟩ : ∃ E, zC (xs.map zh) = E := ⟨_, rfl⟩
 have cw := fun W (h : za w W) => Rk xs A c W l1 (Hz.out.grow h) L2.out E hE
 have HE := hh_ hE; clear h hza l2 hc hR hE; go_enter Tryz.func32, Tryz.ntmps32
 by_cases h8 : 8 < cols.length
 ·exact xy_
 ·have d8 : decide ((8 : Int) < (cols.length : Int)) = false := decide_eq_false uX_
  by_cases h0 : E = 0
  ·subst h0; have inv0 : Yh cols ((xs.drop 0).map zh) = R := by rw [<- HR.out]; unfold zo; rw [if_neg h8, HE.out, if_neg uY_, List.drop_zero]
   have Inv0 := hh_ inv0; clear inv0; go_upto_region 6 with (go_at_call 77; ((with_reducible refine (cw _ (za.refl _)).mono ?_); rintro e w2 ⟨rfl, hg2⟩)); go_wp2
   go_loopw [18] (fun i wr => ∃ k : Nat, k <= xs.length /\ i = .int .i64 k /\ Yh cols ((xs.drop k).map zh) = R /\ za w wr) (fun i _ => xs.length - (intOf i).toNat)
   case atStart => exact ⟨0, Nat.zero_le _, rfl, Inv0.out, hg2⟩
   case round =>
    rename World => wr
    obtain ⟨k, hk, rfl, hinv, hg⟩ := hrel; have xt := hh_ hinv; clear hinv
    by_cases hlt : k < xs.length
    ·obtain ⟨x, hxk⟩ : ∃ x, xs[k]? = some x := ⟨_, qQ_ hlt⟩
     obtain ⟨gx, ox, rfl, c1, c2, hxv⟩ := (Hz.out.grow hg) k x hxk; have hlx := L2.out x (qZ_ hxk); have inv2 := (Py cols hxk).symm.trans xt.out; obtain ⟨F, hF⟩ : ∃ F, x6 cols x.row = F := ⟨_, rfl⟩
     have cf := fun W (h : za wr W) => V0 cols x.row Ac x.A cc x.cap W hlen hlx (Hc.out.grow (hg.trans h)) (hxv.grow h) F hF
     rw [hF] at inv2; have Inv2 := hh_ inv2; have b1 : (k : Int) < (xs.length : Int) := by omega
     clear hxk hxv inv2 hF
     by_cases hf0 : F = 0
     ·subst hf0
      go_wp2_with (go_at_call 78; ((with_reducible refine (cf _ (za.refl _)).mono ?_); rintro e w3 ⟨rfl, hg3⟩))
      go_roundw
      case rel => exact ⟨k + 1, by omega, by go_num, by have := Inv2.out; rw [if_neg uY_] at this; exact this, hg.trans hg3⟩
      case measure => exact u1_
     ·have df : (F != 0) = true := by simpa using hf0
      go_wp2_with (go_at_call 78; ((with_reducible refine (cf _ (za.refl _)).mono ?_); rintro e w3 ⟨rfl, hg3⟩))
      go_ret; exact zk ov_ (hg.trans hg3)
    ·exact wd_
  ·have d0 : (E != 0) = true := by simpa using h0
   go_wp2_with (go_at_call 77; ((with_reducible refine (cw _ (za.refl _)).mono ?_); rintro e w2 ⟨rfl, hg2⟩))
   go_ret; exact zk ol_ hg2
theorem FK {cols : List Int} {x : E} {T : Int} (h : zD cols x = (T, 0)) : 1 <= T := by
 have ok := J4.1 h; have ty := NW cols ok.all x 1 0; have h16 := ok.len; have hall := ok.all; unfold zD at h; rw [if_neg uX_, if_neg (by rw [hall]; simp)] at h; split at h
 ·rename_i h0; exact absurd (Prod.mk.inj h).2 h0
 ·rename_i h0; rw [<- (Prod.mk.inj h).1]; exact (ty ux_).1
theorem VV (cols : List Int) (Ac : Option Addr) (cc : Nat) (x : E) (w : World) (hlen : cols.length <= 9223372036854775807) (hc : yU w Ac cols) (hE : EX w x) :
  Calls Tryz.prog 144 #[.slice Ac cols.length cc, x.val] w fun en w' => en = .returned (.int .i64 (yG cols x)) /\ za w w' := by
 obtain ⟨T, e, hT⟩ : ∃ T e, zD cols x = (T, e) := ⟨_, _, rfl⟩
 have ct := fun W (h : za w W) => ZN cols Ac cc x W hlen (hc.grow h) (hE.grow h)
 rw [hT] at ct; simp only at ct; have hR : yG cols x = if e = 0 /\ T ≠ 2 /\ T ≠ 1 then 9 else e := by unfold yG; rw [hT]
 rw [hR]; have hpos : e = 0 -> 1 <= T := fun h => FK (by rw [hT, h])
 clear hc hE hT hR; unfold E.val at *; go_enter Tryz.func144, Tryz.ntmps144
 by_cases h0 : e = 0
 ·subst h0; have hp := hpos rfl
  by_cases h2 : 2 < T
  ·have d2 : decide (2 < T) = true := decide_eq_true h2
   go_wp2_with (go_at_call 76; ((with_reducible refine (ct _ ze).mono ?_); rintro en w3 ⟨rfl, hg3⟩))
   go_ret; exact zk (by first | rfl | rw [if_pos ⟨rfl, by omega, by omega⟩]) ((((za.refl w).al _).trans hg3))
  ·have d2 : decide (2 < T) = false := decide_eq_false h2
   go_wp2_with (go_at_call 76; ((with_reducible refine (ct _ ze).mono ?_); rintro en w3 ⟨rfl, hg3⟩))
   go_ret; exact zk (by first | rfl | rw [if_neg uX_]) ((((za.refl w).al _).trans hg3))
 ·have d0 : (e != 0) = true := by simpa using h0
  go_wp2_with (go_at_call 76; ((with_reducible refine (ct _ ze).mono ?_); rintro en w3 ⟨rfl, hg3⟩))
  go_ret; exact zk uV_ ((((za.refl w).al _).trans hg3))
