/-
  Joined texts of this claim: Wn1. What each proves its own head says; no condition beside those that each theorem names.
-/
import Derived.Test.YtamfpppbjaelaaaGVa
import Derived.Deep.DeepCutAuto
import Derived.Deep.CutBlock
import Derived.Deep.LoopGhost
set_option maxRecDepth 100000
set_option maxHeartbeats 4000000
namespace Go.Proofs.Ytamfpppbjaelaaa
open Go.RowKit Go.Calm
set_option linter.unusedSimpArgs false
set_option linter.unusedVariables false
theorem wtypes_any (cols : List Int) (Ac : Option Addr) (cc : Nat) (xs : List Ag) (A : Option Addr) (c : Nat) (w : World) (hlen : cols.length ≤ 9223372036854775807) (hl : xs.length ≤ 8) (hc : ISl w Ac cols) (hx : AgSl w A xs) :
    Calls Try.prog 19 #[.slice Ac cols.length cc, .slice A xs.length c] w fun en w' => ∃ v : Value, en = .returned (.tuple #[v, .int .i64 (winsE cols xs)]) ∧ Grow w w' := by
  have Hx := Lib.hid hx
  have Hc := Lib.hid hc
  clear hx hc
  obtain ⟨R, hR⟩ : ∃ R, winsE cols xs = R := ⟨_, rfl⟩
  rw [hR]
  have Re := Lib.hid hR
  clear hR
  go_enter Try.func19, Try.ntmps19
  go_wp2
  go_loopg [6, 14] (xs.length) (fun gk t i wr => ∃ (k : Nat) (ts : List Int), ts.length = k ∧ k ≤ xs.length ∧ xs.length - k ≤ gk ∧ i = .int .i64 k ∧ wr.ownsRow w.heap.size 3 1 t k (flatN ts) ∧ Hid (winsE cols (xs.drop k) = R) ∧ Grow w wr)
  case atStart => exact ⟨0, [], rfl, Nat.zero_le _, by omega, rfl, World.ownsRow_nil _ _ _ _, Lib.hid Re.out, Grow.refl w⟩
  case round =>
    obtain ⟨k, ts, hts, hk, hgk, rfl, hown, Inv, hg⟩ := hrel
    have Own := Lib.hid hown
    clear hown
    by_cases hlt : k < xs.length
    · obtain ⟨x, hxk⟩ : ∃ x, xs[k]? = some x := ⟨_, List.getElem?_eq_getElem hlt⟩
      obtain ⟨gx, ox, rfl, ⟨ck, c0, c1, c2, c3, c4, c5⟩, hex⟩ := (Hx.out.grow hg) k x hxk
      obtain ⟨T, F, hTF⟩ : ∃ T F, typeE cols x.x = (T, F) := ⟨_, _, rfl⟩
      have ct := fun W (h : Grow wr W) => type_any cols Ac cc x.x W hlen (Hc.out.grow (hg.trans h)) (hex.grow h)
      rw [hTF] at ct
      simp only at ct
      have At := Lib.hid (show winT cols x = if x.k = 1 ∨ x.k = 2 ∨ x.k = 3 then 0 else if x.k = 4 ∨ x.k = 5 then (if F ≠ 0 then F else if x.k = 4 ∧ T ≠ 3 ∧ T ≠ 1 then 9 else 0) else 1 by unfold winT; rw [hTF])
      have inv := Inv.out
      rw [winsE_at cols hxk] at inv
      have In2 := Lib.hid inv
      clear hxk hex hTF inv Inv
      go_upto_region 5 with fail
      refine wp_forget (fun X => Blk X wr.heap.size 34 #[.int .i64 x.k, .int .i64 x.x.kind, .int .i64 x.x.v.k, .int .i64 x.x.v.n, .string x.x.v.s, .int .i64 x.x.col, .slice x.x.A x.x.n x.x.cap] ∧ Grow wr X) ⟨Blk.new _ _ _, (Grow.refl wr).al _⟩ ?_
      rintro X ⟨Bx, Gx⟩
      have BX := Lib.hid Bx
      obtain ⟨bx, fx⟩ := Bx.rules
      have Own1 := Lib.hid (own_grow Own.out Gx)
      have G1 := hg.trans Gx
      clear ck c0 c1 c2 c3 c4 c5 Bx
      unfold E.val at ct
      go_upto_block 2 with fail
      go_cut [9] (fun t wx => (∃ T : Int, t = .int .i64 T) ∧ Grow X wx ∧ Hid (winT cols x = 0))
      case first =>
        go_wp2_with (go_at_call 39; ((with_reducible refine (ct _ Gx).mono ?_); rintro e w2 ⟨rfl, hg2⟩; obtain ⟨bx2, fx2⟩ := (BX.out.grow hg2).rules))
        all_goals (try simp only [beq_iff_eq, beq_eq_false_iff_ne, bne_iff_ne, ne_eq, bne_eq_false_iff_eq, Bool.not_eq_true', Bool.not_eq_false', decide_eq_true_eq, decide_eq_false_iff_not] at *)
        all_goals first
          | (go_meet; exact ⟨⟨_, rfl⟩, growW, Lib.hid (by rw [At.out]; repeat' split; all_goals first | rfl | omega)⟩)
          | (refine bodyPost_ret (by simp [results, Try.results19, go_sem] <;> rfl) rfl ?_
             refine ⟨.slice none 0 0, congrArg (fun e => Ending.returned (.tuple #[.slice none 0 0, .int .i64 e])) (?_ : _ = R), growW⟩
             rw [← In2.out, if_pos (by rw [At.out]; repeat' split; all_goals omega), At.out]
             repeat' split
             all_goals first | rfl | omega)
      case rest =>
        obtain ⟨⟨T9, rfl⟩, G9, ok⟩ := hcut
        have Own9 := Lib.hid (own_grow Own1.out G9)
        have G := G1.trans G9
        go_wp2_with (at_builtin; refine wpList_append_srcN rfl _ _ rfl w.heap.size _ _ _ rfl (Own9.out.alloc _) _ [T9] rfl (srcN_one (Blk.new _ _ _)) (by simp; omega) (by have := G.size; simp; omega) ?_; intro v7 w7 own7 gr7)
        have hg7 : Grow w w7 := grow_own (G.al _) gr7 (Own9.out.alloc _)
        have Own7 := Lib.hid own7
        have In3 := In2.out
        rw [if_neg (by rw [ok.out]; simp)] at In3
        have In4 := Lib.hid In3
        clear own7 gr7 In3
        go_wp2
        go_roundg (gk - 1)
        case measure => omega
        case rel => exact ⟨k + 1, ts ++ [T9], by simp [hts], by omega, by omega, by go_num, by simpa [hts] using Own7.out, In4, hg7⟩
    · obtain rfl : k = xs.length := by omega
      have e : R = 0 := by rw [← Inv.out, List.drop_length]; rfl
      subst e
      go_wp2
      refine bodyPost_ret (by simp [results, Try.results19, go_sem] <;> rfl) rfl ?_
      exact ⟨_, rfl, hg⟩
end Go.Proofs.Ytamfpppbjaelaaa
