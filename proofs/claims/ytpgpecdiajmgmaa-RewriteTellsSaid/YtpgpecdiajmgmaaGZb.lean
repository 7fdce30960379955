/-
  Joined texts of this claim: R4d. What each proves its own head says; no condition beside those that each theorem names.
-/
import Derived.Test.YtpgpecdiajmgmaaGZ
import Derived.Test.YtpgpecdiajmgmaaGZe
import Derived.Test.YtpgpecdiajmgmaaGS
namespace Go.Proofs.Ytpgpecdiajmgmaa
open Go.RowKit Go.Calm
set_option linter.unusedSimpArgs false
set_option linter.unusedVariables false

set_option maxRecDepth 100000 in
set_option maxHeartbeats 4000000 in
theorem rtypesN_any (cols : List Int) (Ac : Option Addr) (cc : Nat) (xs : List E) (A : Option Addr) (c : Nat) (w : World) (hlen : cols.length ≤ 9223372036854775807) (hl : xs.length ≤ 9223372036854775807) (hc : ISl w Ac cols) (hx : ESl w A xs) :
    Calls Try.prog 97 #[.slice Ac cols.length cc, .slice A xs.length c] w fun en w' => ∃ (B : Option Addr) (cap : Nat), en = .returned (.tuple #[.slice B (typesE cols xs).1.length cap, .int .i64 (typesE cols xs).2]) ∧ ISl w' B (typesE cols xs).1 ∧ SlOk B (typesE cols xs).1.length cap ∧ NewA w B ∧ Grow w w' := by
  have Hx := Lib.hid hx
  have Hc := Lib.hid hc
  have Ti := Lib.hid info_int'
  clear hx hc
  obtain ⟨R, hR⟩ : ∃ R, typesE cols xs = R := ⟨_, rfl⟩
  rw [hR]
  have HR := Lib.hid hR
  clear hR
  go_enter Try.func97, Try.ntmps97
  by_cases h8 : 8 < xs.length
  · have d8 : decide ((8 : Int) < (xs.length : Int)) = true := decide_eq_true (by omega)
    have e : R = ([], 5) := by rw [← HR.out]; unfold typesE; rw [if_pos h8]
    subst e
    go_wp2
    refine bodyPost_ret (by simp [results, Try.results97, go_sem] <;> rfl) rfl ?_
    exact ⟨none, 0, rfl, isl_nil _ _, SlOk.nil, (fun a ha => by cases ha), Grow.refl _⟩
  · have d8 : decide ((8 : Int) < (xs.length : Int)) = false := decide_eq_false (by omega)
    have e : R = typesGo cols xs := by rw [← HR.out]; unfold typesE; rw [if_neg h8]
    have Re := Lib.hid e
    clear e
    go_wp2
    go_loopw [6, 15] (fun t i wr => ∃ k : Nat, k ≤ xs.length ∧ i = .int .i64 k ∧ wr.ownsRow w.heap.size 3 1 t k (((xs.take k).map (fun x => (typeE cols x).1)).map (Value.int .i64)) ∧ (∀ x ∈ xs.take k, (typeE cols x).2 = 0) ∧ Grow w wr) (fun _ i _ => xs.length - (intOf i).toNat)
    case atStart => exact ⟨0, Nat.zero_le _, rfl, World.ownsRow_nil _ _ _ _, fun x hx => by simp at hx, Grow.refl w⟩
    case round =>
      obtain ⟨k, hk, rfl, hown, hz, hg⟩ := hrel
      have Own := Lib.hid hown
      have Hz := Lib.hid hz
      clear hown hz
      by_cases hlt : k < xs.length
      · obtain ⟨x, hxk⟩ : ∃ x, xs[k]? = some x := ⟨_, List.getElem?_eq_getElem hlt⟩
        obtain ⟨gx, ox, rfl, hec, hex⟩ := (Hx.out.grow hg) k x hxk
        obtain ⟨c0, c1, c2, c3, c4, c5⟩ := hec
        obtain ⟨T, F, hTF⟩ : ∃ T F, typeE cols x = (T, F) := ⟨_, _, rfl⟩
        have ct := fun W (h : Grow wr W) => typeof_any cols Ac cc x W hlen (Hc.out.grow (hg.trans h)) (hex.grow h)
        rw [hTF] at ct
        simp only at ct
        have Hxk := Lib.hid hxk
        have HTF := Lib.hid hTF
        have hl2 := Own.out.lt
        have HL2 := Lib.hid hl2
        clear hxk hex hTF hl2
        unfold E.val at ct
        obtain ⟨ti, hti, hz0, hz1, hz2⟩ := Ti.out
        by_cases h0 : F = 0
        · subst h0
          go_wp2_with (first
            | (go_at_call 127; ((with_reducible refine (ct _ (Grow.refl _)).mono ?_); rintro e w2 ⟨rfl, hg2⟩; have Own2 := Lib.hid (own_grow Own.out hg2); have G2 := hg.trans hg2; clear hg2))
            | (at_builtin; refine wpList_append_own _ rfl _ _ 38 rfl w.heap.size 3 ti (.int .i64 0) 1 8 Try.underlying38 hti hz0 hz1 hz2 rfl (by decide) _ _ _ rfl (Own2.out.alloc _) ⟨w2.heap.size, 0, none⟩ 1 1 [.int .i64 T] rfl rfl ?c1 ?c2 ?c3 ?c4 ?c5 ?_))
          case c1 =>
            intro j u hj
            match j, hj with
            | 0, hj => simp at hj; subst hj; simp [Addr.add]
          case c2 => intro u hu; simp at hu; subst hu; rfl
          case c3 => unfold maxLen; omega
          case c4 => omega
          case c5 => have := G2.size; simp; omega
          · intro v' w7 hown' hgrow _
            have hg7 : Grow w w7 := Grow.own (G2.al _) hgrow (fun i hi => (HL2.out i hi).1)
            clear hgrow
            go_wp2
            go_roundw
            case rel => exact ⟨k + 1, by omega, by go_num, by rw [take_sn _ Hxk.out, HTF.out]; simpa using hown', fun y hy => by
              obtain ⟨h1, e1⟩ := List.getElem?_eq_some_iff.1 Hxk.out
              rw [List.take_succ_eq_append_getElem h1, e1] at hy
              rcases List.mem_append.1 hy with hy | hy
              · exact Hz.out y hy
              · simp at hy; subst hy; rw [HTF.out], hg7⟩
            case measure => simp [intOf]; omega
        · have d0 : (F != 0) = true := by simpa using h0
          have e : R = ([], F) := by rw [Re.out, typesGo_bad cols xs k x Hxk.out Hz.out (by rw [HTF.out]; exact h0), HTF.out]
          subst e
          go_wp2_with (go_at_call 127; ((with_reducible refine (ct _ (Grow.refl _)).mono ?_); rintro e w2 ⟨rfl, hg2⟩; have G2 := hg.trans hg2; clear hg2))
          refine bodyPost_ret (by simp [results, Try.results97, go_sem] <;> rfl) rfl ?_
          exact ⟨none, 0, rfl, isl_nil _ _, SlOk.nil, (fun a ha => by cases ha), G2⟩
      · obtain rfl : k = xs.length := by omega
        have own := Own.out
        rw [List.take_length] at own
        have e : R = (xs.map (fun x => (typeE cols x).1), 0) := by rw [Re.out, typesGo_ok cols xs (by have := Hz.out; rw [List.take_length] at this; exact this)]
        subst e
        obtain ⟨B, cap, rfl, hi, hs⟩ := own_isl own
        have Fin := Lib.hid (And.intro hi (And.intro hs (own_new own)))
        clear own hi hs
        go_wp2
        refine bodyPost_ret (by simp [results, Try.results97, go_sem] <;> rfl) rfl ?_
        exact ⟨B, cap, by simp, Fin.out.1, by simpa using Fin.out.2.1, Fin.out.2.2, hg⟩

end Go.Proofs.Ytpgpecdiajmgmaa
