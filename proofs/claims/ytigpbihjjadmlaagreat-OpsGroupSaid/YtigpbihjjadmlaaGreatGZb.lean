/-
  Joined texts of this claim: R4d. What each proves its own head says; no condition beside those that each theorem names.
-/
import Derived.Test.YtigpbihjjadmlaaGreatGZ
import Derived.Test.YtigpbihjjadmlaaGreatGZe
import Derived.Test.YtigpbihjjadmlaaGreatGS
namespace Go.Proofs.YtigpbihjjadmlaaGreat
open Go.RowKit Go.Calm
set_option linter.unusedSimpArgs false
set_option linter.unusedVariables false

set_option maxRecDepth 100000 in
set_option maxHeartbeats 4000000 in
theorem rtypes_any (cols : List Int) (Ac : Option Addr) (cc : Nat) (xs : List E) (A : Option Addr) (c : Nat) (w : World) (hlen : cols.length ≤ 9223372036854775807) (hl : xs.length ≤ 9223372036854775807) (hc : ISl w Ac cols) (hx : ESl w A xs) :
    Calls Tryz.prog 19 #[.slice Ac cols.length cc, .slice A xs.length c] w fun en w' => ∃ (B : Option Addr) (cap : Nat), en = .returned (.tuple #[.slice B (typesE cols xs).1.length cap, .int .i64 (typesE cols xs).2]) ∧ ISl w' B (typesE cols xs).1 ∧ SlOk B (typesE cols xs).1.length cap ∧ Grow w w' := by
  have Hx := Lib.hid hx
  have Hc := Lib.hid hc
  have Ti := Lib.hid info_int'
  clear hx hc
  obtain ⟨R, hR⟩ : ∃ R, typesE cols xs = R := ⟨_, rfl⟩
  rw [hR]
  have HR := Lib.hid hR
  clear hR
  go_enter Tryz.func19, Tryz.ntmps19
  by_cases h8 : 8 < xs.length
  · have d8 : decide ((8 : Int) < (xs.length : Int)) = true := decide_eq_true (by omega)
    have e : R = ([], 5) := by rw [← HR.out]; unfold typesE; rw [if_pos h8]
    subst e
    go_wp2
    refine bodyPost_ret (by simp [results, Tryz.results19, go_sem] <;> rfl) rfl ?_
    exact ⟨none, 0, rfl, isl_nil _ _, SlOk.nil, Grow.refl _⟩
  · have d8 : decide ((8 : Int) < (xs.length : Int)) = false := decide_eq_false (by omega)
    have e : R = typesGo cols xs := by rw [← HR.out]; unfold typesE; rw [if_neg h8]
    have Re := Lib.hid e
    clear e
    go_wp2
    go_loopw [6, 15] (fun t i wr => ∃ k : Nat, k ≤ xs.length ∧ i = .int .i64 k ∧ wr.ownsRow w.heap.size 3 1 t k (((xs.take k).map (fun x => (typeE cols x).1)).map (Value.int .i64)) ∧ (∀ x ∈ xs.take k, (typeE cols x).2 = 0) ∧ Grow w wr) (fun _ i _ => xs.length - (intOf i).toNat)
    case atStart => exact ⟨0, Nat.zero_le _, rfl, World.ownsRow_nil _ _ _ _, fun x hx => by simp at hx, Grow.refl w⟩
    case round =>
      obtain ⟨k, hk, rfl, hown, hz, hg⟩ := hrel
      have Own := Lib.hid hown
      have Hz := Lib.hid hz
      clear hown hz
      by_cases hlt : k < xs.length
      · obtain ⟨x, hxk⟩ : ∃ x, xs[k]? = some x := ⟨_, List.getElem?_eq_getElem hlt⟩
        obtain ⟨gx, ox, rfl, hec, hex⟩ := (Hx.out.grow hg) k x hxk
        obtain ⟨c0, c1, c2, c3, c4, c5⟩ := hec
        obtain ⟨T, F, hTF⟩ : ∃ T F, typeE cols x = (T, F) := ⟨_, _, rfl⟩
        have ct := fun W (h : Grow wr W) => typeof_any cols Ac cc x W hlen (Hc.out.grow (hg.trans h)) (hex.grow h)
        rw [hTF] at ct
        simp only at ct
        have Hxk := Lib.hid hxk
        have HTF := Lib.hid hTF
        have hl2 := Own.out.lt
        have HL2 := Lib.hid hl2
        clear hxk hex hTF hl2
        unfold E.val at ct
        obtain ⟨ti, hti, hz0, hz1, hz2⟩ := Ti.out
        by_cases h0 : F = 0
        · subst h0
          go_wp2_with (first
            | (go_at_call 46; ((with_reducible refine (ct _ (Grow.refl _)).mono ?_); rintro e w2 ⟨rfl, hg2⟩; have Own2 := Lib.hid (own_grow Own.out hg2); have G2 := hg.trans hg2; clear hg2))
            | (at_builtin; refine wpList_append_own _ rfl _ _ 22 rfl w.heap.size 3 ti (.int .i64 0) 1 8 Tryz.underlying22 hti hz0 hz1 hz2 rfl (by decide) _ _ _ rfl (Own2.out.alloc _) ⟨w2.heap.size, 0, none⟩ 1 1 [.int .i64 T] rfl rfl ?c1 ?c2 ?c3 ?c4 ?c5 ?_))
          case c1 =>
            intro j u hj
            match j, hj with
            | 0, hj => simp at hj; subst hj; simp [Addr.add]
          case c2 => intro u hu; simp at hu; subst hu; rfl
          case c3 => unfold maxLen; omega
          case c4 => omega
          case c5 => have := G2.size; simp; omega
          · intro v' w7 hown' hgrow _
            have hg7 : Grow w w7 := Grow.own (G2.al _) hgrow (fun i hi => (HL2.out i hi).1)
            clear hgrow
            go_wp2
            go_roundw
            case rel => exact ⟨k + 1, by omega, by go_num, by rw [take_sn _ Hxk.out, HTF.out]; simpa using hown', fun y hy => by
              obtain ⟨h1, e1⟩ := List.getElem?_eq_some_iff.1 Hxk.out
              rw [List.take_succ_eq_append_getElem h1, e1] at hy
              rcases List.mem_append.1 hy with hy | hy
              · exact Hz.out y hy
              · simp at hy; subst hy; rw [HTF.out], hg7⟩
            case measure => simp [intOf]; omega
        · have d0 : (F != 0) = true := by simpa using h0
          have e : R = ([], F) := by rw [Re.out, typesGo_bad cols xs k x Hxk.out Hz.out (by rw [HTF.out]; exact h0), HTF.out]
          subst e
          go_wp2_with (go_at_call 46; ((with_reducible refine (ct _ (Grow.refl _)).mono ?_); rintro e w2 ⟨rfl, hg2⟩; have G2 := hg.trans hg2; clear hg2))
          refine bodyPost_ret (by simp [results, Tryz.results19, go_sem] <;> rfl) rfl ?_
          exact ⟨none, 0, rfl, isl_nil _ _, SlOk.nil, G2⟩
      · obtain rfl : k = xs.length := by omega
        have own := Own.out
        rw [List.take_length] at own
        have e : R = (xs.map (fun x => (typeE cols x).1), 0) := by rw [Re.out, typesGo_ok cols xs (by have := Hz.out; rw [List.take_length] at this; exact this)]
        subst e
        obtain ⟨B, cap, rfl, hi, hs⟩ := own_isl own
        have Fin := Lib.hid (And.intro hi hs)
        clear own hi hs
        go_wp2
        refine bodyPost_ret (by simp [results, Tryz.results19, go_sem] <;> rfl) rfl ?_
        exact ⟨B, cap, by simp, Fin.out.1, by simpa using Fin.out.2, hg⟩

set_option maxRecDepth 100000 in
set_option maxHeartbeats 4000000 in
theorem rvalues_any (xs : List E) (A : Option Addr) (c : Nat) (row : List V) (Ar : Option Addr) (cr : Nat) (w : World) (hl : xs.length ≤ 1000) (hlr : row.length ≤ 9223372036854775807) (hx : ESl w A xs) (cols : List Int) (hty : ∀ x ∈ xs, ∃ T, wt cols x T) (hfit : FitR cols row) (hrow : VSl w Ar row) :
    Calls Tryz.prog 22 #[.slice A xs.length c, .slice Ar row.length cr] w fun en w' => ∃ (B : Option Addr) (cap : Nat), en = .returned (.slice B xs.length cap) ∧ w'.ownsRow w.heap.size 61 3 (.slice B xs.length cap) xs.length (flatW (xs.map (ofE row))) ∧ Grow w w' := by
  have Hx := Lib.hid hx
  have Hty := Lib.hid hty
  have Hfit := Lib.hid hfit
  have Hrow := Lib.hid hrow
  have Ti := Lib.hid info_val2'
  clear hx hty hfit hrow
  go_enter Tryz.func22, Tryz.ntmps22
  go_wp2
  go_loopw [5, 9] (fun t i wr => ∃ k : Nat, k ≤ xs.length ∧ i = .int .i64 k ∧ wr.ownsRow w.heap.size 61 3 t k (flatW ((xs.take k).map (ofE row))) ∧ Grow w wr) (fun _ i _ => xs.length - (intOf i).toNat)
  case atStart => exact ⟨0, Nat.zero_le _, rfl, World.ownsRow_nil _ _ _ _, Grow.refl w⟩
  case round =>
    obtain ⟨k, hk, rfl, hown, hg⟩ := hrel
    have Own := Lib.hid hown
    clear hown
    by_cases hlt : k < xs.length
    · obtain ⟨x, hxk⟩ : ∃ x, xs[k]? = some x := ⟨_, List.getElem?_eq_getElem hlt⟩
      obtain ⟨gx, ox, rfl, hec, hex⟩ := (Hx.out.grow hg) k x hxk
      obtain ⟨T, ht⟩ := Hty.out x (List.mem_of_getElem? hxk)
      have co := fun W (h : Grow wr W) => rof_any cols row Ar cr hlr Hfit.out x ht wr W hex (Hrow.out.grow hg) h
      obtain ⟨c0, c1, c2, c3, c4, c5⟩ := hec
      have e := take_sn (ofE row) hxk
      have E := Lib.hid e
      obtain ⟨ti, hti, hz0, hz1, hz2⟩ := Ti.out
      have hl2 := Own.out.lt
      have HL2 := Lib.hid hl2
      generalize ofE row x = v9 at *
      unfold V.val at co
      unfold Go.Proofs.YtigpbihjjadmlaaGreat.E.val at co
      clear hxk e hl2 hex ht
      go_wp2_with (first
        | (go_at_call 27; ((with_reducible refine (co _ (by repeat (first | (with_reducible exact Grow.refl _) | (with_reducible assumption) | (with_reducible refine Grow.set ?_ (by first | (simp; done) | (simp; omega)) _) | (with_reducible refine Grow.al ?_ _) | (with_reducible refine Grow.drew ?_) | (with_reducible refine Grow.drewN ?_ _) | (with_reducible refine Grow.trans ?_ (by assumption))))).mono ?_); rintro e w2 ⟨rfl, hg2⟩; have Own2 := Lib.hid (own_grow Own.out hg2); have G2 := hg.trans hg2; clear hg2))
        | (at_builtin; refine wpList_append_own _ rfl _ _ 40 rfl w.heap.size 61 ti (.agg #[.int .i64 0, .int .i64 0, .string ⟨#[]⟩]) 3 32 Tryz.underlying40 hti hz0 hz1 hz2 rfl (by decide) _ _ _ rfl (Own2.out.alloc _) ⟨w2.heap.size, 0, none⟩ 1 1 (flatW [v9]) rfl rfl ?c1 (flatW_one _) ?c3 ?c4 ?c5 ?_))
      case c1 =>
        intro j u hj
        match j, hj with
        | 0, hj => simp [flatW] at hj; subst hj; simp [Addr.add]
        | 1, hj => simp [flatW] at hj; subst hj; simp [Addr.add]
        | 2, hj => simp [flatW] at hj; subst hj; simp [Addr.add]
      case c3 => unfold maxLen; omega
      case c4 => omega
      case c5 => have := G2.size; simp; omega
      · intro v' w7 hown' hgrow _
        have hg7 : Grow w w7 := Grow.own (G2.al _) hgrow (fun i hi => (HL2.out i hi).1)
        clear hgrow
        go_wp2
        go_roundw
        case rel => exact ⟨k + 1, by omega, by go_num, by rw [E.out, flatW_append]; simpa using hown', hg7⟩
        case measure => simp [intOf]; omega
    · obtain rfl : k = xs.length := by omega
      have hfin : ∃ (B : Option Addr) (cap : Nat), u5 = .slice B xs.length cap := by
        have h := Own.out
        rcases h.2 with ⟨rfl, h0⟩ | ⟨gb, cap, cur, rfl, _⟩
        · exact ⟨none, 0, by rw [h0]⟩
        · exact ⟨_, _, rfl⟩
      obtain ⟨B, cap, rfl⟩ := hfin
      have own := Own.out
      rw [List.take_length] at own
      have Fin := Lib.hid own
      clear own
      go_wp2
      go_ret
      exact ⟨B, cap, rfl, Fin.out, hg⟩
end Go.Proofs.YtigpbihjjadmlaaGreat
