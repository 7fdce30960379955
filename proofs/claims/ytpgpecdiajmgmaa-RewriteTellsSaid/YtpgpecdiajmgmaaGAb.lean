/-
  Joined texts of this claim: Ag2. What each proves its own head says; no condition beside those that each theorem names.
-/
import Derived.Test.YtpgpecdiajmgmaaGAa
import Derived.Test.YtpgpecdiajmgmaaGZ
namespace Go.Proofs.Ytpgpecdiajmgmaa
open Go.RowKit Go.Calm
set_option linter.unusedSimpArgs false
set_option linter.unusedVariables false

set_option maxRecDepth 100000 in
set_option maxHeartbeats 4000000 in
theorem raggtypesT_any (cols : List Int) (Ac : Option Addr) (cc : Nat) (xs : List Ag) (A : Option Addr) (c : Nat) (w : World) (hlen : cols.length ≤ 9223372036854775807) (hl : xs.length ≤ 8) (hc : ISl w Ac cols) (hx : AgSl w A xs) :
    Calls Try.prog 99 #[.slice Ac cols.length cc, .slice A xs.length c] w fun en w' => AggP (aggE cols xs) (xs.map (agTy cols)) w w' en := by
  have Hx := Lib.hid hx
  have Hc := Lib.hid hc
  have Ti := Lib.hid info_int'
  clear hx hc
  obtain ⟨R, hR⟩ : ∃ R, aggE cols xs = R := ⟨_, rfl⟩
  rw [hR]
  have Re := Lib.hid hR
  clear hR
  go_enter Try.func99, Try.ntmps99
  go_wp2
  go_loopw [6, 13] (fun t i wr => ∃ (k : Nat) (ts : List Int), (ts.length = k ∧ ts = (xs.take k).map (agTy cols)) ∧ k ≤ xs.length ∧ i = .int .i64 k ∧ wr.ownsRow w.heap.size 3 1 t k (flatN ts) ∧ (∀ x ∈ xs.take k, agT cols x = 0) ∧ Grow w wr) (fun _ i _ => xs.length - (intOf i).toNat)
  case atStart => exact ⟨0, [], ⟨rfl, rfl⟩, Nat.zero_le _, rfl, World.ownsRow_nil _ _ _ _, fun x hx => by simp at hx, Grow.refl w⟩
  case round =>
    obtain ⟨k, ts, ⟨hts, hTs⟩, hk, rfl, hown, hz, hg⟩ := hrel
    have Own := Lib.hid hown
    have HTs := Lib.hid hTs
    clear hTs
    have Hz := Lib.hid hz
    clear hown hz
    by_cases hlt : k < xs.length
    · obtain ⟨x, hxk⟩ : ∃ x, xs[k]? = some x := ⟨_, List.getElem?_eq_getElem hlt⟩
      obtain ⟨gx, ox, rfl, ⟨ck, c0, c1, c2, c3, c4, c5⟩, hex⟩ := (Hx.out.grow hg) k x hxk
      obtain ⟨T, F, hTF⟩ : ∃ T F, typeE cols x.x = (T, F) := ⟨_, _, rfl⟩
      have ct := fun W (h : Grow wr W) => typeof_any cols Ac cc x.x W hlen (Hc.out.grow (hg.trans h)) (hex.grow h)
      rw [hTF] at ct
      simp only at ct
      have Hxk := Lib.hid hxk
      have bad : ∀ e : Int, e ≠ 0 → agT cols x = e → R = e := fun e h1 h2 => by rw [← Re.out, aggE_bad cols xs k x Hxk.out Hz.out (by rw [h2]; exact h1), h2]
      have good : agT cols x = 0 → ∀ y ∈ xs.take (k + 1), agT cols y = 0 := fun h y hy => by
        obtain ⟨h1, e1⟩ := List.getElem?_eq_some_iff.1 Hxk.out
        rw [List.take_succ_eq_append_getElem h1, e1] at hy
        rcases List.mem_append.1 hy with hy | hy
        · exact Hz.out y hy
        · simp at hy; subst hy; exact h
      have at0 : agT cols x = if x.k < 1 ∨ 5 < x.k then 1 else if x.k = 1 then 0 else if F ≠ 0 then F else if x.k = 3 ∧ T ≠ 3 ∧ T ≠ 1 then 9 else 0 := by unfold agT; rw [hTF]
      have aty : agTy cols x = if x.k ≤ 3 then 3 else T := by unfold agTy; rw [hTF]
      have ATy := Lib.hid aty
      clear aty
      have hl2 := Own.out.lt
      have HL2 := Lib.hid hl2
      have Bad := Lib.hid bad
      have Good := Lib.hid good
      have At := Lib.hid at0
      clear hxk hex hTF hl2 bad good at0
      obtain ⟨ti, hti, hz0, hz1, hz2⟩ := Ti.out
      go_upto_region 5 with fail
      refine wp_forget (fun X => Blk X wr.heap.size 63 #[.int .i64 x.k, .int .i64 x.x.kind, .int .i64 x.x.v.k, .int .i64 x.x.v.n, .string x.x.v.s, .int .i64 x.x.col, .slice x.x.A x.x.n x.x.cap] ∧ Grow wr X) ⟨Blk.new _ _ _, (Grow.refl wr).al _⟩ ?_
      rintro X ⟨Bx, Gx⟩
      have BX := Lib.hid Bx
      obtain ⟨bx, fx⟩ := Bx.rules
      have Own1 := Lib.hid (own_grow Own.out Gx)
      have G1 := hg.trans Gx
      clear ck c0 c1 c2 c3 c4 c5 Bx
      unfold E.val at ct
      by_cases ha : x.k < 1
      · have d1 : decide (x.k < 1) = true := decide_eq_true ha
        have e : R = 1 := Bad.out _ (by decide) (by rw [At.out]; rw [if_pos (.inl ha)])
        subst e
        go_wp2
        refine bodyPost_ret (by simp [results, Try.results99, go_sem] <;> rfl) rfl ?_
        exact AggP.bad (by first | decide | assumption) G1
      · have d1 : decide (x.k < 1) = false := decide_eq_false ha
        by_cases hb : 5 < x.k
        · have d2 : decide (5 < x.k) = true := decide_eq_true hb
          have e : R = 1 := Bad.out _ (by decide) (by rw [At.out]; rw [if_pos (.inr hb)])
          subst e
          go_wp2
          refine bodyPost_ret (by simp [results, Try.results99, go_sem] <;> rfl) rfl ?_
          exact AggP.bad (by first | decide | assumption) G1
        · have d2 : decide (5 < x.k) = false := decide_eq_false hb
          have n5 : ¬ (x.k < 1 ∨ 5 < x.k) := by omega
          by_cases h1 : x.k = 1
          · have d3 : (x.k == 1) = true := by simpa using h1
            have d3' : (x.k != 1) = false := by simpa using h1
            have d4 : decide (4 ≤ x.k) = false := decide_eq_false (by omega)
            go_wp2_with (at_builtin; refine wpList_append_srcN rfl _ _ rfl w.heap.size _ _ _ rfl (Own1.out.alloc _) _ [3] rfl (srcN_one (Blk.new _ _ _)) (by simp; omega) (by have := G1.size; simp; omega) ?_; intro v7 w7 own7 gr7)
            have hg7 : Grow w w7 := grow_own (G1.al _) gr7 (Own1.out.alloc _)
            have Own7 := Lib.hid own7
            clear own7 gr7
            go_wp2
            go_roundw
            case rel => exact ⟨k + 1, ts ++ [3], ⟨by simp [hts], by first | rw [take_sn _ Hxk.out, ← HTs.out, ATy.out, if_pos (by omega)] | rw [take_sn _ Hxk.out, ← HTs.out, ATy.out, if_neg (by omega)]⟩, by omega, by go_num, by simpa [hts] using Own7.out, Good.out (by rw [At.out, if_neg n5, if_pos h1]), hg7⟩
            case measure => simp [intOf]; omega
          · have d3 : (x.k == 1) = false := by simpa using h1
            have d3' : (x.k != 1) = true := by simpa using h1
            by_cases h0 : F = 0
            · have d0 : (F != 0) = false := by simpa using h0
              subst h0
              by_cases h3 : x.k = 3
              · have d5 : (x.k == 3) = true := by simpa using h3
                have d4 : decide (4 ≤ x.k) = false := decide_eq_false (by omega)
                have d2' : (x.k == 2) = false := by simp; omega
                by_cases t3 : T = 3
                · have e3 : (T != 3) = false := by simpa using t3
                  have e1 : (T != 1) = true := by simp; omega
                  go_wp2_with (first | (go_at_call 127; ((with_reducible refine (ct _ Gx).mono ?_); rintro e w2 ⟨rfl, hg2⟩; obtain ⟨bx2, fx2⟩ := (BX.out.grow hg2).rules; have Own2 := Lib.hid (own_grow Own1.out hg2); have G2 := G1.trans hg2; clear hg2)) | (at_builtin; refine wpList_append_srcN rfl _ _ rfl w.heap.size _ _ _ rfl (Own2.out.alloc _) _ [3] rfl (srcN_one (Blk.new _ _ _)) (by simp; omega) (by have := G2.size; simp; omega) ?_; intro v7 w7 own7 gr7))
                  have hg7 : Grow w w7 := grow_own (G2.al _) gr7 (Own2.out.alloc _)
                  have Own7 := Lib.hid own7
                  clear own7 gr7
                  go_wp2
                  go_roundw
                  case rel => exact ⟨k + 1, ts ++ [3], ⟨by simp [hts], by first | rw [take_sn _ Hxk.out, ← HTs.out, ATy.out, if_pos (by omega)] | rw [take_sn _ Hxk.out, ← HTs.out, ATy.out, if_neg (by omega)]⟩, by omega, by go_num, by simpa [hts] using Own7.out, Good.out (by rw [At.out, if_neg n5, if_neg h1, if_neg (by simp), if_neg (by omega)]), hg7⟩
                  case measure => simp [intOf]; omega
                · have e3 : (T != 3) = true := by simpa using t3
                  by_cases t1 : T = 1
                  · have e1 : (T != 1) = false := by simpa using t1
                    go_wp2_with (first | (go_at_call 127; ((with_reducible refine (ct _ Gx).mono ?_); rintro e w2 ⟨rfl, hg2⟩; obtain ⟨bx2, fx2⟩ := (BX.out.grow hg2).rules; have Own2 := Lib.hid (own_grow Own1.out hg2); have G2 := G1.trans hg2; clear hg2)) | (at_builtin; refine wpList_append_srcN rfl _ _ rfl w.heap.size _ _ _ rfl (Own2.out.alloc _) _ [3] rfl (srcN_one (Blk.new _ _ _)) (by simp; omega) (by have := G2.size; simp; omega) ?_; intro v7 w7 own7 gr7))
                    have hg7 : Grow w w7 := grow_own (G2.al _) gr7 (Own2.out.alloc _)
                    have Own7 := Lib.hid own7
                    clear own7 gr7
                    go_wp2
                    go_roundw
                    case rel => exact ⟨k + 1, ts ++ [3], ⟨by simp [hts], by first | rw [take_sn _ Hxk.out, ← HTs.out, ATy.out, if_pos (by omega)] | rw [take_sn _ Hxk.out, ← HTs.out, ATy.out, if_neg (by omega)]⟩, by omega, by go_num, by simpa [hts] using Own7.out, Good.out (by rw [At.out, if_neg n5, if_neg h1, if_neg (by simp), if_neg (by omega)]), hg7⟩
                    case measure => simp [intOf]; omega
                  · have e1 : (T != 1) = true := by simpa using t1
                    have e : R = 9 := Bad.out _ (by decide) (by rw [At.out]; rw [if_neg n5, if_neg h1, if_neg (by simp), if_pos ⟨h3, t3, t1⟩])
                    subst e
                    go_wp2_with (go_at_call 127; ((with_reducible refine (ct _ Gx).mono ?_); rintro e w2 ⟨rfl, hg2⟩; obtain ⟨bx2, fx2⟩ := (BX.out.grow hg2).rules; have Own2 := Lib.hid (own_grow Own1.out hg2); have G2 := G1.trans hg2; clear hg2))
                    refine bodyPost_ret (by simp [results, Try.results99, go_sem] <;> rfl) rfl ?_
                    exact AggP.bad (by first | decide | assumption) G2
              · have d5 : (x.k == 3) = false := by simpa using h3
                by_cases h2 : x.k = 2
                · have d4 : decide (4 ≤ x.k) = false := decide_eq_false (by omega)
                  have d2' : (x.k == 2) = true := by simpa using h2
                  go_wp2_with (first | (go_at_call 127; ((with_reducible refine (ct _ Gx).mono ?_); rintro e w2 ⟨rfl, hg2⟩; obtain ⟨bx2, fx2⟩ := (BX.out.grow hg2).rules; have Own2 := Lib.hid (own_grow Own1.out hg2); have G2 := G1.trans hg2; clear hg2)) | (at_builtin; refine wpList_append_srcN rfl _ _ rfl w.heap.size _ _ _ rfl (Own2.out.alloc _) _ [3] rfl (srcN_one (Blk.new _ _ _)) (by simp; omega) (by have := G2.size; simp; omega) ?_; intro v7 w7 own7 gr7))
                  have hg7 : Grow w w7 := grow_own (G2.al _) gr7 (Own2.out.alloc _)
                  have Own7 := Lib.hid own7
                  clear own7 gr7
                  go_wp2
                  go_roundw
                  case rel => exact ⟨k + 1, ts ++ [3], ⟨by simp [hts], by first | rw [take_sn _ Hxk.out, ← HTs.out, ATy.out, if_pos (by omega)] | rw [take_sn _ Hxk.out, ← HTs.out, ATy.out, if_neg (by omega)]⟩, by omega, by go_num, by simpa [hts] using Own7.out, Good.out (by rw [At.out, if_neg n5, if_neg h1, if_neg (by simp), if_neg (by omega)]), hg7⟩
                  case measure => simp [intOf]; omega
                · have d4 : decide (4 ≤ x.k) = true := decide_eq_true (by omega)
                  have d2' : (x.k == 2) = false := by simpa using h2
                  go_wp2_with (first | (go_at_call 127; ((with_reducible refine (ct _ Gx).mono ?_); rintro e w2 ⟨rfl, hg2⟩; obtain ⟨bx2, fx2⟩ := (BX.out.grow hg2).rules; have Own2 := Lib.hid (own_grow Own1.out hg2); have G2 := G1.trans hg2; clear hg2)) | (at_builtin; refine wpList_append_srcN rfl _ _ rfl w.heap.size _ _ _ rfl (Own2.out.alloc _) _ [T] rfl (srcN_one (Blk.new _ _ _)) (by simp; omega) (by have := G2.size; simp; omega) ?_; intro v7 w7 own7 gr7))
                  have hg7 : Grow w w7 := grow_own (G2.al _) gr7 (Own2.out.alloc _)
                  have Own7 := Lib.hid own7
                  clear own7 gr7
                  go_wp2
                  go_roundw
                  case rel => exact ⟨k + 1, ts ++ [T], ⟨by simp [hts], by first | rw [take_sn _ Hxk.out, ← HTs.out, ATy.out, if_pos (by omega)] | rw [take_sn _ Hxk.out, ← HTs.out, ATy.out, if_neg (by omega)]⟩, by omega, by go_num, by simpa [hts] using Own7.out, Good.out (by rw [At.out, if_neg n5, if_neg h1, if_neg (by simp), if_neg (by omega)]), hg7⟩
                  case measure => simp [intOf]; omega
            · have d0 : (F != 0) = true := by simpa using h0
              have e : R = F := Bad.out _ h0 (by rw [At.out]; rw [if_neg n5, if_neg h1, if_pos h0])
              subst e
              go_wp2_with (go_at_call 127; ((with_reducible refine (ct _ Gx).mono ?_); rintro e w2 ⟨rfl, hg2⟩; obtain ⟨bx2, fx2⟩ := (BX.out.grow hg2).rules; have Own2 := Lib.hid (own_grow Own1.out hg2); have G2 := G1.trans hg2; clear hg2))
              refine bodyPost_ret (by simp [results, Try.results99, go_sem] <;> rfl) rfl ?_
              exact AggP.bad (by first | decide | assumption) G2
    · obtain rfl : k = xs.length := by omega
      have e9 : ts = xs.map (agTy cols) := by have := HTs.out; rwa [List.take_length] at this
      subst e9
      obtain ⟨B9, cap9, rfl, hi9, _⟩ := own_isl (ys := xs.map (agTy cols)) (w := wr) Own.out
      have Fin9 := Lib.hid (And.intro hi9 (own_new Own.out))
      clear hi9
      have e : R = 0 := by rw [← Re.out, aggE_ok cols xs (by have := Hz.out; rw [List.take_length] at this; exact this)]
      subst e
      go_wp2
      refine bodyPost_ret (by simp [results, Try.results99, go_sem] <;> rfl) rfl ?_
      exact ⟨B9, cap9, by simp, by simpa using Fin9.out.1, Fin9.out.2, hg⟩
end Go.Proofs.Ytpgpecdiajmgmaa
