/-
  A text of the proof of the law OpsFirst; no condition beside the row's own.
-/
import Derived.Test.YtpdimihojeonhaaGS
import Derived.Test.YtpdimihojeonhaaHLawOOnce
/-
  The law OpsLinear, walked.
-/
namespace Go.Proofs.Ytpdimihojeonhaa
open Go.RowKit Go.Calm
set_option linter.unusedSimpArgs false
set_option linter.unusedVariables false

set_option maxRecDepth 100000 in
theorem plus_any (a b : S) (w : World) (ha : In w a) (hb : In w b) :
    Calls Try.prog 9 #[.slice a.A a.xs.length a.cap, .slice b.A b.xs.length b.cap] w fun en w' => ∃ (B : Option Addr) (ys : List I) (cap : Nat), en = .returned (.tuple #[.slice B ys.length cap, .bool (decide ((bothZ a.z b.z 1).2 = 0))]) ∧ In w' ⟨B, ys, cap⟩ ∧ ys.map zOf = (bothZ a.z b.z 1).1 ∧ Grow w w' := by
  have ca := add_any a b w ha hb
  have sm := Lib.hid (both_sml a.z b.z 1)
  generalize bothZ a.z b.z 1 = R at *
  obtain ⟨s, e⟩ := R
  clear ha hb
  go_enter Try.func9, Try.ntmps9
  by_cases h0 : e = 0
  · have d0 : (e == 0) = true := by simpa using h0
    go_wp2_with (go_at_call 28; ((with_reducible refine ca.mono ?_); rintro en w2 ⟨B, ys, cap, rfl, hz, hm, hk, hg⟩; have Out := Lib.hid (And.intro hz (And.intro hm hk)); clear hz hm hk))
    refine bodyPost_ret (by simp [results, Try.results9, go_sem] <;> rfl) rfl ?_
    exact ⟨B, ys, cap, by simp [h0], In.sml Out.out.1 Out.out.2.2 (by rw [Out.out.2.1]; exact sm.out), Out.out.2.1, hg⟩
  · have d0 : (e == 0) = false := by simpa using h0
    go_wp2_with (go_at_call 28; ((with_reducible refine ca.mono ?_); rintro en w2 ⟨B, ys, cap, rfl, hz, hm, hk, hg⟩; have Out := Lib.hid (And.intro hz (And.intro hm hk)); clear hz hm hk))
    refine bodyPost_ret (by simp [results, Try.results9, go_sem] <;> rfl) rfl ?_
    exact ⟨B, ys, cap, by simp [h0], In.sml Out.out.1 Out.out.2.2 (by rw [Out.out.2.1]; exact sm.out), Out.out.2.1, hg⟩
/-- a set that came, and what is wrong -/
def GivesI (w w' : World) (e : Ending) (r : List Z × Int) : Prop := ∃ (B : Option Addr) (ys : List I) (cap : Nat), e = .returned (.tuple #[.slice B ys.length cap, .int .i64 r.2]) ∧ In w' ⟨B, ys, cap⟩ ∧ ys.map zOf = r.1 ∧ Grow w w'
theorem Gives.i {w w' : World} {e : Ending} {r : List Z × Int} (h : Gives w w' e r) (hs : smlZ r.1) : GivesI w w' e r := by
  obtain ⟨B, ys, cap, rfl, hz, hm, hk, hg⟩ := h
  exact ⟨B, ys, cap, rfl, In.sml hz hk (by rw [hm]; exact hs), hm, hg⟩
set_option maxRecDepth 100000 in
theorem lin1_any (cols : List Int) (Ac : Option Addr) (cc : Nat) (x : E) (s : S) (g1 g2 : Nat) (w : World) (hlen : cols.length ≤ 9223372036854775807) (hc : ISl w Ac cols) (hx : EX w x) (hs : In w s) (B1 : Blk w g1 22 #[.slice Ac cols.length cc]) (B2 : Blk w g2 27 (exCells x)) :
    Calls Try.prog 13 #[.slice s.A s.xs.length s.cap, .pointer (some ⟨g1, 0, none⟩), .pointer (some ⟨g2, 0, none⟩)] w fun en w' => GivesI w w' en (filterZ cols x s.z) := by
  have cf := (filter_any cols Ac cc x s.xs s.A s.cap w hlen hc hx hs).mono (fun e w' h => Gives.i h (filter_sml cols x (s.xs.map zOf)))
  rw [show s.xs.map zOf = s.z from rfl] at cf
  obtain ⟨b1, f1⟩ := B1.rules
  obtain ⟨b2, f2⟩ := B2.rules
  generalize filterZ cols x s.z = R at *
  obtain ⟨r, e⟩ := R
  clear hc hx hs
  unfold E.val at cf
  go_enter Try.func13, Try.ntmps13
  go_wp2_with (go_at_call 14; ((with_reducible refine cf.mono ?_); rintro en w2 ⟨B, ys, cap, rfl, hi, hm, hg⟩; have Out := Lib.hid (And.intro hi (And.intro hm hg)); clear hi hm))
  refine bodyPost_ret (by simp [results, Try.results13, go_sem] <;> rfl) rfl ?_
  exact ⟨B, ys, cap, rfl, Out.out.1, Out.out.2.1, Out.out.2.2⟩
set_option maxRecDepth 100000 in
theorem lin2_any (cols : List Int) (Ac : Option Addr) (cc : Nat) (es : List E) (Ae : Option Addr) (ce : Nat) (s : S) (g1 g2 : Nat) (w : World) (hlen : cols.length ≤ 9223372036854775807) (hle : es.length ≤ 9223372036854775807) (hc : ISl w Ac cols) (hx : ESl w Ae es) (hs : In w s) (B1 : Blk w g1 22 #[.slice Ac cols.length cc]) (B2 : Blk w g2 25 #[.slice Ae es.length ce]) :
    Calls Try.prog 15 #[.slice s.A s.xs.length s.cap, .pointer (some ⟨g1, 0, none⟩), .pointer (some ⟨g2, 0, none⟩)] w fun en w' => GivesI w w' en (mapZ cols es s.z) := by
  have cf := (map_any cols Ac cc es Ae ce s.xs s.A s.cap w hlen hle hc hx hs).mono (fun e w' h => Gives.i h (map_sml cols es (s.xs.map zOf)))
  rw [show s.xs.map zOf = s.z from rfl] at cf
  obtain ⟨b1, f1⟩ := B1.rules
  obtain ⟨b2, f2⟩ := B2.rules
  generalize mapZ cols es s.z = R at *
  obtain ⟨r, e⟩ := R
  clear hc hx hs
  go_enter Try.func15, Try.ntmps15
  go_wp2_with (go_at_call 16; ((with_reducible refine cf.mono ?_); rintro en w2 ⟨B, ys, cap, rfl, hi, hm, hg⟩; have Out := Lib.hid (And.intro hi (And.intro hm hg)); clear hi hm))
  refine bodyPost_ret (by simp [results, Try.results15, go_sem] <;> rfl) rfl ?_
  exact ⟨B, ys, cap, rfl, Out.out.1, Out.out.2.1, Out.out.2.2⟩
abbrev linF (g1 g2 g3 : Nat) : Array Value := #[.func (.func 13) #[] #[.pointer (some ⟨g1, 0, none⟩), .pointer (some ⟨g2, 0, none⟩)], .func (.func 15) #[] #[.pointer (some ⟨g1, 0, none⟩), .pointer (some ⟨g3, 0, none⟩)]]
set_option maxRecDepth 100000 in
set_option maxHeartbeats 32000000 in
theorem law_olinear (cols : List Int) (Ac : Option Addr) (cc : Nat) (x : E) (es : List E) (Ae : Option Addr) (ce : Nat) (a b : S) (w : World) (hlen : cols.length ≤ 9223372036854775807) (hle : es.length ≤ 9223372036854775807) (hc : ISl w Ac cols) (hx : EX w x) (hes : ESl w Ae es) (ha : In w a) (hb : In w b) :
    Calls Try.prog 4 #[.slice Ac cols.length cc, x.val, .slice Ae es.length ce, .slice a.A a.xs.length a.cap, .slice b.A b.xs.length b.cap] w fun en w' => en = .returned (.bool true) ∧ Grow w w' := by
  have Ha := Lib.hid ha
  have Hb := Lib.hid hb
  have cp := fun W (h : Grow w W) => plus_any a b W (Ha.out.grow h) (Hb.out.grow h)
  obtain ⟨s, e, hs⟩ : ∃ s e, bothZ a.z b.z 1 = (s, e) := ⟨_, _, rfl⟩
  rw [hs] at cp
  have HS := Lib.hid hs
  have l1 := Lib.hid (fun (t : S) (g1 g2 : Nat) W (h : Grow w W) (ht : In W t) => lin1_any cols Ac cc x t g1 g2 W hlen (hc.grow h) (hx.grow h) ht)
  have l2 := Lib.hid (fun (t : S) (g1 g2 : Nat) W (h : Grow w W) (ht : In W t) => lin2_any cols Ac cc es Ae ce t g1 g2 W hlen hle (hc.grow h) (hes.grow h) ht)
  clear hc hx hes ha hb hs
  unfold E.val
  go_enter Try.func4, Try.ntmps4
  go_upto_region 1 with fail
  refine wp_forget (fun X => Blk X w.heap.size 22 #[.slice Ac cols.length cc] ∧ Blk X (w.heap.size + 1) 27 (exCells x) ∧ Blk X (w.heap.size + 2) 25 #[.slice Ae es.length ce] ∧ Grow w X) ⟨(Blk.new _ _ _).grow (((Grow.refl _).al _).al _), (Blk.new' _ _ _ (by simp)).grow ((Grow.refl _).al _), Blk.new' _ _ _ (by simp), (((Grow.refl _).al _).al _).al _⟩ ?_
  generalize w.heap.size + 2 = g3
  generalize w.heap.size + 1 = g2
  generalize w.heap.size = g1
  rintro X ⟨B1, B2, B3, G⟩
  have BB := Lib.hid (And.intro B1 (And.intro B2 B3))
  clear B1 B2 B3
  by_cases h0 : e = 0
  · subst h0
    go_upto_region 6 with (first
      | (go_at_call 8; ((with_reducible refine (alive4 _).mono ?_); rintro e w2 ⟨rfl, hg2⟩))
      | (go_at_call 9; ((with_reducible refine (cp _ (G.trans hg2)).mono ?_); rintro e w3 ⟨F, fs, cf, rfl, hi3, hm3, hg3⟩; have I3 := Lib.hid hi3; have M3 := Lib.hid hm3; clear hi3 hm3)))
    clear cp
    have G3 := G.trans (hg2.trans hg3)
    have B3 := Lib.hid (And.intro (BB.out.1.grow (hg2.trans hg3)) (And.intro (BB.out.2.1.grow (hg2.trans hg3)) (BB.out.2.2.grow (hg2.trans hg3))))
    clear BB
    go_upto_region 7 with fail
    refine wp_forget (fun Y => Blk Y w3.heap.size 39 (linF g1 g2 g3) ∧ Grow w3 Y) ⟨Blk.new _ _ _, (Grow.refl _).al _⟩ ?_
    rintro Y ⟨By, Gy⟩
    have BY := Lib.hid By
    clear By
    go_wp2
    go_loopw [37] (fun i wr => ∃ k : Nat, k ≤ 2 ∧ i = .int .i64 k ∧ Grow Y wr) (fun i _ => 2 - (intOf i).toNat)
    case atStart => exact ⟨0, by omega, rfl, Grow.refl _⟩
    case round =>
      obtain ⟨k, hk, rfl, hg⟩ := hrel
      have HG := Lib.hid (G3.trans (Gy.trans hg))
      obtain ⟨bx, fx⟩ := (BY.out.grow hg).rules
      by_cases hlt : k < 2
      · have hk3 : k = 0 ∨ k = 1 := by omega
        rcases hk3 with rfl | rfl
        ·
          have c := fun (t : S) W (h : Grow wr W) (ht : In W t) => l1.out t g1 g2 W (HG.out.trans h) ht (B3.out.1.grow (Gy.trans (hg.trans h))) (B3.out.2.1.grow (Gy.trans (hg.trans h)))
          have ca := fun W (h : Grow wr W) => c a W h (Ha.out.grow (HG.out.trans h))
          have cb := fun W (h : Grow wr W) => c b W h (Hb.out.grow (HG.out.trans h))
          have cs := fun W (h : Grow wr W) => c ⟨F, fs, cf⟩ W h (I3.out.grow (Gy.trans (hg.trans h)))
          rw [show S.z ⟨F, fs, cf⟩ = s from M3.out] at cs
          obtain ⟨p, pe, hp⟩ : ∃ p pe, filterZ cols x a.z = (p, pe) := ⟨_, _, rfl⟩
          obtain ⟨q, qe, hq⟩ : ∃ q qe, filterZ cols x b.z = (q, qe) := ⟨_, _, rfl⟩
          obtain ⟨r, re, hr⟩ : ∃ r re, filterZ cols x s = (r, re) := ⟨_, _, rfl⟩
          rw [hp] at ca
          rw [hq] at cb
          rw [hr] at cs
          have HP := Lib.hid hp
          have HQ := Lib.hid hq
          have HR := Lib.hid hr
          clear c hp hq hr
          go_upto_region 12 with (first
            | (go_at_call 13; ((with_reducible refine (ca _ (Grow.refl _)).mono ?_); rintro e1 w4 ⟨B4, l4, cap4, rfl, hi4, hm4, hg4⟩; have O4 := Lib.hid (And.intro hi4 hm4); clear hi4 hm4))
            | (go_at_call 13; ((with_reducible refine (cb _ hg4).mono ?_); rintro e1 w5 ⟨B5, l5, cap5, rfl, hi5, hm5, hg5⟩; have O5 := Lib.hid (And.intro hi5 hm5); clear hi5 hm5))
            | (go_at_call 13; ((with_reducible refine (cs _ (hg4.trans hg5)).mono ?_); rintro e1 w6 ⟨B6, l6, cap6, rfl, hi6, hm6, hg6⟩; have O6 := Lib.hid (And.intro hi6 hm6); clear hi6 hm6)))
          have G6 := hg4.trans (hg5.trans hg6)
          clear ca cb cs bx fx
          by_cases h1 : pe = 0
          · by_cases h2 : qe = 0
            · by_cases h3 : re = 0
              · subst h1 h2 h3
                obtain ⟨_, wp, ep⟩ := filter_lin HP.out
                obtain ⟨_, wq, eq⟩ := filter_lin HQ.out
                obtain ⟨cr, wr', er⟩ := filter_lin HR.out
                have hfin := lin_both (holdI_resp x) HS.out cr wp wq wr' ep eq er
                have cp := plus_any ⟨B4, l4, cap4⟩ ⟨B5, l5, cap5⟩ w6 (O4.out.1.grow (hg5.trans hg6)) (O5.out.1.grow hg6)
                rw [show S.z ⟨B4, l4, cap4⟩ = p from O4.out.2, show S.z ⟨B5, l5, cap5⟩ = q from O5.out.2, hfin] at cp
                simp only at cp
                clear wp ep wq eq cr wr' er hfin
                go_upto_region 14 with (go_at_call 9; ((with_reducible refine cp.mono ?_); rintro e1 w7 ⟨B7, l7, cap7, rfl, hi7, hm7, hg7⟩; have O7 := Lib.hid (And.intro hi7 hm7); clear hi7 hm7))
                have sm := fun W (h : Grow w7 W) => same_in ⟨B6, l6, cap6⟩ ⟨B7, l7, cap7⟩ W (O6.out.1.grow (hg7.trans h)) (O7.out.1.grow h) (O6.out.2.trans O7.out.2.symm)
                go_wp2_with (go_at_call 12; ((with_reducible refine (sm _ (Grow.refl _)).mono ?_); rintro e1 w8 ⟨rfl, hg8⟩))
                go_roundw
                case rel => exact ⟨1, by omega, by go_num, hg.trans (G6.trans (hg7.trans hg8))⟩
                case measure => simp [intOf]
              · have d3 : (re != 0) = true := by simpa using h3
                subst h1 h2
                go_wp2
                go_roundw
                case rel => exact ⟨1, by omega, by go_num, hg.trans G6⟩
                case measure => simp [intOf]
            · have d2 : (qe != 0) = true := by simpa using h2
              subst h1
              go_wp2
              go_roundw
              case rel => exact ⟨1, by omega, by go_num, hg.trans G6⟩
              case measure => simp [intOf]
          · have d1 : (pe != 0) = true := by simpa using h1
            go_wp2
            go_roundw
            case rel => exact ⟨1, by omega, by go_num, hg.trans G6⟩
            case measure => simp [intOf]
        ·
          have c := fun (t : S) W (h : Grow wr W) (ht : In W t) => l2.out t g1 g3 W (HG.out.trans h) ht (B3.out.1.grow (Gy.trans (hg.trans h))) (B3.out.2.2.grow (Gy.trans (hg.trans h)))
          have ca := fun W (h : Grow wr W) => c a W h (Ha.out.grow (HG.out.trans h))
          have cb := fun W (h : Grow wr W) => c b W h (Hb.out.grow (HG.out.trans h))
          have cs := fun W (h : Grow wr W) => c ⟨F, fs, cf⟩ W h (I3.out.grow (Gy.trans (hg.trans h)))
          rw [show S.z ⟨F, fs, cf⟩ = s from M3.out] at cs
          obtain ⟨p, pe, hp⟩ : ∃ p pe, mapZ cols es a.z = (p, pe) := ⟨_, _, rfl⟩
          obtain ⟨q, qe, hq⟩ : ∃ q qe, mapZ cols es b.z = (q, qe) := ⟨_, _, rfl⟩
          obtain ⟨r, re, hr⟩ : ∃ r re, mapZ cols es s = (r, re) := ⟨_, _, rfl⟩
          rw [hp] at ca
          rw [hq] at cb
          rw [hr] at cs
          have HP := Lib.hid hp
          have HQ := Lib.hid hq
          have HR := Lib.hid hr
          clear c hp hq hr
          go_upto_region 12 with (first
            | (go_at_call 15; ((with_reducible refine (ca _ (Grow.refl _)).mono ?_); rintro e1 w4 ⟨B4, l4, cap4, rfl, hi4, hm4, hg4⟩; have O4 := Lib.hid (And.intro hi4 hm4); clear hi4 hm4))
            | (go_at_call 15; ((with_reducible refine (cb _ hg4).mono ?_); rintro e1 w5 ⟨B5, l5, cap5, rfl, hi5, hm5, hg5⟩; have O5 := Lib.hid (And.intro hi5 hm5); clear hi5 hm5))
            | (go_at_call 15; ((with_reducible refine (cs _ (hg4.trans hg5)).mono ?_); rintro e1 w6 ⟨B6, l6, cap6, rfl, hi6, hm6, hg6⟩; have O6 := Lib.hid (And.intro hi6 hm6); clear hi6 hm6)))
          have G6 := hg4.trans (hg5.trans hg6)
          clear ca cb cs bx fx
          by_cases h1 : pe = 0
          · by_cases h2 : qe = 0
            · by_cases h3 : re = 0
              · subst h1 h2 h3
                obtain ⟨_, wp, ep⟩ := map_lin HP.out
                obtain ⟨_, wq, eq⟩ := map_lin HQ.out
                obtain ⟨cr, wr', er⟩ := map_lin HR.out
                have hfin := lin_both (mapI_resp es) HS.out cr wp wq wr' ep eq er
                have cp := plus_any ⟨B4, l4, cap4⟩ ⟨B5, l5, cap5⟩ w6 (O4.out.1.grow (hg5.trans hg6)) (O5.out.1.grow hg6)
                rw [show S.z ⟨B4, l4, cap4⟩ = p from O4.out.2, show S.z ⟨B5, l5, cap5⟩ = q from O5.out.2, hfin] at cp
                simp only at cp
                clear wp ep wq eq cr wr' er hfin
                go_upto_region 14 with (go_at_call 9; ((with_reducible refine cp.mono ?_); rintro e1 w7 ⟨B7, l7, cap7, rfl, hi7, hm7, hg7⟩; have O7 := Lib.hid (And.intro hi7 hm7); clear hi7 hm7))
                have sm := fun W (h : Grow w7 W) => same_in ⟨B6, l6, cap6⟩ ⟨B7, l7, cap7⟩ W (O6.out.1.grow (hg7.trans h)) (O7.out.1.grow h) (O6.out.2.trans O7.out.2.symm)
                go_wp2_with (go_at_call 12; ((with_reducible refine (sm _ (Grow.refl _)).mono ?_); rintro e1 w8 ⟨rfl, hg8⟩))
                go_roundw
                case rel => exact ⟨2, by omega, by go_num, hg.trans (G6.trans (hg7.trans hg8))⟩
                case measure => simp [intOf]
              · have d3 : (re != 0) = true := by simpa using h3
                subst h1 h2
                go_wp2
                go_roundw
                case rel => exact ⟨2, by omega, by go_num, hg.trans G6⟩
                case measure => simp [intOf]
            · have d2 : (qe != 0) = true := by simpa using h2
              subst h1
              go_wp2
              go_roundw
              case rel => exact ⟨2, by omega, by go_num, hg.trans G6⟩
              case measure => simp [intOf]
          · have d1 : (pe != 0) = true := by simpa using h1
            go_wp2
            go_roundw
            case rel => exact ⟨2, by omega, by go_num, hg.trans G6⟩
            case measure => simp [intOf]
      · obtain rfl : k = 2 := by omega
        go_wp2
        go_ret
        exact ret_bool (by simp) HG.out
  · have d0 : decide (e = 0) = false := by simpa using h0
    rw [d0] at cp
    go_wp2_with (first
      | (go_at_call 8; ((with_reducible refine (alive4 _).mono ?_); rintro e w2 ⟨rfl, hg2⟩))
      | (go_at_call 9; ((with_reducible refine (cp _ (G.trans hg2)).mono ?_); rintro e w3 ⟨F, fs, cf, rfl, hi3, hm3, hg3⟩; clear hi3 hm3)))
    go_ret
    exact ret_bool (by simp) (G.trans (hg2.trans hg3))
end Go.Proofs.Ytpdimihojeonhaa
