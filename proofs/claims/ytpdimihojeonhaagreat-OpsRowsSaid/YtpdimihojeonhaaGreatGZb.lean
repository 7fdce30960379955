/-
  Joined texts of this claim: R4d, R4e. What each proves its own head says; no condition beside those that each theorem names.
-/
import Derived.Test.YtpdimihojeonhaaGreatGZ
import Derived.Test.YtpdimihojeonhaaGreatGZe
import Derived.Test.YtpdimihojeonhaaGreatGS
namespace Go.Proofs.YtpdimihojeonhaaGreat
open Go.RowKit Go.Calm
set_option linter.unusedSimpArgs false
set_option linter.unusedVariables false

set_option maxRecDepth 100000 in
set_option maxHeartbeats 4000000 in
theorem rtypes_any (cols : List Int) (Ac : Option Addr) (cc : Nat) (xs : List E) (A : Option Addr) (c : Nat) (w : World) (hlen : cols.length ≤ 9223372036854775807) (hl : xs.length ≤ 9223372036854775807) (hc : ISl w Ac cols) (hx : ESl w A xs) :
    Calls Tryz.prog 32 #[.slice Ac cols.length cc, .slice A xs.length c] w fun en w' => ∃ (B : Option Addr) (cap : Nat), en = .returned (.tuple #[.slice B (typesE cols xs).1.length cap, .int .i64 (typesE cols xs).2]) ∧ ISl w' B (typesE cols xs).1 ∧ SlOk B (typesE cols xs).1.length cap ∧ Grow w w' := by
  have Hx := Lib.hid hx
  have Hc := Lib.hid hc
  have Ti := Lib.hid info_int'
  clear hx hc
  obtain ⟨R, hR⟩ : ∃ R, typesE cols xs = R := ⟨_, rfl⟩
  rw [hR]
  have HR := Lib.hid hR
  clear hR
  go_enter Tryz.func32, Tryz.ntmps32
  by_cases h8 : 8 < xs.length
  · have d8 : decide ((8 : Int) < (xs.length : Int)) = true := decide_eq_true (by omega)
    have e : R = ([], 5) := by rw [← HR.out]; unfold typesE; rw [if_pos h8]
    subst e
    go_wp2
    refine bodyPost_ret (by simp [results, Tryz.results32, go_sem] <;> rfl) rfl ?_
    exact ⟨none, 0, rfl, isl_nil _ _, SlOk.nil, Grow.refl _⟩
  · have d8 : decide ((8 : Int) < (xs.length : Int)) = false := decide_eq_false (by omega)
    have e : R = typesGo cols xs := by rw [← HR.out]; unfold typesE; rw [if_neg h8]
    have Re := Lib.hid e
    clear e
    go_wp2
    go_loopw [6, 15] (fun t i wr => ∃ k : Nat, k ≤ xs.length ∧ i = .int .i64 k ∧ wr.ownsRow w.heap.size 3 1 t k (((xs.take k).map (fun x => (typeE cols x).1)).map (Value.int .i64)) ∧ (∀ x ∈ xs.take k, (typeE cols x).2 = 0) ∧ Grow w wr) (fun _ i _ => xs.length - (intOf i).toNat)
    case atStart => exact ⟨0, Nat.zero_le _, rfl, World.ownsRow_nil _ _ _ _, fun x hx => by simp at hx, Grow.refl w⟩
    case round =>
      obtain ⟨k, hk, rfl, hown, hz, hg⟩ := hrel
      have Own := Lib.hid hown
      have Hz := Lib.hid hz
      clear hown hz
      by_cases hlt : k < xs.length
      · obtain ⟨x, hxk⟩ : ∃ x, xs[k]? = some x := ⟨_, List.getElem?_eq_getElem hlt⟩
        obtain ⟨gx, ox, rfl, hec, hex⟩ := (Hx.out.grow hg) k x hxk
        obtain ⟨c0, c1, c2, c3, c4, c5⟩ := hec
        obtain ⟨T, F, hTF⟩ : ∃ T F, typeE cols x = (T, F) := ⟨_, _, rfl⟩
        have ct := fun W (h : Grow wr W) => typeof_any cols Ac cc x W hlen (Hc.out.grow (hg.trans h)) (hex.grow h)
        rw [hTF] at ct
        simp only at ct
        have Hxk := Lib.hid hxk
        have HTF := Lib.hid hTF
        have hl2 := Own.out.lt
        have HL2 := Lib.hid hl2
        clear hxk hex hTF hl2
        unfold E.val at ct
        obtain ⟨ti, hti, hz0, hz1, hz2⟩ := Ti.out
        by_cases h0 : F = 0
        · subst h0
          go_wp2_with (first
            | (go_at_call 69; ((with_reducible refine (ct _ (Grow.refl _)).mono ?_); rintro e w2 ⟨rfl, hg2⟩; have Own2 := Lib.hid (own_grow Own.out hg2); have G2 := hg.trans hg2; clear hg2))
            | (at_builtin; refine wpList_append_own _ rfl _ _ 22 rfl w.heap.size 3 ti (.int .i64 0) 1 8 Tryz.underlying22 hti hz0 hz1 hz2 rfl (by decide) _ _ _ rfl (Own2.out.alloc _) ⟨w2.heap.size, 0, none⟩ 1 1 [.int .i64 T] rfl rfl ?c1 ?c2 ?c3 ?c4 ?c5 ?_))
          case c1 =>
            intro j u hj
            match j, hj with
            | 0, hj => simp at hj; subst hj; simp [Addr.add]
          case c2 => intro u hu; simp at hu; subst hu; rfl
          case c3 => unfold maxLen; omega
          case c4 => omega
          case c5 => have := G2.size; simp; omega
          · intro v' w7 hown' hgrow _
            have hg7 : Grow w w7 := Grow.own (G2.al _) hgrow (fun i hi => (HL2.out i hi).1)
            clear hgrow
            go_wp2
            go_roundw
            case rel => exact ⟨k + 1, by omega, by go_num, by rw [take_sn _ Hxk.out, HTF.out]; simpa using hown', fun y hy => by
              obtain ⟨h1, e1⟩ := List.getElem?_eq_some_iff.1 Hxk.out
              rw [List.take_succ_eq_append_getElem h1, e1] at hy
              rcases List.mem_append.1 hy with hy | hy
              · exact Hz.out y hy
              · simp at hy; subst hy; rw [HTF.out], hg7⟩
            case measure => simp [intOf]; omega
        · have d0 : (F != 0) = true := by simpa using h0
          have e : R = ([], F) := by rw [Re.out, typesGo_bad cols xs k x Hxk.out Hz.out (by rw [HTF.out]; exact h0), HTF.out]
          subst e
          go_wp2_with (go_at_call 69; ((with_reducible refine (ct _ (Grow.refl _)).mono ?_); rintro e w2 ⟨rfl, hg2⟩; have G2 := hg.trans hg2; clear hg2))
          refine bodyPost_ret (by simp [results, Tryz.results32, go_sem] <;> rfl) rfl ?_
          exact ⟨none, 0, rfl, isl_nil _ _, SlOk.nil, G2⟩
      · obtain rfl : k = xs.length := by omega
        have own := Own.out
        rw [List.take_length] at own
        have e : R = (xs.map (fun x => (typeE cols x).1), 0) := by rw [Re.out, typesGo_ok cols xs (by have := Hz.out; rw [List.take_length] at this; exact this)]
        subst e
        obtain ⟨B, cap, rfl, hi, hs⟩ := own_isl own
        have Fin := Lib.hid (And.intro hi hs)
        clear own hi hs
        go_wp2
        refine bodyPost_ret (by simp [results, Tryz.results32, go_sem] <;> rfl) rfl ?_
        exact ⟨B, cap, by simp, Fin.out.1, by simpa using Fin.out.2, hg⟩

set_option maxRecDepth 100000 in
set_option maxHeartbeats 4000000 in
theorem rvalues_any (xs : List E) (A : Option Addr) (c : Nat) (row : List V) (Ar : Option Addr) (cr : Nat) (w : World) (hl : xs.length ≤ 1000) (hlr : row.length ≤ 9223372036854775807) (hx : ESl w A xs) (cols : List Int) (hty : ∀ x ∈ xs, ∃ T, wt cols x T) (hfit : FitR cols row) (hrow : VSl w Ar row) :
    Calls Tryz.prog 33 #[.slice A xs.length c, .slice Ar row.length cr] w fun en w' => ∃ (B : Option Addr) (cap : Nat), en = .returned (.slice B xs.length cap) ∧ w'.ownsRow w.heap.size 24 3 (.slice B xs.length cap) xs.length (flatW (xs.map (ofE row))) ∧ Grow w w' := by
  have Hx := Lib.hid hx
  have Hty := Lib.hid hty
  have Hfit := Lib.hid hfit
  have Hrow := Lib.hid hrow
  have Ti := Lib.hid info_val2'
  clear hx hty hfit hrow
  go_enter Tryz.func33, Tryz.ntmps33
  go_wp2
  go_loopw [5, 9] (fun t i wr => ∃ k : Nat, k ≤ xs.length ∧ i = .int .i64 k ∧ wr.ownsRow w.heap.size 24 3 t k (flatW ((xs.take k).map (ofE row))) ∧ Grow w wr) (fun _ i _ => xs.length - (intOf i).toNat)
  case atStart => exact ⟨0, Nat.zero_le _, rfl, World.ownsRow_nil _ _ _ _, Grow.refl w⟩
  case round =>
    obtain ⟨k, hk, rfl, hown, hg⟩ := hrel
    have Own := Lib.hid hown
    clear hown
    by_cases hlt : k < xs.length
    · obtain ⟨x, hxk⟩ : ∃ x, xs[k]? = some x := ⟨_, List.getElem?_eq_getElem hlt⟩
      obtain ⟨gx, ox, rfl, hec, hex⟩ := (Hx.out.grow hg) k x hxk
      obtain ⟨T, ht⟩ := Hty.out x (List.mem_of_getElem? hxk)
      have co := fun W (h : Grow wr W) => rof_any cols row Ar cr hlr Hfit.out x ht wr W hex (Hrow.out.grow hg) h
      obtain ⟨c0, c1, c2, c3, c4, c5⟩ := hec
      have e := take_sn (ofE row) hxk
      have E := Lib.hid e
      obtain ⟨ti, hti, hz0, hz1, hz2⟩ := Ti.out
      have hl2 := Own.out.lt
      have HL2 := Lib.hid hl2
      generalize ofE row x = v9 at *
      unfold V.val at co
      unfold Go.Proofs.YtpdimihojeonhaaGreat.E.val at co
      clear hxk e hl2 hex ht
      go_wp2_with (first
        | (go_at_call 73; ((with_reducible refine (co _ (by repeat (first | (with_reducible exact Grow.refl _) | (with_reducible assumption) | (with_reducible refine Grow.set ?_ (by first | (simp; done) | (simp; omega)) _) | (with_reducible refine Grow.al ?_ _) | (with_reducible refine Grow.drew ?_) | (with_reducible refine Grow.drewN ?_ _) | (with_reducible refine Grow.trans ?_ (by assumption))))).mono ?_); rintro e w2 ⟨rfl, hg2⟩; have Own2 := Lib.hid (own_grow Own.out hg2); have G2 := hg.trans hg2; clear hg2))
        | (at_builtin; refine wpList_append_own _ rfl _ _ 46 rfl w.heap.size 24 ti (.agg #[.int .i64 0, .int .i64 0, .string ⟨#[]⟩]) 3 32 Tryz.underlying46 hti hz0 hz1 hz2 rfl (by decide) _ _ _ rfl (Own2.out.alloc _) ⟨w2.heap.size, 0, none⟩ 1 1 (flatW [v9]) rfl rfl ?c1 (flatW_one _) ?c3 ?c4 ?c5 ?_))
      case c1 =>
        intro j u hj
        match j, hj with
        | 0, hj => simp [flatW] at hj; subst hj; simp [Addr.add]
        | 1, hj => simp [flatW] at hj; subst hj; simp [Addr.add]
        | 2, hj => simp [flatW] at hj; subst hj; simp [Addr.add]
      case c3 => unfold maxLen; omega
      case c4 => omega
      case c5 => have := G2.size; simp; omega
      · intro v' w7 hown' hgrow _
        have hg7 : Grow w w7 := Grow.own (G2.al _) hgrow (fun i hi => (HL2.out i hi).1)
        clear hgrow
        go_wp2
        go_roundw
        case rel => exact ⟨k + 1, by omega, by go_num, by rw [E.out, flatW_append]; simpa using hown', hg7⟩
        case measure => simp [intOf]; omega
    · obtain rfl : k = xs.length := by omega
      have hfin : ∃ (B : Option Addr) (cap : Nat), u5 = .slice B xs.length cap := by
        have h := Own.out
        rcases h.2 with ⟨rfl, h0⟩ | ⟨gb, cap, cur, rfl, _⟩
        · exact ⟨none, 0, by rw [h0]⟩
        · exact ⟨_, _, rfl⟩
      obtain ⟨B, cap, rfl⟩ := hfin
      have own := Own.out
      rw [List.take_length] at own
      have Fin := Lib.hid own
      clear own
      go_wp2
      go_ret
      exact ⟨B, cap, rfl, Fin.out, hg⟩
theorem filter_val (cols : List Int) (x : E) (z : List Z) : filterZ cols x z = if condE cols x ≠ 0 then ([], condE cols x) else if inputE cols z ≠ 0 then ([], inputE cols z) else (setZ (z.filter (fun r => holdB x r.1)), 0) := by
  unfold filterZ
  split
  · rfl
  · split
    · rfl
    · rename_i h2
      obtain ⟨_, hw, _⟩ := inputE_zero (cols := cols) (z := z) (by simpa using h2)
      have sm := filter_sm (SM.of hw) (fun r => holdB x r.1)
      exact (sum_sm (M := 1000000) (N := 400) sm.ok (fun q => wt_bd (by omega) sm.rv sm.up sm.bd q) sm.len (by omega) (by omega)).1
theorem holdf_at (x : E) {xs : List I} {k : Nat} {y : I} (h : xs[k]? = some y) : ((xs.take (k + 1)).map zOf).filter (fun r => holdB x r.1) = ((xs.take k).map zOf).filter (fun r => holdB x r.1) ++ if holdB x y.row then [(y.row, y.w)] else [] := by
  rw [take_sn zOf h, List.filter_append]
  cases hh : holdB x y.row <;> simp [zOf, hh]
set_option maxRecDepth 100000 in
set_option maxHeartbeats 8000000 in
theorem rfilter_any (cols : List Int) (Ac : Option Addr) (cc : Nat) (x : E) (s : S) (w : World) (hlen : cols.length ≤ 9223372036854775807) (hc : ISl w Ac cols) (hE : EX w x) (hs : In w s) :
    Calls Tryz.prog 7 #[.slice Ac cols.length cc, x.val, .slice s.A s.xs.length s.cap] w fun en w' => Gives w w' en (filterZ cols x s.z) := by
  obtain ⟨A, xs, c⟩ := s
  have H := Lib.hid hs
  have HX := Lib.hid hE
  have ct := fun W (hg : Grow w W) => rcond_any cols Ac cc x W hlen (hc.grow hg) (hE.grow hg)
  have ci := fun W (hg : Grow w W) => rinput_any cols Ac cc xs A c W hlen (hc.grow hg) (hs.grow hg)
  obtain ⟨CE, hCE⟩ : ∃ CE, condE cols x = CE := ⟨_, rfl⟩
  obtain ⟨IE, hIE⟩ : ∃ IE, inputE cols (xs.map zOf) = IE := ⟨_, rfl⟩
  rw [hCE] at ct
  rw [hIE] at ci
  obtain ⟨Q, hQ⟩ : ∃ Q, filterZ cols x (xs.map zOf) = Q := ⟨_, rfl⟩
  rw [show S.z ⟨A, xs, c⟩ = xs.map zOf from rfl, hQ]
  have fin : Q = if CE ≠ 0 then ([], CE) else if IE ≠ 0 then ([], IE) else (setZ ((xs.map zOf).filter (fun r => holdB x r.1)), 0) := by rw [← hQ, filter_val, hCE, hIE]
  have Fin := Lib.hid fin
  have HCE := Lib.hid hCE
  have HIE := Lib.hid hIE
  clear hs hc hE hCE hIE hQ fin
  unfold E.val at *
  go_enter Tryz.func7, Tryz.ntmps7
  go_upto_region 1 with fail
  refine wp_forget (fun X => Blk X w.heap.size 27 (exC x) ∧ Grow w X) ⟨Blk.new _ _ _, (Grow.refl _).al _⟩ ?_
  generalize w.heap.size = g1
  rintro X ⟨Bx, G⟩
  have BX := Lib.hid Bx
  obtain ⟨bx, fx⟩ := Bx.rules
  clear Bx
  by_cases h0 : CE = 0
  · by_cases h1 : IE = 0
    · subst h0 h1
      have eQ : Q = (setZ ((xs.map zOf).filter (fun r => holdB x r.1)), 0) := by rw [Fin.out]; simp
      have EQ := Lib.hid eQ
      obtain ⟨_, hwz, hfit⟩ := inputE_zero HIE.out
      obtain ⟨a1, a2, a3, a4⟩ := S.facts (s := ⟨A, xs, c⟩) hwz
      have a1 : xs.length ≤ 400 := a1
      have A2 := Lib.hid (show ∀ y ∈ xs, y.row.length ≤ 8 from a2)
      have A3 := Lib.hid (show ∀ y ∈ xs, ∀ v ∈ y.row, RV v from a3)
      have A4 := Lib.hid (show ∀ y ∈ xs, -1000000 ≤ y.w ∧ y.w ≤ 1000000 from a4)
      have Hfit := Lib.hid (show ∀ y ∈ xs, FitR cols y.row from fun y hy => (fits_iff _ _).1 (hfit (zOf y) (List.mem_map_of_mem hy)))
      obtain ⟨T, hok⟩ := okay_of (condE_zero HCE.out).1
      have HT := Lib.hid hok.ty
      clear eQ hwz hfit a2 a3 a4 hok
      go_upto_region 8 with (first
        | (go_at_call 26; ((with_reducible refine (ct _ G).mono ?_); rintro e w2 ⟨rfl, hg2⟩))
        | (go_at_call 27; ((with_reducible refine (ci _ (G.trans hg2)).mono ?_); rintro e w3 ⟨rfl, hg3⟩)))
      have G3 := G.trans (hg2.trans hg3)
      have B3 := Lib.hid (BX.out.grow (hg2.trans hg3))
      clear ct ci bx fx
      go_wp2
      go_loopw [10, 27] (fun t i wr => ∃ k : Nat, k ≤ xs.length ∧ i = .int .i64 k ∧ PutSb w3 wr t (((xs.take k).map zOf).filter (fun r => holdB x r.1))) (fun _ i _ => xs.length - (intOf i).toNat)
      case atStart => exact ⟨0, Nat.zero_le _, rfl, PutSb.nil _ _ (Grow.refl _)⟩
      case round =>
        rename World => wr
        obtain ⟨k, hk, rfl, hp⟩ := hrel
        obtain ⟨Bt, nt, ct, rfl⟩ := hp.slice
        have P := Lib.hid hp
        have hg := hp.grow
        clear hp
        by_cases hlt : k < xs.length
        · obtain ⟨y, hyk⟩ : ∃ y, xs[k]? = some y := ⟨_, List.getElem?_eq_getElem hlt⟩
          obtain ⟨gx2, ox2, rfl, c1, c2, hyv⟩ := (H.out.z.grow (G3.trans hg)) k y hyk
          have hm := List.mem_of_getElem? hyk
          have ly := A2.out y hm
          have wy := A4.out y hm
          have vy := Lib.hid (A3.out y hm)
          have fy := Lib.hid (Hfit.out y hm)
          have Fl := Lib.hid (holdf_at x hyk)
          have HV := Lib.hid hyv
          have lk : (((xs.take k).map zOf).filter (fun r => holdB x r.1)).length ≤ 400 := by
            refine Nat.le_trans (List.length_filter_le _ _) ?_
            simp; omega
          have ch := fun W (h : Grow wr W) => rholds_any cols y.row y.A y.cap x T W (by omega) fy.out HT.out (HX.out.grow (G3.trans (hg.trans h))) (HV.out.grow h)
          obtain ⟨hit, hh⟩ : ∃ t, holdB x y.row = t := ⟨_, rfl⟩
          rw [hh] at ch
          have HH := Lib.hid hh
          unfold E.val at ch
          clear hyk hm hyv hh
          go_upto_region 11 with fail
          refine wp_forget (fun Z1 => Blk Z1 wr.heap.size 48 #[.slice y.A y.row.length y.cap, .int .i64 y.w] ∧ Grow wr Z1) ⟨Blk.new _ _ _, (Grow.refl wr).al _⟩ ?_
          rintro Z1 ⟨Bz, Gz⟩
          have BZ := Lib.hid Bz
          have BX1 := Lib.hid (B3.out.grow (hg.trans Gz))
          obtain ⟨bz, fz⟩ := Bz.rules
          obtain ⟨bx, fx⟩ := BX1.out.rules
          have PZ := Lib.hid (P.out.more Gz)
          clear Bz c1 c2
          generalize wr.heap.size = gz at *
          cases hit with
          | false =>
            go_wp2_with (go_at_call 28; ((with_reducible refine (ch _ Gz).mono ?_); rintro e w4 ⟨rfl, hg4⟩))
            have P4 := Lib.hid (PZ.out.more hg4)
            go_roundw
            case rel => exact ⟨k + 1, by omega, by go_num, by rw [Fl.out, HH.out]; simpa using P4.out⟩
            case measure => simp [intOf]; omega
          | true =>
            go_upto_region 12 with (go_at_call 28; ((with_reducible refine (ch _ Gz).mono ?_); rintro e w4 ⟨rfl, hg4⟩))
            have P4 := Lib.hid (PZ.out.more hg4)
            have cpt := put_stepb P4.out y.row y.A y.cap y.w (HV.out.grow (Gz.trans hg4)) (by omega) vy.out (by omega) (by omega)
            clear bz fz bx fx
            obtain ⟨bz, fz⟩ := (BZ.out.grow hg4).rules
            go_wp2_with (go_at_call 29; ((with_reducible refine cpt.mono ?_); rintro e w5 ⟨v5, rfl, hp5, hg5⟩; have P5 := Lib.hid hp5; clear hp5))
            go_roundw
            case rel => exact ⟨k + 1, by omega, by go_num, by rw [Fl.out, HH.out]; simpa using P5.out⟩
            case measure => simp [intOf]; omega
        · obtain rfl : k = xs.length := by omega
          have P1 := P.out
          rw [List.take_length] at P1
          obtain ⟨⟨B, ys, cap, e9, hz, hm, hk2⟩, hg', _⟩ := P1
          simp only [Value.slice.injEq] at e9
          obtain ⟨rfl, rfl, rfl⟩ := e9
          have Out := Lib.hid (And.intro hz (And.intro hm hk2))
          clear hz hm hk2
          go_wp2
          refine bodyPost_ret (by simp [results, Tryz.results7, go_sem] <;> rfl) rfl ?_
          exact ⟨Bt, ys, ct, by rw [EQ.out], Out.out.1, by rw [EQ.out]; exact Out.out.2.1, Out.out.2.2, G3.trans hg⟩
    · have d1 : (IE != 0) = true := by simpa using h1
      have eQ : Q = ([], IE) := by rw [Fin.out, if_neg (by simpa using h0), if_pos h1]
      subst h0
      go_wp2_with (first
        | (go_at_call 26; ((with_reducible refine (ct _ G).mono ?_); rintro e w2 ⟨rfl, hg2⟩))
        | (go_at_call 27; ((with_reducible refine (ci _ (G.trans hg2)).mono ?_); rintro e w3 ⟨rfl, hg3⟩)))
      refine bodyPost_ret (by simp [results, Tryz.results7, go_sem] <;> rfl) rfl ?_
      exact ⟨none, [], 0, by rw [eQ]; rfl, zin_nil _ _, by rw [eQ]; rfl, SlOk.nil, G.trans (hg2.trans hg3)⟩
  · have d0 : (CE != 0) = true := by simpa using h0
    have eQ : Q = ([], CE) := by rw [Fin.out, if_pos h0]
    go_wp2_with (go_at_call 26; ((with_reducible refine (ct _ G).mono ?_); rintro e w2 ⟨rfl, hg2⟩))
    refine bodyPost_ret (by simp [results, Tryz.results7, go_sem] <;> rfl) rfl ?_
    exact ⟨none, [], 0, by rw [eQ]; rfl, zin_nil _ _, by rw [eQ]; rfl, SlOk.nil, G.trans hg2⟩
end Go.Proofs.YtpdimihojeonhaaGreat

namespace Go.Proofs.YtpdimihojeonhaaGreat
open Go.RowKit Go.Calm
set_option linter.unusedSimpArgs false
set_option linter.unusedVariables false

def PVn (n : Nat) (vs : List V) (v : Value) (W : World) : Prop := ∃ (B : Option Addr) (cap : Nat), v = .slice B n cap ∧ VSl W B vs
theorem own_vsn {w : World} {base cap n : Nat} {B : Option Addr} {ys : List V} (hn : ys.length = n) (h : w.ownsRow base 24 3 (.slice B n cap) n (flatW ys)) : VSl w B ys := by
  rw [← hn] at h
  obtain ⟨B', c', e, hv⟩ := own_vsl h
  simp at e
  rw [e.1]; exact hv
set_option maxRecDepth 100000 in
set_option maxHeartbeats 8000000 in
theorem rmap_any (cols : List Int) (Ac : Option Addr) (cc : Nat) (es : List E) (Ae : Option Addr) (ce : Nat) (s : S) (w : World) (hlen : cols.length ≤ 9223372036854775807) (hle : es.length ≤ 9223372036854775807) (hc : ISl w Ac cols) (hE : ESl w Ae es) (hs : In w s) :
    Calls Tryz.prog 10 #[.slice Ac cols.length cc, .slice Ae es.length ce, .slice s.A s.xs.length s.cap] w fun en w' => Gives w w' en (mapZ cols es s.z) := by
  obtain ⟨A, xs, c⟩ := s
  have H := Lib.hid hs
  have HX := Lib.hid hE
  have ct := rtypes_any cols Ac cc es Ae ce w hlen hle hc hE
  have ci := fun W (hg : Grow w W) => rinput_any cols Ac cc xs A c W hlen (hc.grow hg) (hs.grow hg)
  obtain ⟨TS, TE, hTE⟩ : ∃ TS TE, typesE cols es = (TS, TE) := ⟨_, _, rfl⟩
  obtain ⟨IE, hIE⟩ : ∃ IE, inputE cols (xs.map zOf) = IE := ⟨_, rfl⟩
  rw [hTE] at ct
  rw [hIE] at ci
  obtain ⟨Q, hQ⟩ : ∃ Q, mapZ cols es (xs.map zOf) = Q := ⟨_, rfl⟩
  rw [show S.z ⟨A, xs, c⟩ = xs.map zOf from rfl, hQ]
  have fin : Q = if TE ≠ 0 then ([], TE) else if IE ≠ 0 then ([], IE) else fitZ (setZ ((xs.map zOf).map (fun r => (es.map (ofE r.1), r.2)))) := by rw [← hQ]; unfold mapZ; rw [hTE, hIE]; rfl
  have Fin := Lib.hid fin
  have HTE := Lib.hid hTE
  have HIE := Lib.hid hIE
  clear hs hc hE hTE hIE hQ fin
  go_enter Tryz.func10, Tryz.ntmps10
  by_cases h0 : TE = 0
  · by_cases h1 : IE = 0
    · subst h0 h1
      have eQ : Q = fitZ (setZ ((xs.map zOf).map (fun r => (es.map (ofE r.1), r.2)))) := by rw [Fin.out]; simp
      have EQ := Lib.hid eQ
      obtain ⟨_, hwz, hfit⟩ := inputE_zero HIE.out
      obtain ⟨a1, a2, a3, a4⟩ := S.facts (s := ⟨A, xs, c⟩) hwz
      have a1 : xs.length ≤ 400 := a1
      have A2 := Lib.hid (show ∀ y ∈ xs, y.row.length ≤ 8 from a2)
      have A4 := Lib.hid (show ∀ y ∈ xs, -1000000 ≤ y.w ∧ y.w ≤ 1000000 from a4)
      have Hfit := Lib.hid (show ∀ y ∈ xs, FitR cols y.row from fun y hy => (fits_iff _ _).1 (hfit (zOf y) (List.mem_map_of_mem hy)))
      obtain ⟨he8, hty⟩ := typesE_zero (by rw [HTE.out] : (typesE cols es).2 = 0)
      have Hty := Lib.hid (show ∀ x ∈ es, ∃ T, wt cols x T from fun x hx => by obtain ⟨T, hok⟩ := okay_of (hty x hx); exact ⟨T, hok.ty⟩)
      have Hrv := Lib.hid (show ∀ y ∈ xs, ∀ v ∈ es.map (ofE y.row), RV v from fun y hy v hv => by
        obtain ⟨e, he, rfl⟩ := List.mem_map.1 hv
        exact fit_rv (hty e he) (hfit (zOf y) (List.mem_map_of_mem hy)))
      clear eQ hwz hfit a2 a3 a4 hty
      go_upto_region 8 with (first
        | (go_at_call 32; ((with_reducible refine ct.mono ?_); rintro e w2 ⟨BT, capT, rfl, _, _, hg2⟩))
        | (go_at_call 27; ((with_reducible refine (ci _ hg2).mono ?_); rintro e w3 ⟨rfl, hg3⟩)))
      have G3 := hg2.trans hg3
      clear ct ci
      go_wp2
      go_loopw [11, 31] (fun t i wr => ∃ k : Nat, k ≤ xs.length ∧ i = .int .i64 k ∧ PutSb w3 wr t ((xs.take k).map (fun y => (es.map (ofE y.row), y.w)))) (fun _ i _ => xs.length - (intOf i).toNat)
      case atStart => exact ⟨0, Nat.zero_le _, rfl, PutSb.nil _ _ (Grow.refl _)⟩
      case round =>
        rename World => wr
        obtain ⟨k, hk, rfl, hp⟩ := hrel
        obtain ⟨Bt, nt, ct, rfl⟩ := hp.slice
        have P := Lib.hid hp
        have hg := hp.grow
        clear hp
        by_cases hlt : k < xs.length
        · obtain ⟨y, hyk⟩ : ∃ y, xs[k]? = some y := ⟨_, List.getElem?_eq_getElem hlt⟩
          obtain ⟨gx2, ox2, rfl, c1, c2, hyv⟩ := (H.out.z.grow (G3.trans hg)) k y hyk
          have hm := List.mem_of_getElem? hyk
          have ly := A2.out y hm
          have wy := A4.out y hm
          have vy := Lib.hid (Hrv.out y hm)
          have fy := Lib.hid (Hfit.out y hm)
          have tk := take_sn (fun y : I => (es.map (ofE y.row), y.w)) hyk
          have HV := Lib.hid hyv
          have cv := fun W (h : Grow wr W) => rvalues_any es Ae ce y.row y.A y.cap W (by omega) (by omega) (HX.out.grow (G3.trans (hg.trans h))) cols Hty.out fy.out (HV.out.grow h)
          obtain ⟨VR, hVR⟩ : ∃ q, es.map (ofE y.row) = q := ⟨_, rfl⟩
          have lv : VR.length = es.length := by rw [← hVR]; simp
          have vy2 := vy.out
          rw [hVR] at cv tk vy2
          have Lv := Lib.hid lv
          have Vy := Lib.hid vy2
          have Fl := Lib.hid tk
          have lk : ((xs.take k).map (fun y : I => (es.map (ofE y.row), y.w))).length ≤ 400 := by simp; omega
          clear hyk hm hyv hVR tk lv vy vy2
          go_upto_region 11 with fail
          refine wp_forget (fun Z1 => Blk Z1 wr.heap.size 48 #[.slice y.A y.row.length y.cap, .int .i64 y.w] ∧ Grow wr Z1) ⟨Blk.new _ _ _, (Grow.refl wr).al _⟩ ?_
          rintro Z1 ⟨Bz, Gz⟩
          have BZ := Lib.hid Bz
          have PZ := Lib.hid (P.out.more Gz)
          clear Bz c1 c2
          generalize wr.heap.size = gz at *
          apply wp_region_calm 9 (by kernel_rfl) (by kernel_rfl)
          case h' =>
            intro Q0 hQ0
            simp only [List.take_succ_cons, List.take_zero]
            repeat (
              first
                | (apply calm_p rfl; case h1 => (intro w1 hw1 hF K hK; obtain ⟨bz, fz⟩ := (BZ.out.grow hw1).rules; go_simp; first | exact hK _ (Grow.refl _) | fail))
                | (apply calm_y rfl rfl rfl; case h1 => (intro w1 hw1 hF K hK; obtain ⟨bz, fz⟩ := (BZ.out.grow hw1).rules; go_simp; first | exact hK _ (Grow.refl _) | fail))
                | apply calm_n rfl rfl rfl rfl
              intro K hK
              go_simp
              apply hK
              clear hK K)
            apply calm_fp (PVn es.length VR) rfl
            case h1 =>
              intro w1 hw1 hF K1 hK1
              go_simp
              go_at_call 33
              refine (cv w1 (Gz.trans hw1)).mono ?_
              rintro en w' ⟨B, cap, rfl, ho, hg'⟩
              exact ⟨_, rfl, hK1 _ _ hg' ⟨B, cap, rfl, own_vsn Lv.out ho⟩⟩
            intro v39 K1 hK1
            go_simp
            apply hK1
            clear hK1 K1
            repeat (
              first
                | (apply calm_p rfl; case h1 => (intro w1 hw1 hF K hK; obtain ⟨bz, fz⟩ := (BZ.out.grow hw1).rules; go_simp; first | exact hK _ (Grow.refl _) | fail))
                | (apply calm_y rfl rfl rfl; case h1 => (intro w1 hw1 hF K hK; obtain ⟨bz, fz⟩ := (BZ.out.grow hw1).rules; go_simp; first | exact hK _ (Grow.refl _) | fail))
                | apply calm_n rfl rfl rfl rfl
              intro K hK
              go_simp
              apply hK
              clear hK K)
            apply calm_fp (fun v W => PutSb w3 W v (((xs.take k).map (fun y : I => (es.map (ofE y.row), y.w))) ++ [(VR, y.w)])) rfl
            case h1 =>
              intro w1 hw1 hF K1 hK1
              obtain ⟨B, cap, hv, h1⟩ := hF _ (List.mem_cons_self ..) ⟨_, rfl, by decide⟩
              subst hv
              go_simp
              go_at_call 29
              have cpt := put_stepb (PZ.out.more hw1) VR B cap y.w h1 (by rw [Lv.out]; omega) Vy.out (by omega) (by omega)
              rw [Lv.out] at cpt
              refine cpt.mono ?_
              rintro en w' ⟨v5, rfl, hp5, hg'⟩
              exact ⟨_, rfl, hK1 _ _ hg' hp5⟩
            intro v42 K1 hK1
            go_simp
            apply hK1
            clear hK1 K1
            apply calm_fp (fun v W => PutSb w3 W v (((xs.take k).map (fun y : I => (es.map (ofE y.row), y.w))) ++ [(VR, y.w)])) rfl
            case h1 =>
              intro w1 hw1 hF K1 hK1
              have h1 := hF _ (List.mem_cons_self ..) ⟨_, rfl, by decide⟩
              go_simp
              exact hK1 _ _ (Grow.refl _) h1
            intro v11 K1 hK1
            go_simp
            apply hK1
            clear hK1 K1
            refine calm_nil ?_
            intro w1 hw1 hF
            apply hQ0
            clear hQ0
            simp only [List.drop_succ_cons, List.drop_zero]
            have P5 := Lib.hid (hF _ (List.mem_cons_self ..))
            clear hF
            go_wp2
            go_roundw
            case rel => exact ⟨k + 1, by omega, by go_num, by rw [Fl.out]; exact P5.out⟩
            case measure => simp [intOf]; omega
          case hp' => exact ⟨fun v w w' hg ⟨B, c, e, h⟩ => ⟨B, c, e, h.grow hg⟩, fun v w w' hg h => h.more hg, fun v w w' hg h => h.more hg, trivial⟩
        · obtain rfl : k = xs.length := by omega
          have P1 := P.out
          rw [List.take_length] at P1
          obtain ⟨⟨B, ys, cap, e9, hz, hm, hk2⟩, hg', _⟩ := P1
          simp only [Value.slice.injEq] at e9
          obtain ⟨rfl, rfl, rfl⟩ := e9
          have ly9 : ys.length ≤ 9223372036854775807 := by
            have h1 := congrArg List.length hm
            have h2 := setZ_len (xs.map (fun y : I => (es.map (ofE y.row), y.w)))
            simp at h1 h2; omega
          have cf := rfit_any ys Bt ct wr ly9 hz hk2
          rw [hm, show setZ (xs.map (fun y : I => (es.map (ofE y.row), y.w))) = setZ ((xs.map zOf).map (fun r => (es.map (ofE r.1), r.2))) from by rw [List.map_map]; rfl, ← EQ.out] at cf
          clear hz hm hk2
          go_wp2_with (go_at_call 34; ((with_reducible refine cf.mono ?_); rintro en w5 ⟨C, zs, cap2, rfl, hz3, hm3, hk3, hg5⟩; have Out := Lib.hid (And.intro hz3 (And.intro hm3 hk3)); clear hz3 hm3 hk3))
          refine bodyPost_ret (by simp [results, Tryz.results10, go_sem] <;> rfl) rfl ?_
          exact ⟨C, zs, cap2, rfl, Out.out.1, Out.out.2.1, Out.out.2.2, G3.trans (hg.trans hg5)⟩
    · have d1 : (IE != 0) = true := by simpa using h1
      have eQ : Q = ([], IE) := by rw [Fin.out, if_neg (by simpa using h0), if_pos h1]
      subst h0
      go_wp2_with (first
        | (go_at_call 32; ((with_reducible refine ct.mono ?_); rintro e w2 ⟨BT, capT, rfl, _, _, hg2⟩))
        | (go_at_call 27; ((with_reducible refine (ci _ hg2).mono ?_); rintro e w3 ⟨rfl, hg3⟩)))
      refine bodyPost_ret (by simp [results, Tryz.results10, go_sem] <;> rfl) rfl ?_
      exact ⟨none, [], 0, by rw [eQ]; rfl, zin_nil _ _, by rw [eQ]; rfl, SlOk.nil, hg2.trans hg3⟩
  · have d0 : (TE != 0) = true := by simpa using h0
    have eQ : Q = ([], TE) := by rw [Fin.out, if_pos h0]
    go_wp2_with (go_at_call 32; ((with_reducible refine ct.mono ?_); rintro e w2 ⟨BT, capT, rfl, _, _, hg2⟩))
    refine bodyPost_ret (by simp [results, Tryz.results10, go_sem] <;> rfl) rfl ?_
    exact ⟨none, [], 0, by rw [eQ]; rfl, zin_nil _ _, by rw [eQ]; rfl, SlOk.nil, hg2⟩
end Go.Proofs.YtpdimihojeonhaaGreat
