/-
  Joined texts of this claim: Zs22, R4c. What each proves its own head says; no condition beside those that each theorem names.
-/
import Derived.Test.YtpdimihojeonhaaGreatGJ
import Derived.Test.YtpdimihojeonhaaGreatGZ
import Derived.Test.YtpdimihojeonhaaGreatGV
/-
  The reference's Put, again and again, with greater weights.
-/
namespace Go.Proofs.YtpdimihojeonhaaGreat
open Go.RowKit Go.Calm
set_option linter.unusedSimpArgs false
set_option linter.unusedVariables false

/-- rows that may be put into a set, of greater weights -/
def PlB (l : List Z) : Prop := (∀ x ∈ l, x.1.length ≤ 1000 ∧ ∀ v ∈ x.1, RV v) ∧ bdZ 1000000000000 l
theorem PlB.snoc {l : List Z} {x : Z} (h : PlB l) (h1 : x.1.length ≤ 1000) (h2 : ∀ v ∈ x.1, RV v) (h3 : -1000000000000 ≤ x.2 ∧ x.2 ≤ 1000000000000) : PlB (l ++ [x]) := by
  refine ⟨fun y hy => ?_, fun y hy => ?_⟩
  · rcases List.mem_append.1 hy with hy | hy
    · exact h.1 y hy
    · simp at hy; subst hy; exact ⟨h1, h2⟩
  · rcases List.mem_append.1 hy with hy | hy
    · exact h.2 y hy
    · simp at hy; subst hy; exact h3
theorem PlB.nil : PlB [] := ⟨fun x hx => by simp at hx, fun x hx => by simp at hx⟩
/-- a set being made, in a slice -/
structure PutSb (w wr : World) (t : Value) (l : List Z) : Prop where
  sl : ∃ (B : Option Addr) (ys : List I) (cap : Nat), t = .slice B ys.length cap ∧ ZIn wr B ys ∧ ys.map zOf = setZ l ∧ SlOk B ys.length cap
  grow : Grow w wr
  pl : PlB l
theorem PutSb.nil (w wr : World) (hg : Grow w wr) : PutSb w wr (.slice none 0 0) [] := ⟨⟨none, [], 0, rfl, zin_nil _ _, rfl, SlOk.nil⟩, hg, PlB.nil⟩
theorem PutSb.more {w wr wq : World} {t : Value} {l : List Z} (h : PutSb w wr t l) (hg : Grow wr wq) : PutSb w wq t l := by
  obtain ⟨⟨B, ys, cap, h1, h2, h3, h4⟩, h5, h6⟩ := h
  exact ⟨⟨B, ys, cap, h1, h2.grow hg, h3, h4⟩, h5.trans hg, h6⟩
theorem PutSb.slice {w wr : World} {t : Value} {l : List Z} (h : PutSb w wr t l) : ∃ (B : Option Addr) (n cap : Nat), t = .slice B n cap := by
  obtain ⟨⟨B, ys, cap, h1, _⟩, _⟩ := h
  exact ⟨B, _, cap, h1⟩
theorem put_stepb {w wr : World} {t : Value} {l : List Z} (h : PutSb w wr t l) (row : List V) (Ar : Option Addr) (cr : Nat) (n : Int) (hx : VSl wr Ar row) (hl : row.length ≤ 1000) (hr : ∀ v ∈ row, RV v) (hn : -1000000000000 ≤ n ∧ n ≤ 1000000000000) (hlen : l.length ≤ 200000) :
    Calls Tryz.prog 29 #[t, .slice Ar row.length cr, .int .i64 n] wr fun en w' => ∃ v, en = .returned v ∧ PutSb w w' v (l ++ [(row, n)]) ∧ Grow wr w' := by
  obtain ⟨⟨B, ys, cap, rfl, hz, hm, hk⟩, hg, hp⟩ := h
  have hlen2 : ys.length ≤ 200000 := by
    have h1 := congrArg List.length hm
    have h2 := setZ_len l
    simp at h1
    omega
  have hrow : ∀ x ∈ ys, x.row.length ≤ 1000 := fun x hx => by
    have h1 : zOf x ∈ setZ l := by rw [← hm]; exact List.mem_map_of_mem hx
    obtain ⟨u, hu, e⟩ := setZ_mem h1
    have := (hp.1 u hu).1
    have e2 : x.row = bareR u.1 := e
    rw [e2]
    simpa [bareR] using this
  have hw : ∀ x ∈ ys, -2000000000000000000 ≤ x.w ∧ x.w ≤ 2000000000000000000 := fun x hx => by
    have h1 : zOf x ∈ setZ l := by rw [← hm]; exact List.mem_map_of_mem hx
    have h2 := setZ_bd (by omega) hp.2 _ h1
    simp only [zOf] at h2
    omega
  refine (put_any ys B cap row Ar cr n wr hlen2 hk hz hrow hw hl hr hx (by omega)).mono ?_
  rintro en w' ⟨C, zs, cap2, rfl, hz2, hm2, hk2, hg2⟩
  exact ⟨_, rfl, ⟨⟨C, zs, cap2, rfl, hz2, by rw [hm2, hm, setZ_snoc], hk2⟩, hg.trans hg2, hp.snoc hl hr hn⟩, hg2⟩
end Go.Proofs.YtpdimihojeonhaaGreat

/-
  The reference's Pairs.
-/
namespace Go.Proofs.YtpdimihojeonhaaGreat
open Go.RowKit Go.Calm
set_option linter.unusedSimpArgs false
set_option linter.unusedVariables false

/-- what the reference puts for a left row -/
def rowL (what : Nat) (x : E) (n : Nat) (b : List Z) (p : Z) : List Z := match what with
  | 0 => pairsL x p b
  | 1 => if metR x b p.1 then [p] else []
  | 2 => if metR x b p.1 then [] else [p]
  | _ => pairsL x p b ++ if metR x b p.1 then [] else [padZ n p]
theorem flatMap_at {f : Z → List Z} {xs : List I} {k : Nat} {y : I} (h : xs[k]? = some y) : ((xs.take (k + 1)).map zOf).flatMap f = ((xs.take k).map zOf).flatMap f ++ f (zOf y) := by
  rw [take_sn zOf h, List.flatMap_append]
  simp
theorem rowL_len (what : Nat) (x : E) (n : Nat) (b : List Z) (p : Z) : (rowL what x n b p).length ≤ b.length + 1 := by
  have h : (pairsL x p b).length ≤ b.length := by unfold pairsL; rw [List.length_map]; exact List.length_filter_le _ _
  unfold rowL
  split
  · omega
  · split <;> simp
  · split <;> simp
  · rw [List.length_append]; split <;> simp <;> omega
theorem rowsL_len (what : Nat) (x : E) (n : Nat) (b : List Z) : ∀ a : List Z, (a.flatMap (rowL what x n b)).length ≤ a.length * (b.length + 1)
  | [] => by simp
  | p :: a => by
    have := rowsL_len what x n b a
    have := rowL_len what x n b p
    rw [List.flatMap_cons, List.length_append, List.length_cons, Nat.succ_mul]
    omega
theorem pairs_snoc {x : E} {y : Z} {bs : List I} {k : Nat} {z : I} (h : bs[k]? = some z) : pairsL x y ((bs.take (k + 1)).map zOf) = pairsL x y ((bs.take k).map zOf) ++ if holdB x (y.1 ++ z.row) then [(y.1 ++ z.row, y.2 * z.w)] else [] := by
  rw [take_sn zOf h]
  unfold pairsL
  rw [List.filter_append, List.map_append]
  cases hh : holdB x (y.1 ++ z.row) <;> simp [zOf, hh]
def lenV : Value → Nat
  | .slice _ n _ => n
  | _ => 0
theorem flat_filter (p : Z → Bool) : ∀ l : List Z, l.flatMap (fun z => if p z then [z] else []) = l.filter p
  | [] => rfl
  | z :: l => by
    rw [List.flatMap_cons, flat_filter p l, List.filter_cons]
    cases p z <;> simp
theorem rows0 (x : E) (n : Nat) (a b : List Z) : a.flatMap (rowL 0 x n b) = joinL x a b := rfl
theorem rows1 (x : E) (n : Nat) (a b : List Z) : a.flatMap (rowL 1 x n b) = a.filter (fun p => metB x b p == true) := by
  have := flat_filter (fun p => metB x b p == true) a
  rw [← this]
  congr 1
  funext p
  have e : metB x b p = metR x b p.1 := rfl
  unfold rowL
  simp only [e]
  cases metR x b p.1 <;> simp
theorem rows2 (x : E) (n : Nat) (a b : List Z) : a.flatMap (rowL 2 x n b) = a.filter (fun p => metB x b p == false) := by
  have := flat_filter (fun p => metB x b p == false) a
  rw [← this]
  congr 1
  funext p
  have e : metB x b p = metR x b p.1 := rfl
  unfold rowL
  simp only [e]
  cases metR x b p.1 <;> simp
theorem wt_rows3 (x : E) (n : Nat) (b : List Z) (u : List V) : ∀ a : List Z, wtZ (a.flatMap (rowL 3 x n b)) u = wtZ (outerL n x a b) u
  | [] => rfl
  | p :: a => by
    have ih := wt_rows3 x n b u a
    have e : metB x b p = metR x b p.1 := rfl
    unfold outerL joinL at ih ⊢
    rw [List.flatMap_cons, wtZ_append, ih, List.flatMap_cons, List.filter_cons, wtZ_append, wtZ_append, wtZ_append]
    have er : rowL 3 x n b p = pairsL x p b ++ if metR x b p.1 then [] else [padZ n p] := rfl
    rw [er, wtZ_append, e]
    cases metR x b p.1
    · simp only [beq_self_eq_true, if_true, List.map_cons, Bool.false_eq_true, if_false]
      rw [wtZ_cons, wtZ_cons, wtZ_nil]; omega
    · simp [wtZ_nil]; omega
theorem rows3_mem {x : E} {n : Nat} {a b : List Z} {y : Z} (h : y ∈ a.flatMap (rowL 3 x n b)) : y ∈ outerL n x a b := by
  obtain ⟨p, hp, h⟩ := List.mem_flatMap.1 h
  have e : metB x b p = metR x b p.1 := rfl
  unfold rowL at h
  unfold outerL
  rcases List.mem_append.1 h with h | h
  · exact List.mem_append_left _ (List.mem_flatMap.2 ⟨p, hp, h⟩)
  · split at h
    · simp at h
    · rename_i hn
      simp at h
      subst h
      exact List.mem_append_right _ (List.mem_map_of_mem (List.mem_filter.2 ⟨hp, by rw [e]; simpa using hn⟩))
theorem rows3 {l r : List Int} {x : E} {a b : List Z} (h : twoE l r x a b = 0) : setZ (a.flatMap (rowL 3 x r.length b)) = setZ (outerL r.length x a b) := by
  have ok := outer_okR h
  have s1 := setZ_spec (outerL r.length x a b) (fun y hy => (ok y hy).2)
  refine (setZ_of (fun y hy => (ok y (rows3_mem hy)).2) s1.1 (fun q => ?_)).symm
  rw [s1.2, wt_rows3]
set_option maxRecDepth 100000 in
set_option maxHeartbeats 8000000 in
theorem rpairs0 (l r : L2 Int) (x : E) (a b : S) (w : World) (hll : l.xs.length ≤ 140737488355328) (hlr : r.xs.length ≤ 140737488355328) (hl : ISl w l.A l.xs) (hr : ISl w r.A r.xs) (hE : EX w x) (ha : In w a) (hb : In w b) :
    Calls Tryz.prog 17 #[.int .i64 0, .slice l.A l.xs.length l.cap, .slice r.A r.xs.length r.cap, x.val, .slice a.A a.xs.length a.cap, .slice b.A b.xs.length b.cap] w fun en w' => Gives w w' en (joinZ l.xs r.xs x a.z b.z) := by
  obtain ⟨Aa, as1, ca⟩ := a
  obtain ⟨Ab, bs1, cb⟩ := b
  have HX := Lib.hid hE
  have Ha := Lib.hid ha
  have Hb := Lib.hid hb
  have ct := fun W (hg : Grow w W) => rtwo_any l r x ⟨Aa, as1, ca⟩ ⟨Ab, bs1, cb⟩ W hll hlr (hl.grow hg) (hr.grow hg) (hE.grow hg) (ha.grow hg) (hb.grow hg)
  obtain ⟨bz, hbz⟩ : ∃ z, S.z ⟨Ab, bs1, cb⟩ = z := ⟨_, rfl⟩
  obtain ⟨az, haz⟩ : ∃ z, S.z ⟨Aa, as1, ca⟩ = z := ⟨_, rfl⟩
  obtain ⟨E2, hE2⟩ : ∃ e, twoE l.xs r.xs x az bz = e := ⟨_, rfl⟩
  rw [haz, hbz, hE2] at ct
  obtain ⟨Q, hQ⟩ : ∃ Q, joinZ l.xs r.xs x az bz = Q := ⟨_, rfl⟩
  rw [haz, hbz, hQ]
  have fin : Q = if E2 ≠ 0 then ([], E2) else fitZ (setZ (az.flatMap (rowL 0 x r.xs.length bz))) := by
    rw [← hQ]; unfold joinZ; rw [hE2]
    by_cases h0 : E2 = 0
    · rw [if_neg (by simpa using h0), if_neg (by simpa using h0)]; rfl
    · rw [if_pos h0, if_pos h0]
  have Fin := Lib.hid fin
  have H2 := Lib.hid hE2
  have HA := Lib.hid haz
  have HB := Lib.hid hbz
  clear hl hr hE ha hb hE2 hQ fin haz hbz
  unfold E.val at *
  go_enter Tryz.func17, Tryz.ntmps17
  go_upto_region 1 with fail
  refine wp_forget (fun X => Blk X w.heap.size 27 (exC x) ∧ Grow w X) ⟨Blk.new _ _ _, (Grow.refl _).al _⟩ ?_
  generalize w.heap.size = g1
  rintro X ⟨Bx, G⟩
  obtain ⟨bx, fx⟩ := Bx.rules
  by_cases h0 : E2 = 0
  · subst h0
    have eQ : Q = fitZ (setZ (az.flatMap (rowL 0 x r.xs.length bz))) := by rw [Fin.out]; simp
    have EQ := Lib.hid eQ
    clear eQ
    go_upto_region 4 with (go_at_call 45; ((with_reducible refine (ct _ G).mono ?_); rintro e w2 ⟨rfl, hg2⟩))
    have G2 := G.trans hg2
    have ok := two_ok (l := l.xs) (r := r.xs) (x := x) (a := ⟨Aa, as1, ca⟩) (b := ⟨Ab, bs1, cb⟩) (by rw [HA.out, HB.out]; exact H2.out)
    obtain ⟨h8, hcond, hia, hib⟩ := twoE_zero H2.out
    obtain ⟨T, hok⟩ := okay_of (condE_zero hcond).1
    have ft := Lib.hid hok.ty
    have fa := Lib.hid (show ∀ y ∈ as1, FitR l.xs y.row from fun y hy => (fits_iff _ _).1 ((inputE_zero hia).2.2 (zOf y) (by rw [← HA.out]; exact List.mem_map_of_mem hy)))
    have fb := Lib.hid (show ∀ y ∈ bs1, FitR r.xs y.row from fun y hy => (fits_iff _ _).1 ((inputE_zero hib).2.2 (zOf y) (by rw [← HB.out]; exact List.mem_map_of_mem hy)))
    have la : as1.length ≤ 400 := ok.la
    have lb : bs1.length ≤ 400 := ok.lb
    have Ok := Lib.hid ok
    have B2 := Lib.hid (Bx.grow hg2)
    have lbz : bz.length = bs1.length := by rw [← HB.out]; simp [S.z]
    clear ct bx fx ok hcond hia hib hok Bx
    go_wp2
    go_loopw [15, 34] (fun t i wr => ∃ k : Nat, k ≤ as1.length ∧ i = .int .i64 k ∧ PutSb w2 wr t (((as1.take k).map zOf).flatMap (rowL 0 x r.xs.length bz))) (fun _ i _ => as1.length - (intOf i).toNat)
    case atStart => exact ⟨0, Nat.zero_le _, rfl, PutSb.nil _ _ (Grow.refl _)⟩
    case round =>
      rename World => wr
      obtain ⟨k, hk, rfl, hp⟩ := hrel
      obtain ⟨Bt, nt, ct, rfl⟩ := hp.slice
      have P := Lib.hid hp
      have hg := hp.grow
      clear hp
      by_cases hlt : k < as1.length
      · obtain ⟨y, hyk⟩ : ∃ y, as1[k]? = some y := ⟨_, List.getElem?_eq_getElem hlt⟩
        obtain ⟨gx2, ox2, rfl, c1, c2, hyv⟩ := (Ha.out.z.grow (G2.trans hg)) k y hyk
        have hm := List.mem_of_getElem? hyk
        have ly := Ok.out.ra y hm
        have fy := Lib.hid (fa.out y hm)
        have wy := Ok.out.wa y hm
        have vy := Lib.hid (Ok.out.va y hm)
        have Fl := Lib.hid (flatMap_at (f := rowL 0 x r.xs.length bz) hyk)
        have HV := Lib.hid hyv
        have re := Lib.hid (Ok.out.re y hm)
        have lpz : (pairsL x (zOf y) bz).length ≤ 400 := by unfold pairsL; rw [List.length_map]; have := List.length_filter_le (fun r => holdB x ((zOf y).1 ++ r.1)) bz; omega
        obtain ⟨LK, hLK⟩ : ∃ L, ((as1.take k).map zOf).flatMap (rowL 0 x r.xs.length bz) = L := ⟨_, rfl⟩
        have lk : LK.length ≤ 160400 := by
          rw [← hLK]
          have h1 := rowsL_len 0 x r.xs.length bz ((as1.take k).map zOf)
          have h2 : ((as1.take k).map zOf).length ≤ 400 := by simp; omega
          have h3 := Nat.mul_le_mul h2 (show bz.length + 1 ≤ 401 by omega)
          omega
        have P1 := P.out
        have Fl1 := Fl.out
        rw [hLK] at P1 Fl1
        have P2 := Lib.hid P1
        have Fl2 := Lib.hid Fl1
        clear P Fl P1 Fl1 hLK hyk hm hyv
        go_upto_region 8 with fail
        refine wp_forget (fun Z => Blk Z wr.heap.size 48 #[.slice y.A y.row.length y.cap, .int .i64 y.w] ∧ Grow wr Z) ⟨Blk.new _ _ _, (Grow.refl wr).al _⟩ ?_
        rintro Z ⟨Bz, Gz⟩
        have BY := Lib.hid Bz
        have BX := Lib.hid (B2.out.grow (hg.trans Gz))
        have PZ := Lib.hid (P2.out.more Gz)
        have VZ := Lib.hid (HV.out.grow Gz)
        have GZ := G2.trans (hg.trans Gz)
        clear Bz c1 c2 P2 HV
        generalize wr.heap.size = gp at *
        go_wp2
        go_loopw [15, 46] (fun t i W => ∃ k2 : Nat, k2 ≤ bs1.length ∧ i = .int .i64 k2 ∧ PutSb w2 W t (LK ++ pairsL x (zOf y) ((bs1.take k2).map zOf)) ∧ Grow Z W) (fun _ i _ => bs1.length - (intOf i).toNat)
        case atStart => exact ⟨0, Nat.zero_le _, rfl, by simpa [pairsL] using PZ.out, Grow.refl _⟩
        case round =>
          rename World => W1
          obtain ⟨k2, hk2, rfl, hp2, gW⟩ := hrel
          obtain ⟨Bs, ns, cs, rfl⟩ := hp2.slice
          have PW := Lib.hid hp2
          have lp : (pairsL x (zOf y) ((bs1.take k2).map zOf)).length ≤ 400 := by unfold pairsL; rw [List.length_map]; have := List.length_filter_le (fun r => holdB x ((zOf y).1 ++ r.1)) ((bs1.take k2).map zOf); rw [List.length_map, List.length_take] at this; omega
          clear hp2
          by_cases hlt2 : k2 < bs1.length
          · obtain ⟨z, hzk⟩ : ∃ z, bs1[k2]? = some z := ⟨_, List.getElem?_eq_getElem hlt2⟩
            obtain ⟨gx3, ox3, rfl, c3, c4, hzv⟩ := (Hb.out.z.grow (GZ.trans gW)) k2 z hzk
            have hm := List.mem_of_getElem? hzk
            have rz := re.out z hm
            have wz := Ok.out.wb z hm
            have fz := fitR_app fy.out (fb.out z hm)
            have sn := Lib.hid (pairs_snoc (x := x) (y := zOf y) hzk)
            have hmul : -1000000000000 ≤ y.w * z.w ∧ y.w * z.w ≤ 1000000000000 := by
              obtain ⟨h1, h2⟩ := wy
              obtain ⟨h3, h4⟩ := wz
              have ha : (y.w).natAbs ≤ 1000000 := by omega
              have hb : (z.w).natAbs ≤ 1000000 := by omega
              have : (y.w * z.w).natAbs ≤ 1000000 * 1000000 := by rw [Int.natAbs_mul]; exact Nat.mul_le_mul ha hb
              omega
            have hwp : IntKind.i64.wrap (y.w * z.w) = y.w * z.w := by rw [IntKind.wrap_i64]; omega
            have cb4 := fun W (h : Grow W1 W) => both4_any y.row z.row y.A z.A y.cap z.cap W (by have := rz.2.2; simp at this; omega) (VZ.out.grow (gW.trans h)) (hzv.grow h)
            obtain ⟨R, hR⟩ : ∃ R, y.row ++ z.row = R := ⟨_, rfl⟩
            rw [hR] at cb4 fz rz
            obtain ⟨rz1, rz2, rz3⟩ := rz
            have ch := fun B cap W (h : Grow W1 W) (hv : VSl W B R) => rholds_any (l.xs ++ r.xs) R B cap x T W (by omega) fz ft.out (HX.out.grow (GZ.trans (gW.trans h))) hv
            obtain ⟨hit, hh⟩ : ∃ t, holdB x R = t := ⟨_, rfl⟩
            rw [hh] at ch
            have HH := Lib.hid (And.intro hR hh)
            have RV2 := Lib.hid rz2
            obtain ⟨m, hm2⟩ : ∃ m, y.w * z.w = m := ⟨_, rfl⟩
            have HM := Lib.hid hm2
            have mul : IntKind.i64.wrap (y.w * z.w) = m := by rw [hwp, hm2]
            have hmb : -1000000000000 ≤ m ∧ m ≤ 1000000000000 := by rw [← hm2]; exact hmul
            unfold E.val at ch
            clear hR hh hzk hm hm2 hwp hmul rz1 rz2 fz
            have HZv := Lib.hid hzv
            clear hzv
            go_upto_region 12 with fail
            refine wp_forget (fun Z2 => Blk Z2 W1.heap.size 48 #[.slice z.A z.row.length z.cap, .int .i64 z.w] ∧ Grow W1 Z2) ⟨Blk.new _ _ _, (Grow.refl W1).al _⟩ ?_
            rintro Z2 ⟨Bz2, Gz2⟩
            have BQ := Lib.hid Bz2
            obtain ⟨b4, f4⟩ := Bz2.rules
            obtain ⟨b3, f3⟩ := (BY.out.grow (gW.trans Gz2)).rules
            clear c3 c4
            generalize W1.heap.size = gq at *
            go_upto_region 13 with (go_at_call 46; (with_reducible refine (cb4 _ Gz2).mono ?_); rintro e w3 ⟨B, cap, rfl, own3, hg3⟩)
            have hv3 := own_vs own3
            have HV3 := Lib.hid hv3
            clear own3 cb4 b4 f4 b3 f3 hv3
            obtain ⟨bx, fx⟩ := (BX.out.grow (gW.trans (Gz2.trans hg3))).rules
            cases hit with
            | false =>
              go_wp2_with (go_at_call 28; ((with_reducible refine (ch _ _ _ (Gz2.trans hg3) HV3.out).mono ?_); rintro e w4 ⟨rfl, hg4⟩))
              have GG := Gz2.trans (hg3.trans hg4)
              have PW4 := Lib.hid (PW.out.more GG)
              go_roundw
              case rel => exact ⟨k2 + 1, by omega, by go_num, by rw [sn.out, show (zOf y).1 ++ z.row = R from HH.out.1, HH.out.2]; simpa using PW4.out, gW.trans GG⟩
              case measure => simp [intOf]; omega
            | true =>
              go_upto_region 14 with (go_at_call 28; ((with_reducible refine (ch _ _ _ (Gz2.trans hg3) HV3.out).mono ?_); rintro e w4 ⟨rfl, hg4⟩))
              have GG := Gz2.trans (hg3.trans hg4)
              have PW4 := Lib.hid (PW.out.more GG)
              have HV4 := Lib.hid (HV3.out.grow hg4)
              clear bx fx ch
              have cpt := put_stepb PW4.out R B cap m HV4.out (by omega) RV2.out hmb (by rw [List.length_append]; omega)
              obtain ⟨b4, f4⟩ := (BQ.out.grow (hg3.trans hg4)).rules
              obtain ⟨b3, f3⟩ := (BY.out.grow (gW.trans GG)).rules
              go_wp2_with (go_at_call 29; ((with_reducible refine cpt.mono ?_); rintro e w5 ⟨v5, rfl, hp5, hg5⟩; have P5 := Lib.hid hp5; clear hp5))
              go_roundw
              case rel => exact ⟨k2 + 1, by omega, by go_num, by rw [sn.out, show (zOf y).1 ++ z.row = R from HH.out.1, HH.out.2, if_pos rfl, show (zOf y).2 * z.w = m from HM.out, ← List.append_assoc]; exact P5.out, gW.trans (GG.trans hg5)⟩
              case measure => simp [intOf]; omega
          · obtain rfl : k2 = bs1.length := by omega
            have PW2 := PW.out
            rw [List.take_length, show bs1.map zOf = bz from HB.out] at PW2
            have PE := Lib.hid PW2
            clear PW2 PW lp
            have cpn := partner_any (l.xs ++ r.xs) x T y.row y.A y.cap ⟨Ab, bs1, cb⟩ W1 lb (fun z hz => fitR_app fy.out (fb.out z hz)) ft.out (fun z hz => (re.out z hz).2.2) (HX.out.grow (GZ.trans gW)) (VZ.out.grow gW) (Hb.out.z.grow (GZ.trans gW))
            rw [show S.z ⟨Ab, bs1, cb⟩ = bz from HB.out] at cpn
            obtain ⟨has, hhas⟩ : ∃ t, metR x bz y.row = t := ⟨_, rfl⟩
            rw [hhas] at cpn
            have HAS := Lib.hid (show metR x bz (zOf y).1 = has from hhas)
            unfold E.val at cpn
            clear hhas
            obtain ⟨b3, f3⟩ := (BY.out.grow gW).rules
            obtain ⟨bx, fx⟩ := (BX.out.grow gW).rules
            go_upto_region 17 with (go_at_call 47; ((with_reducible refine cpn.mono ?_); rintro e w6 ⟨rfl, hg6⟩))
            have P6 := Lib.hid (PE.out.more hg6)
            have G6 := gW.trans hg6
            clear b3 f3 bx fx cpn PE
            cases has with
            | false =>
              go_wp2
              go_roundw
              case rel => exact ⟨k + 1, by omega, by go_num, by rw [Fl2.out]; unfold rowL; simpa using P6.out⟩
              case measure => simp [intOf]; omega
            | true =>
              go_wp2
              go_roundw
              case rel => exact ⟨k + 1, by omega, by go_num, by rw [Fl2.out]; unfold rowL; simpa using P6.out⟩
              case measure => simp [intOf]; omega
      · obtain rfl : k = as1.length := by omega
        have P1 := P.out
        rw [List.take_length, show as1.map zOf = az from HA.out] at P1
        obtain ⟨⟨B, ys, cap, e9, hz, hm, hk2⟩, hg', _⟩ := P1
        have ly9 : ys.length ≤ 9223372036854775807 := by
          have h1 := congrArg List.length hm
          have h2 := setZ_len (az.flatMap (rowL 0 x r.xs.length bz))
          have h3 := rowsL_len 0 x r.xs.length bz az
          have h4 : az.length = as1.length := by rw [← HA.out]; simp [S.z]
          have h5 := Nat.mul_le_mul (show az.length ≤ 400 by omega) (show bz.length + 1 ≤ 401 by omega)
          simp at h1
          omega
        have cf := rfit_any ys B cap wr ly9 hz hk2
        rw [hm, ← EQ.out] at cf
        simp only [Value.slice.injEq] at e9
        obtain ⟨rfl, rfl, rfl⟩ := e9
        clear hz hm hk2
        go_wp2_with (go_at_call 34; ((with_reducible refine cf.mono ?_); rintro en w5 ⟨C, zs, cap2, rfl, hz3, hm3, hk3, hg5⟩; have Out := Lib.hid (And.intro hz3 (And.intro hm3 hk3)); clear hz3 hm3 hk3))
        refine bodyPost_ret (by simp [results, Tryz.results17, go_sem] <;> rfl) rfl ?_
        exact ⟨C, zs, cap2, rfl, Out.out.1, Out.out.2.1, Out.out.2.2, G2.trans (hg.trans hg5)⟩
  · have d0 : (E2 != 0) = true := by simpa using h0
    have eQ : Q = ([], E2) := by rw [Fin.out, if_pos h0]
    go_wp2_with (go_at_call 45; ((with_reducible refine (ct _ G).mono ?_); rintro e w2 ⟨rfl, hg2⟩))
    refine bodyPost_ret (by simp [results, Tryz.results17, go_sem] <;> rfl) rfl ?_
    exact ⟨none, [], 0, by rw [eQ]; rfl, zin_nil _ _, by rw [eQ]; rfl, SlOk.nil, G.trans hg2⟩
set_option maxRecDepth 100000 in
set_option maxHeartbeats 8000000 in
theorem rpairs1 (l r : L2 Int) (x : E) (a b : S) (w : World) (hll : l.xs.length ≤ 140737488355328) (hlr : r.xs.length ≤ 140737488355328) (hl : ISl w l.A l.xs) (hr : ISl w r.A r.xs) (hE : EX w x) (ha : In w a) (hb : In w b) :
    Calls Tryz.prog 17 #[.int .i64 1, .slice l.A l.xs.length l.cap, .slice r.A r.xs.length r.cap, x.val, .slice a.A a.xs.length a.cap, .slice b.A b.xs.length b.cap] w fun en w' => Gives w w' en (partZ true l.xs r.xs x a.z b.z) := by
  obtain ⟨Aa, as1, ca⟩ := a
  obtain ⟨Ab, bs1, cb⟩ := b
  have HX := Lib.hid hE
  have Ha := Lib.hid ha
  have Hb := Lib.hid hb
  have ct := fun W (hg : Grow w W) => rtwo_any l r x ⟨Aa, as1, ca⟩ ⟨Ab, bs1, cb⟩ W hll hlr (hl.grow hg) (hr.grow hg) (hE.grow hg) (ha.grow hg) (hb.grow hg)
  obtain ⟨bz, hbz⟩ : ∃ z, S.z ⟨Ab, bs1, cb⟩ = z := ⟨_, rfl⟩
  obtain ⟨az, haz⟩ : ∃ z, S.z ⟨Aa, as1, ca⟩ = z := ⟨_, rfl⟩
  obtain ⟨E2, hE2⟩ : ∃ e, twoE l.xs r.xs x az bz = e := ⟨_, rfl⟩
  rw [haz, hbz, hE2] at ct
  obtain ⟨Q, hQ⟩ : ∃ Q, partZ true l.xs r.xs x az bz = Q := ⟨_, rfl⟩
  rw [haz, hbz, hQ]
  have fin : Q = if E2 ≠ 0 then ([], E2) else fitZ (setZ (az.flatMap (rowL 1 x r.xs.length bz))) := by
    rw [← hQ]; unfold partZ; rw [hE2]
    by_cases h0 : E2 = 0
    · rw [if_neg (by simpa using h0), if_neg (by simpa using h0)]; rw [rows1]; rfl
    · rw [if_pos h0, if_pos h0]
  have Fin := Lib.hid fin
  have H2 := Lib.hid hE2
  have HA := Lib.hid haz
  have HB := Lib.hid hbz
  clear hl hr hE ha hb hE2 hQ fin haz hbz
  unfold E.val at *
  go_enter Tryz.func17, Tryz.ntmps17
  go_upto_region 1 with fail
  refine wp_forget (fun X => Blk X w.heap.size 27 (exC x) ∧ Grow w X) ⟨Blk.new _ _ _, (Grow.refl _).al _⟩ ?_
  generalize w.heap.size = g1
  rintro X ⟨Bx, G⟩
  obtain ⟨bx, fx⟩ := Bx.rules
  by_cases h0 : E2 = 0
  · subst h0
    have eQ : Q = fitZ (setZ (az.flatMap (rowL 1 x r.xs.length bz))) := by rw [Fin.out]; simp
    have EQ := Lib.hid eQ
    clear eQ
    go_upto_region 4 with (go_at_call 45; ((with_reducible refine (ct _ G).mono ?_); rintro e w2 ⟨rfl, hg2⟩))
    have G2 := G.trans hg2
    have ok := two_ok (l := l.xs) (r := r.xs) (x := x) (a := ⟨Aa, as1, ca⟩) (b := ⟨Ab, bs1, cb⟩) (by rw [HA.out, HB.out]; exact H2.out)
    obtain ⟨h8, hcond, hia, hib⟩ := twoE_zero H2.out
    obtain ⟨T, hok⟩ := okay_of (condE_zero hcond).1
    have ft := Lib.hid hok.ty
    have fa := Lib.hid (show ∀ y ∈ as1, FitR l.xs y.row from fun y hy => (fits_iff _ _).1 ((inputE_zero hia).2.2 (zOf y) (by rw [← HA.out]; exact List.mem_map_of_mem hy)))
    have fb := Lib.hid (show ∀ y ∈ bs1, FitR r.xs y.row from fun y hy => (fits_iff _ _).1 ((inputE_zero hib).2.2 (zOf y) (by rw [← HB.out]; exact List.mem_map_of_mem hy)))
    have la : as1.length ≤ 400 := ok.la
    have lb : bs1.length ≤ 400 := ok.lb
    have Ok := Lib.hid ok
    have B2 := Lib.hid (Bx.grow hg2)
    have lbz : bz.length = bs1.length := by rw [← HB.out]; simp [S.z]
    clear ct bx fx ok hcond hia hib hok Bx
    go_wp2
    go_loopw [15, 34] (fun t i wr => ∃ k : Nat, k ≤ as1.length ∧ i = .int .i64 k ∧ PutSb w2 wr t (((as1.take k).map zOf).flatMap (rowL 1 x r.xs.length bz))) (fun _ i _ => as1.length - (intOf i).toNat)
    case atStart => exact ⟨0, Nat.zero_le _, rfl, PutSb.nil _ _ (Grow.refl _)⟩
    case round =>
      rename World => wr
      obtain ⟨k, hk, rfl, hp⟩ := hrel
      obtain ⟨Bt, nt, ct, rfl⟩ := hp.slice
      have P := Lib.hid hp
      have hg := hp.grow
      clear hp
      by_cases hlt : k < as1.length
      · obtain ⟨y, hyk⟩ : ∃ y, as1[k]? = some y := ⟨_, List.getElem?_eq_getElem hlt⟩
        obtain ⟨gx2, ox2, rfl, c1, c2, hyv⟩ := (Ha.out.z.grow (G2.trans hg)) k y hyk
        have hm := List.mem_of_getElem? hyk
        have ly := Ok.out.ra y hm
        have fy := Lib.hid (fa.out y hm)
        have wy := Ok.out.wa y hm
        have vy := Lib.hid (Ok.out.va y hm)
        have Fl := Lib.hid (flatMap_at (f := rowL 1 x r.xs.length bz) hyk)
        have HV := Lib.hid hyv
        have re := Lib.hid (Ok.out.re y hm)
        have lpz : (pairsL x (zOf y) bz).length ≤ 400 := by unfold pairsL; rw [List.length_map]; have := List.length_filter_le (fun r => holdB x ((zOf y).1 ++ r.1)) bz; omega
        obtain ⟨LK, hLK⟩ : ∃ L, ((as1.take k).map zOf).flatMap (rowL 1 x r.xs.length bz) = L := ⟨_, rfl⟩
        have lk : LK.length ≤ 160400 := by
          rw [← hLK]
          have h1 := rowsL_len 1 x r.xs.length bz ((as1.take k).map zOf)
          have h2 : ((as1.take k).map zOf).length ≤ 400 := by simp; omega
          have h3 := Nat.mul_le_mul h2 (show bz.length + 1 ≤ 401 by omega)
          omega
        have P1 := P.out
        have Fl1 := Fl.out
        rw [hLK] at P1 Fl1
        have P2 := Lib.hid P1
        have Fl2 := Lib.hid Fl1
        clear P Fl P1 Fl1 hLK hyk hm hyv
        go_upto_region 8 with fail
        refine wp_forget (fun Z => Blk Z wr.heap.size 48 #[.slice y.A y.row.length y.cap, .int .i64 y.w] ∧ Grow wr Z) ⟨Blk.new _ _ _, (Grow.refl wr).al _⟩ ?_
        rintro Z ⟨Bz, Gz⟩
        have BY := Lib.hid Bz
        have BX := Lib.hid (B2.out.grow (hg.trans Gz))
        have PZ := Lib.hid (P2.out.more Gz)
        have VZ := Lib.hid (HV.out.grow Gz)
        have GZ := G2.trans (hg.trans Gz)
        clear Bz c1 c2 P2 HV
        generalize wr.heap.size = gp at *
        have gW := Grow.refl Z
        have PE := Lib.hid PZ.out
        have lp : (0 : Nat) ≤ 400 := by omega
        have cpn := partner_any (l.xs ++ r.xs) x T y.row y.A y.cap ⟨Ab, bs1, cb⟩ Z lb (fun z hz => fitR_app fy.out (fb.out z hz)) ft.out (fun z hz => (re.out z hz).2.2) (HX.out.grow (GZ.trans gW)) (VZ.out.grow gW) (Hb.out.z.grow (GZ.trans gW))
        rw [show S.z ⟨Ab, bs1, cb⟩ = bz from HB.out] at cpn
        obtain ⟨has, hhas⟩ : ∃ t, metR x bz y.row = t := ⟨_, rfl⟩
        rw [hhas] at cpn
        have HAS := Lib.hid (show metR x bz (zOf y).1 = has from hhas)
        unfold E.val at cpn
        clear hhas
        obtain ⟨b3, f3⟩ := (BY.out.grow gW).rules
        obtain ⟨bx, fx⟩ := (BX.out.grow gW).rules
        go_upto_region 17 with (go_at_call 47; ((with_reducible refine cpn.mono ?_); rintro e w6 ⟨rfl, hg6⟩))
        have P6 := Lib.hid (PE.out.more hg6)
        have G6 := gW.trans hg6
        clear b3 f3 bx fx cpn PE
        cases has with
        | false =>
          go_wp2
          go_roundw
          case rel => exact ⟨k + 1, by omega, by go_num, by rw [Fl2.out]; unfold rowL; rw [HAS.out]; simpa using P6.out⟩
          case measure => simp [intOf]; omega
        | true =>
          have cpt := put_stepb P6.out y.row y.A y.cap y.w (VZ.out.grow G6) (by omega) vy.out (by omega) (by omega)
          obtain ⟨b3, f3⟩ := (BY.out.grow G6).rules
          go_wp2_with (go_at_call 29; ((with_reducible refine cpt.mono ?_); rintro e w7 ⟨v7, rfl, hp7, hg7⟩; have P7 := Lib.hid hp7; obtain ⟨Bv, nv, cv, rfl⟩ := hp7.slice; clear hp7))
          go_roundw
          case rel => exact ⟨k + 1, by omega, by go_num, by rw [Fl2.out]; unfold rowL; rw [HAS.out]; have h := P7.out; simpa [zOf] using h⟩
          case measure => simp [intOf]; omega
      · obtain rfl : k = as1.length := by omega
        have P1 := P.out
        rw [List.take_length, show as1.map zOf = az from HA.out] at P1
        obtain ⟨⟨B, ys, cap, e9, hz, hm, hk2⟩, hg', _⟩ := P1
        have ly9 : ys.length ≤ 9223372036854775807 := by
          have h1 := congrArg List.length hm
          have h2 := setZ_len (az.flatMap (rowL 1 x r.xs.length bz))
          have h3 := rowsL_len 1 x r.xs.length bz az
          have h4 : az.length = as1.length := by rw [← HA.out]; simp [S.z]
          have h5 := Nat.mul_le_mul (show az.length ≤ 400 by omega) (show bz.length + 1 ≤ 401 by omega)
          simp at h1
          omega
        have cf := rfit_any ys B cap wr ly9 hz hk2
        rw [hm, ← EQ.out] at cf
        simp only [Value.slice.injEq] at e9
        obtain ⟨rfl, rfl, rfl⟩ := e9
        clear hz hm hk2
        go_wp2_with (go_at_call 34; ((with_reducible refine cf.mono ?_); rintro en w5 ⟨C, zs, cap2, rfl, hz3, hm3, hk3, hg5⟩; have Out := Lib.hid (And.intro hz3 (And.intro hm3 hk3)); clear hz3 hm3 hk3))
        refine bodyPost_ret (by simp [results, Tryz.results17, go_sem] <;> rfl) rfl ?_
        exact ⟨C, zs, cap2, rfl, Out.out.1, Out.out.2.1, Out.out.2.2, G2.trans (hg.trans hg5)⟩
  · have d0 : (E2 != 0) = true := by simpa using h0
    have eQ : Q = ([], E2) := by rw [Fin.out, if_pos h0]
    go_wp2_with (go_at_call 45; ((with_reducible refine (ct _ G).mono ?_); rintro e w2 ⟨rfl, hg2⟩))
    refine bodyPost_ret (by simp [results, Tryz.results17, go_sem] <;> rfl) rfl ?_
    exact ⟨none, [], 0, by rw [eQ]; rfl, zin_nil _ _, by rw [eQ]; rfl, SlOk.nil, G.trans hg2⟩
set_option maxRecDepth 100000 in
set_option maxHeartbeats 8000000 in
theorem rpairs2 (l r : L2 Int) (x : E) (a b : S) (w : World) (hll : l.xs.length ≤ 140737488355328) (hlr : r.xs.length ≤ 140737488355328) (hl : ISl w l.A l.xs) (hr : ISl w r.A r.xs) (hE : EX w x) (ha : In w a) (hb : In w b) :
    Calls Tryz.prog 17 #[.int .i64 2, .slice l.A l.xs.length l.cap, .slice r.A r.xs.length r.cap, x.val, .slice a.A a.xs.length a.cap, .slice b.A b.xs.length b.cap] w fun en w' => Gives w w' en (partZ false l.xs r.xs x a.z b.z) := by
  obtain ⟨Aa, as1, ca⟩ := a
  obtain ⟨Ab, bs1, cb⟩ := b
  have HX := Lib.hid hE
  have Ha := Lib.hid ha
  have Hb := Lib.hid hb
  have ct := fun W (hg : Grow w W) => rtwo_any l r x ⟨Aa, as1, ca⟩ ⟨Ab, bs1, cb⟩ W hll hlr (hl.grow hg) (hr.grow hg) (hE.grow hg) (ha.grow hg) (hb.grow hg)
  obtain ⟨bz, hbz⟩ : ∃ z, S.z ⟨Ab, bs1, cb⟩ = z := ⟨_, rfl⟩
  obtain ⟨az, haz⟩ : ∃ z, S.z ⟨Aa, as1, ca⟩ = z := ⟨_, rfl⟩
  obtain ⟨E2, hE2⟩ : ∃ e, twoE l.xs r.xs x az bz = e := ⟨_, rfl⟩
  rw [haz, hbz, hE2] at ct
  obtain ⟨Q, hQ⟩ : ∃ Q, partZ false l.xs r.xs x az bz = Q := ⟨_, rfl⟩
  rw [haz, hbz, hQ]
  have fin : Q = if E2 ≠ 0 then ([], E2) else fitZ (setZ (az.flatMap (rowL 2 x r.xs.length bz))) := by
    rw [← hQ]; unfold partZ; rw [hE2]
    by_cases h0 : E2 = 0
    · rw [if_neg (by simpa using h0), if_neg (by simpa using h0)]; rw [rows2]; rfl
    · rw [if_pos h0, if_pos h0]
  have Fin := Lib.hid fin
  have H2 := Lib.hid hE2
  have HA := Lib.hid haz
  have HB := Lib.hid hbz
  clear hl hr hE ha hb hE2 hQ fin haz hbz
  unfold E.val at *
  go_enter Tryz.func17, Tryz.ntmps17
  go_upto_region 1 with fail
  refine wp_forget (fun X => Blk X w.heap.size 27 (exC x) ∧ Grow w X) ⟨Blk.new _ _ _, (Grow.refl _).al _⟩ ?_
  generalize w.heap.size = g1
  rintro X ⟨Bx, G⟩
  obtain ⟨bx, fx⟩ := Bx.rules
  by_cases h0 : E2 = 0
  · subst h0
    have eQ : Q = fitZ (setZ (az.flatMap (rowL 2 x r.xs.length bz))) := by rw [Fin.out]; simp
    have EQ := Lib.hid eQ
    clear eQ
    go_upto_region 4 with (go_at_call 45; ((with_reducible refine (ct _ G).mono ?_); rintro e w2 ⟨rfl, hg2⟩))
    have G2 := G.trans hg2
    have ok := two_ok (l := l.xs) (r := r.xs) (x := x) (a := ⟨Aa, as1, ca⟩) (b := ⟨Ab, bs1, cb⟩) (by rw [HA.out, HB.out]; exact H2.out)
    obtain ⟨h8, hcond, hia, hib⟩ := twoE_zero H2.out
    obtain ⟨T, hok⟩ := okay_of (condE_zero hcond).1
    have ft := Lib.hid hok.ty
    have fa := Lib.hid (show ∀ y ∈ as1, FitR l.xs y.row from fun y hy => (fits_iff _ _).1 ((inputE_zero hia).2.2 (zOf y) (by rw [← HA.out]; exact List.mem_map_of_mem hy)))
    have fb := Lib.hid (show ∀ y ∈ bs1, FitR r.xs y.row from fun y hy => (fits_iff _ _).1 ((inputE_zero hib).2.2 (zOf y) (by rw [← HB.out]; exact List.mem_map_of_mem hy)))
    have la : as1.length ≤ 400 := ok.la
    have lb : bs1.length ≤ 400 := ok.lb
    have Ok := Lib.hid ok
    have B2 := Lib.hid (Bx.grow hg2)
    have lbz : bz.length = bs1.length := by rw [← HB.out]; simp [S.z]
    clear ct bx fx ok hcond hia hib hok Bx
    go_wp2
    go_loopw [15, 34] (fun t i wr => ∃ k : Nat, k ≤ as1.length ∧ i = .int .i64 k ∧ PutSb w2 wr t (((as1.take k).map zOf).flatMap (rowL 2 x r.xs.length bz))) (fun _ i _ => as1.length - (intOf i).toNat)
    case atStart => exact ⟨0, Nat.zero_le _, rfl, PutSb.nil _ _ (Grow.refl _)⟩
    case round =>
      rename World => wr
      obtain ⟨k, hk, rfl, hp⟩ := hrel
      obtain ⟨Bt, nt, ct, rfl⟩ := hp.slice
      have P := Lib.hid hp
      have hg := hp.grow
      clear hp
      by_cases hlt : k < as1.length
      · obtain ⟨y, hyk⟩ : ∃ y, as1[k]? = some y := ⟨_, List.getElem?_eq_getElem hlt⟩
        obtain ⟨gx2, ox2, rfl, c1, c2, hyv⟩ := (Ha.out.z.grow (G2.trans hg)) k y hyk
        have hm := List.mem_of_getElem? hyk
        have ly := Ok.out.ra y hm
        have fy := Lib.hid (fa.out y hm)
        have wy := Ok.out.wa y hm
        have vy := Lib.hid (Ok.out.va y hm)
        have Fl := Lib.hid (flatMap_at (f := rowL 2 x r.xs.length bz) hyk)
        have HV := Lib.hid hyv
        have re := Lib.hid (Ok.out.re y hm)
        have lpz : (pairsL x (zOf y) bz).length ≤ 400 := by unfold pairsL; rw [List.length_map]; have := List.length_filter_le (fun r => holdB x ((zOf y).1 ++ r.1)) bz; omega
        obtain ⟨LK, hLK⟩ : ∃ L, ((as1.take k).map zOf).flatMap (rowL 2 x r.xs.length bz) = L := ⟨_, rfl⟩
        have lk : LK.length ≤ 160400 := by
          rw [← hLK]
          have h1 := rowsL_len 2 x r.xs.length bz ((as1.take k).map zOf)
          have h2 : ((as1.take k).map zOf).length ≤ 400 := by simp; omega
          have h3 := Nat.mul_le_mul h2 (show bz.length + 1 ≤ 401 by omega)
          omega
        have P1 := P.out
        have Fl1 := Fl.out
        rw [hLK] at P1 Fl1
        have P2 := Lib.hid P1
        have Fl2 := Lib.hid Fl1
        clear P Fl P1 Fl1 hLK hyk hm hyv
        go_upto_region 8 with fail
        refine wp_forget (fun Z => Blk Z wr.heap.size 48 #[.slice y.A y.row.length y.cap, .int .i64 y.w] ∧ Grow wr Z) ⟨Blk.new _ _ _, (Grow.refl wr).al _⟩ ?_
        rintro Z ⟨Bz, Gz⟩
        have BY := Lib.hid Bz
        have BX := Lib.hid (B2.out.grow (hg.trans Gz))
        have PZ := Lib.hid (P2.out.more Gz)
        have VZ := Lib.hid (HV.out.grow Gz)
        have GZ := G2.trans (hg.trans Gz)
        clear Bz c1 c2 P2 HV
        generalize wr.heap.size = gp at *
        have gW := Grow.refl Z
        have PE := Lib.hid PZ.out
        have lp : (0 : Nat) ≤ 400 := by omega
        have cpn := partner_any (l.xs ++ r.xs) x T y.row y.A y.cap ⟨Ab, bs1, cb⟩ Z lb (fun z hz => fitR_app fy.out (fb.out z hz)) ft.out (fun z hz => (re.out z hz).2.2) (HX.out.grow (GZ.trans gW)) (VZ.out.grow gW) (Hb.out.z.grow (GZ.trans gW))
        rw [show S.z ⟨Ab, bs1, cb⟩ = bz from HB.out] at cpn
        obtain ⟨has, hhas⟩ : ∃ t, metR x bz y.row = t := ⟨_, rfl⟩
        rw [hhas] at cpn
        have HAS := Lib.hid (show metR x bz (zOf y).1 = has from hhas)
        unfold E.val at cpn
        clear hhas
        obtain ⟨b3, f3⟩ := (BY.out.grow gW).rules
        obtain ⟨bx, fx⟩ := (BX.out.grow gW).rules
        go_upto_region 17 with (go_at_call 47; ((with_reducible refine cpn.mono ?_); rintro e w6 ⟨rfl, hg6⟩))
        have P6 := Lib.hid (PE.out.more hg6)
        have G6 := gW.trans hg6
        clear b3 f3 bx fx cpn PE
        cases has with
        | false =>
          have cpt := put_stepb P6.out y.row y.A y.cap y.w (VZ.out.grow G6) (by omega) vy.out (by omega) (by omega)
          obtain ⟨b3, f3⟩ := (BY.out.grow G6).rules
          go_wp2_with (go_at_call 29; ((with_reducible refine cpt.mono ?_); rintro e w7 ⟨v7, rfl, hp7, hg7⟩; have P7 := Lib.hid hp7; obtain ⟨Bv, nv, cv, rfl⟩ := hp7.slice; clear hp7))
          go_roundw
          case rel => exact ⟨k + 1, by omega, by go_num, by rw [Fl2.out]; unfold rowL; rw [HAS.out]; have h := P7.out; simpa [zOf] using h⟩
          case measure => simp [intOf]; omega
        | true =>
          go_wp2
          go_roundw
          case rel => exact ⟨k + 1, by omega, by go_num, by rw [Fl2.out]; unfold rowL; rw [HAS.out]; simpa using P6.out⟩
          case measure => simp [intOf]; omega
      · obtain rfl : k = as1.length := by omega
        have P1 := P.out
        rw [List.take_length, show as1.map zOf = az from HA.out] at P1
        obtain ⟨⟨B, ys, cap, e9, hz, hm, hk2⟩, hg', _⟩ := P1
        have ly9 : ys.length ≤ 9223372036854775807 := by
          have h1 := congrArg List.length hm
          have h2 := setZ_len (az.flatMap (rowL 2 x r.xs.length bz))
          have h3 := rowsL_len 2 x r.xs.length bz az
          have h4 : az.length = as1.length := by rw [← HA.out]; simp [S.z]
          have h5 := Nat.mul_le_mul (show az.length ≤ 400 by omega) (show bz.length + 1 ≤ 401 by omega)
          simp at h1
          omega
        have cf := rfit_any ys B cap wr ly9 hz hk2
        rw [hm, ← EQ.out] at cf
        simp only [Value.slice.injEq] at e9
        obtain ⟨rfl, rfl, rfl⟩ := e9
        clear hz hm hk2
        go_wp2_with (go_at_call 34; ((with_reducible refine cf.mono ?_); rintro en w5 ⟨C, zs, cap2, rfl, hz3, hm3, hk3, hg5⟩; have Out := Lib.hid (And.intro hz3 (And.intro hm3 hk3)); clear hz3 hm3 hk3))
        refine bodyPost_ret (by simp [results, Tryz.results17, go_sem] <;> rfl) rfl ?_
        exact ⟨C, zs, cap2, rfl, Out.out.1, Out.out.2.1, Out.out.2.2, G2.trans (hg.trans hg5)⟩
  · have d0 : (E2 != 0) = true := by simpa using h0
    have eQ : Q = ([], E2) := by rw [Fin.out, if_pos h0]
    go_wp2_with (go_at_call 45; ((with_reducible refine (ct _ G).mono ?_); rintro e w2 ⟨rfl, hg2⟩))
    refine bodyPost_ret (by simp [results, Tryz.results17, go_sem] <;> rfl) rfl ?_
    exact ⟨none, [], 0, by rw [eQ]; rfl, zin_nil _ _, by rw [eQ]; rfl, SlOk.nil, G.trans hg2⟩
set_option maxRecDepth 100000 in
set_option maxHeartbeats 8000000 in
theorem rpairs3 (l r : L2 Int) (x : E) (a b : S) (w : World) (hll : l.xs.length ≤ 140737488355328) (hlr : r.xs.length ≤ 140737488355328) (hl : ISl w l.A l.xs) (hr : ISl w r.A r.xs) (hE : EX w x) (ha : In w a) (hb : In w b) :
    Calls Tryz.prog 17 #[.int .i64 3, .slice l.A l.xs.length l.cap, .slice r.A r.xs.length r.cap, x.val, .slice a.A a.xs.length a.cap, .slice b.A b.xs.length b.cap] w fun en w' => Gives w w' en (leftZ l.xs r.xs x a.z b.z) := by
  obtain ⟨Aa, as1, ca⟩ := a
  obtain ⟨Ab, bs1, cb⟩ := b
  have HX := Lib.hid hE
  have Ha := Lib.hid ha
  have Hb := Lib.hid hb
  have ct := fun W (hg : Grow w W) => rtwo_any l r x ⟨Aa, as1, ca⟩ ⟨Ab, bs1, cb⟩ W hll hlr (hl.grow hg) (hr.grow hg) (hE.grow hg) (ha.grow hg) (hb.grow hg)
  obtain ⟨bz, hbz⟩ : ∃ z, S.z ⟨Ab, bs1, cb⟩ = z := ⟨_, rfl⟩
  obtain ⟨az, haz⟩ : ∃ z, S.z ⟨Aa, as1, ca⟩ = z := ⟨_, rfl⟩
  obtain ⟨E2, hE2⟩ : ∃ e, twoE l.xs r.xs x az bz = e := ⟨_, rfl⟩
  rw [haz, hbz, hE2] at ct
  obtain ⟨Q, hQ⟩ : ∃ Q, leftZ l.xs r.xs x az bz = Q := ⟨_, rfl⟩
  rw [haz, hbz, hQ]
  have fin : Q = if E2 ≠ 0 then ([], E2) else fitZ (setZ (az.flatMap (rowL 3 x r.xs.length bz))) := by
    rw [← hQ]; unfold leftZ; rw [hE2]
    by_cases h0 : E2 = 0
    · rw [if_neg (by simpa using h0), if_neg (by simpa using h0)]; rw [rows3 (by rw [hE2, h0])]; rfl
    · rw [if_pos h0, if_pos h0]
  have Fin := Lib.hid fin
  have H2 := Lib.hid hE2
  have HA := Lib.hid haz
  have HB := Lib.hid hbz
  clear hl hr hE ha hb hE2 hQ fin haz hbz
  unfold E.val at *
  go_enter Tryz.func17, Tryz.ntmps17
  go_upto_region 1 with fail
  refine wp_forget (fun X => Blk X w.heap.size 27 (exC x) ∧ Grow w X) ⟨Blk.new _ _ _, (Grow.refl _).al _⟩ ?_
  generalize w.heap.size = g1
  rintro X ⟨Bx, G⟩
  obtain ⟨bx, fx⟩ := Bx.rules
  by_cases h0 : E2 = 0
  · subst h0
    have eQ : Q = fitZ (setZ (az.flatMap (rowL 3 x r.xs.length bz))) := by rw [Fin.out]; simp
    have EQ := Lib.hid eQ
    clear eQ
    go_upto_region 4 with (go_at_call 45; ((with_reducible refine (ct _ G).mono ?_); rintro e w2 ⟨rfl, hg2⟩))
    have G2 := G.trans hg2
    have ok := two_ok (l := l.xs) (r := r.xs) (x := x) (a := ⟨Aa, as1, ca⟩) (b := ⟨Ab, bs1, cb⟩) (by rw [HA.out, HB.out]; exact H2.out)
    obtain ⟨h8, hcond, hia, hib⟩ := twoE_zero H2.out
    obtain ⟨T, hok⟩ := okay_of (condE_zero hcond).1
    have ft := Lib.hid hok.ty
    have fa := Lib.hid (show ∀ y ∈ as1, FitR l.xs y.row from fun y hy => (fits_iff _ _).1 ((inputE_zero hia).2.2 (zOf y) (by rw [← HA.out]; exact List.mem_map_of_mem hy)))
    have fb := Lib.hid (show ∀ y ∈ bs1, FitR r.xs y.row from fun y hy => (fits_iff _ _).1 ((inputE_zero hib).2.2 (zOf y) (by rw [← HB.out]; exact List.mem_map_of_mem hy)))
    have la : as1.length ≤ 400 := ok.la
    have lb : bs1.length ≤ 400 := ok.lb
    have Ok := Lib.hid ok
    have B2 := Lib.hid (Bx.grow hg2)
    have lbz : bz.length = bs1.length := by rw [← HB.out]; simp [S.z]
    clear ct bx fx ok hcond hia hib hok Bx
    go_wp2
    go_loopw [15, 34] (fun t i wr => ∃ k : Nat, k ≤ as1.length ∧ i = .int .i64 k ∧ PutSb w2 wr t (((as1.take k).map zOf).flatMap (rowL 3 x r.xs.length bz))) (fun _ i _ => as1.length - (intOf i).toNat)
    case atStart => exact ⟨0, Nat.zero_le _, rfl, PutSb.nil _ _ (Grow.refl _)⟩
    case round =>
      rename World => wr
      obtain ⟨k, hk, rfl, hp⟩ := hrel
      obtain ⟨Bt, nt, ct, rfl⟩ := hp.slice
      have P := Lib.hid hp
      have hg := hp.grow
      clear hp
      by_cases hlt : k < as1.length
      · obtain ⟨y, hyk⟩ : ∃ y, as1[k]? = some y := ⟨_, List.getElem?_eq_getElem hlt⟩
        obtain ⟨gx2, ox2, rfl, c1, c2, hyv⟩ := (Ha.out.z.grow (G2.trans hg)) k y hyk
        have hm := List.mem_of_getElem? hyk
        have ly := Ok.out.ra y hm
        have fy := Lib.hid (fa.out y hm)
        have wy := Ok.out.wa y hm
        have vy := Lib.hid (Ok.out.va y hm)
        have Fl := Lib.hid (flatMap_at (f := rowL 3 x r.xs.length bz) hyk)
        have HV := Lib.hid hyv
        have re := Lib.hid (Ok.out.re y hm)
        have lpz : (pairsL x (zOf y) bz).length ≤ 400 := by unfold pairsL; rw [List.length_map]; have := List.length_filter_le (fun r => holdB x ((zOf y).1 ++ r.1)) bz; omega
        obtain ⟨LK, hLK⟩ : ∃ L, ((as1.take k).map zOf).flatMap (rowL 3 x r.xs.length bz) = L := ⟨_, rfl⟩
        have lk : LK.length ≤ 160400 := by
          rw [← hLK]
          have h1 := rowsL_len 3 x r.xs.length bz ((as1.take k).map zOf)
          have h2 : ((as1.take k).map zOf).length ≤ 400 := by simp; omega
          have h3 := Nat.mul_le_mul h2 (show bz.length + 1 ≤ 401 by omega)
          omega
        have P1 := P.out
        have Fl1 := Fl.out
        rw [hLK] at P1 Fl1
        have P2 := Lib.hid P1
        have Fl2 := Lib.hid Fl1
        clear P Fl P1 Fl1 hLK hyk hm hyv
        go_upto_region 8 with fail
        refine wp_forget (fun Z => Blk Z wr.heap.size 48 #[.slice y.A y.row.length y.cap, .int .i64 y.w] ∧ Grow wr Z) ⟨Blk.new _ _ _, (Grow.refl wr).al _⟩ ?_
        rintro Z ⟨Bz, Gz⟩
        have BY := Lib.hid Bz
        have BX := Lib.hid (B2.out.grow (hg.trans Gz))
        have PZ := Lib.hid (P2.out.more Gz)
        have VZ := Lib.hid (HV.out.grow Gz)
        have GZ := G2.trans (hg.trans Gz)
        clear Bz c1 c2 P2 HV
        generalize wr.heap.size = gp at *
        go_wp2
        go_loopw [15, 46] (fun t i W => ∃ k2 : Nat, k2 ≤ bs1.length ∧ i = .int .i64 k2 ∧ PutSb w2 W t (LK ++ pairsL x (zOf y) ((bs1.take k2).map zOf)) ∧ Grow Z W) (fun _ i _ => bs1.length - (intOf i).toNat)
        case atStart => exact ⟨0, Nat.zero_le _, rfl, by simpa [pairsL] using PZ.out, Grow.refl _⟩
        case round =>
          rename World => W1
          obtain ⟨k2, hk2, rfl, hp2, gW⟩ := hrel
          obtain ⟨Bs, ns, cs, rfl⟩ := hp2.slice
          have PW := Lib.hid hp2
          have lp : (pairsL x (zOf y) ((bs1.take k2).map zOf)).length ≤ 400 := by unfold pairsL; rw [List.length_map]; have := List.length_filter_le (fun r => holdB x ((zOf y).1 ++ r.1)) ((bs1.take k2).map zOf); rw [List.length_map, List.length_take] at this; omega
          clear hp2
          by_cases hlt2 : k2 < bs1.length
          · obtain ⟨z, hzk⟩ : ∃ z, bs1[k2]? = some z := ⟨_, List.getElem?_eq_getElem hlt2⟩
            obtain ⟨gx3, ox3, rfl, c3, c4, hzv⟩ := (Hb.out.z.grow (GZ.trans gW)) k2 z hzk
            have hm := List.mem_of_getElem? hzk
            have rz := re.out z hm
            have wz := Ok.out.wb z hm
            have fz := fitR_app fy.out (fb.out z hm)
            have sn := Lib.hid (pairs_snoc (x := x) (y := zOf y) hzk)
            have hmul : -1000000000000 ≤ y.w * z.w ∧ y.w * z.w ≤ 1000000000000 := by
              obtain ⟨h1, h2⟩ := wy
              obtain ⟨h3, h4⟩ := wz
              have ha : (y.w).natAbs ≤ 1000000 := by omega
              have hb : (z.w).natAbs ≤ 1000000 := by omega
              have : (y.w * z.w).natAbs ≤ 1000000 * 1000000 := by rw [Int.natAbs_mul]; exact Nat.mul_le_mul ha hb
              omega
            have hwp : IntKind.i64.wrap (y.w * z.w) = y.w * z.w := by rw [IntKind.wrap_i64]; omega
            have cb4 := fun W (h : Grow W1 W) => both4_any y.row z.row y.A z.A y.cap z.cap W (by have := rz.2.2; simp at this; omega) (VZ.out.grow (gW.trans h)) (hzv.grow h)
            obtain ⟨R, hR⟩ : ∃ R, y.row ++ z.row = R := ⟨_, rfl⟩
            rw [hR] at cb4 fz rz
            obtain ⟨rz1, rz2, rz3⟩ := rz
            have ch := fun B cap W (h : Grow W1 W) (hv : VSl W B R) => rholds_any (l.xs ++ r.xs) R B cap x T W (by omega) fz ft.out (HX.out.grow (GZ.trans (gW.trans h))) hv
            obtain ⟨hit, hh⟩ : ∃ t, holdB x R = t := ⟨_, rfl⟩
            rw [hh] at ch
            have HH := Lib.hid (And.intro hR hh)
            have RV2 := Lib.hid rz2
            obtain ⟨m, hm2⟩ : ∃ m, y.w * z.w = m := ⟨_, rfl⟩
            have HM := Lib.hid hm2
            have mul : IntKind.i64.wrap (y.w * z.w) = m := by rw [hwp, hm2]
            have hmb : -1000000000000 ≤ m ∧ m ≤ 1000000000000 := by rw [← hm2]; exact hmul
            unfold E.val at ch
            clear hR hh hzk hm hm2 hwp hmul rz1 rz2 fz
            have HZv := Lib.hid hzv
            clear hzv
            go_upto_region 12 with fail
            refine wp_forget (fun Z2 => Blk Z2 W1.heap.size 48 #[.slice z.A z.row.length z.cap, .int .i64 z.w] ∧ Grow W1 Z2) ⟨Blk.new _ _ _, (Grow.refl W1).al _⟩ ?_
            rintro Z2 ⟨Bz2, Gz2⟩
            have BQ := Lib.hid Bz2
            obtain ⟨b4, f4⟩ := Bz2.rules
            obtain ⟨b3, f3⟩ := (BY.out.grow (gW.trans Gz2)).rules
            clear c3 c4
            generalize W1.heap.size = gq at *
            go_upto_region 13 with (go_at_call 46; (with_reducible refine (cb4 _ Gz2).mono ?_); rintro e w3 ⟨B, cap, rfl, own3, hg3⟩)
            have hv3 := own_vs own3
            have HV3 := Lib.hid hv3
            clear own3 cb4 b4 f4 b3 f3 hv3
            obtain ⟨bx, fx⟩ := (BX.out.grow (gW.trans (Gz2.trans hg3))).rules
            cases hit with
            | false =>
              go_wp2_with (go_at_call 28; ((with_reducible refine (ch _ _ _ (Gz2.trans hg3) HV3.out).mono ?_); rintro e w4 ⟨rfl, hg4⟩))
              have GG := Gz2.trans (hg3.trans hg4)
              have PW4 := Lib.hid (PW.out.more GG)
              go_roundw
              case rel => exact ⟨k2 + 1, by omega, by go_num, by rw [sn.out, show (zOf y).1 ++ z.row = R from HH.out.1, HH.out.2]; simpa using PW4.out, gW.trans GG⟩
              case measure => simp [intOf]; omega
            | true =>
              go_upto_region 14 with (go_at_call 28; ((with_reducible refine (ch _ _ _ (Gz2.trans hg3) HV3.out).mono ?_); rintro e w4 ⟨rfl, hg4⟩))
              have GG := Gz2.trans (hg3.trans hg4)
              have PW4 := Lib.hid (PW.out.more GG)
              have HV4 := Lib.hid (HV3.out.grow hg4)
              clear bx fx ch
              have cpt := put_stepb PW4.out R B cap m HV4.out (by omega) RV2.out hmb (by rw [List.length_append]; omega)
              obtain ⟨b4, f4⟩ := (BQ.out.grow (hg3.trans hg4)).rules
              obtain ⟨b3, f3⟩ := (BY.out.grow (gW.trans GG)).rules
              go_wp2_with (go_at_call 29; ((with_reducible refine cpt.mono ?_); rintro e w5 ⟨v5, rfl, hp5, hg5⟩; have P5 := Lib.hid hp5; clear hp5))
              go_roundw
              case rel => exact ⟨k2 + 1, by omega, by go_num, by rw [sn.out, show (zOf y).1 ++ z.row = R from HH.out.1, HH.out.2, if_pos rfl, show (zOf y).2 * z.w = m from HM.out, ← List.append_assoc]; exact P5.out, gW.trans (GG.trans hg5)⟩
              case measure => simp [intOf]; omega
          · obtain rfl : k2 = bs1.length := by omega
            have PW2 := PW.out
            rw [List.take_length, show bs1.map zOf = bz from HB.out] at PW2
            have PE := Lib.hid PW2
            clear PW2 PW lp
            have cpn := partner_any (l.xs ++ r.xs) x T y.row y.A y.cap ⟨Ab, bs1, cb⟩ W1 lb (fun z hz => fitR_app fy.out (fb.out z hz)) ft.out (fun z hz => (re.out z hz).2.2) (HX.out.grow (GZ.trans gW)) (VZ.out.grow gW) (Hb.out.z.grow (GZ.trans gW))
            rw [show S.z ⟨Ab, bs1, cb⟩ = bz from HB.out] at cpn
            obtain ⟨has, hhas⟩ : ∃ t, metR x bz y.row = t := ⟨_, rfl⟩
            rw [hhas] at cpn
            have HAS := Lib.hid (show metR x bz (zOf y).1 = has from hhas)
            unfold E.val at cpn
            clear hhas
            obtain ⟨b3, f3⟩ := (BY.out.grow gW).rules
            obtain ⟨bx, fx⟩ := (BX.out.grow gW).rules
            go_upto_region 17 with (go_at_call 47; ((with_reducible refine cpn.mono ?_); rintro e w6 ⟨rfl, hg6⟩))
            have P6 := Lib.hid (PE.out.more hg6)
            have G6 := gW.trans hg6
            clear b3 f3 bx fx cpn PE
            cases has with
            | false =>
              have cb4 := both4_any y.row [] y.A none y.cap 0 w6 (by simp; omega) (VZ.out.grow G6) (fun i v hv => by simp at hv)
              simp only [List.length_nil, List.append_nil] at cb4
              obtain ⟨b3, f3⟩ := (BY.out.grow G6).rules
              go_upto_region 21 with (go_at_call 46; (with_reducible refine cb4.mono ?_); rintro e w7 ⟨B, cap, rfl, own7, hg7⟩)
              have Own7 := Lib.hid own7
              clear b3 f3 cb4 own7
              have lr8 : r.xs.length ≤ 8 := by omega
              have hwp : IntKind.i64.wrap ((y.row.length : Int) + (r.xs.length : Int)) = ((y.row.length + r.xs.length : Nat) : Int) := by rw [IntKind.wrap_i64]; omega
              go_wp2
              go_loopw [22] (fun t W => ∃ j : Nat, j ≤ r.xs.length ∧ W.ownsRow w6.heap.size 24 3 t (y.row.length + j) (flatW (y.row ++ List.replicate j nullV')) ∧ Grow w6 W) (fun t _ => y.row.length + r.xs.length - lenV t)
              case atStart => exact ⟨0, Nat.zero_le _, by simpa using Own7.out, hg7⟩
              case round =>
                rename World => W2
                obtain ⟨j, hj, ownr, hgr⟩ := hrel
                obtain ⟨Bj, capj, rfl⟩ := own_slice ownr
                have OwnR1 := Lib.hid ownr
                clear ownr
                obtain ⟨b3, f3⟩ := (BY.out.grow (G6.trans hgr)).rules
                by_cases hlt3 : j < r.xs.length
                · have d3 : decide (((y.row.length + j : Nat) : Int) < ((y.row.length + r.xs.length : Nat) : Int)) = true := decide_eq_true (by omega)
                  have sz := hgr.size
                  go_wp2_with (first
                    | (go_at_call 48; ((with_reducible refine (rnull_any _).mono ?_); rintro e w8 ⟨rfl, hg8⟩; have Own8 := Lib.hid (own_grow OwnR1.out hg8); have sz8 := hg8.size))
                    | (at_builtin; refine wpList_append_srcW rfl _ _ rfl w6.heap.size _ _ _ rfl (Own8.out.alloc _) _ [nullV'] rfl (srcW_one (Blk.new _ _ _)) (by simp; omega) (by simp; omega) ?_; intro v9 w9 own9 gr9; obtain ⟨B9, cap9, rfl⟩ := own_slice own9))
                  have G9 : Grow w6 w9 := grow_own (((hgr.trans hg8)).al _) gr9 (Own8.out.alloc _)
                  have Own9 := Lib.hid own9
                  clear own9 gr9
                  go_roundw
                  case rel => exact ⟨j + 1, by omega, by rw [List.replicate_succ', ← List.append_assoc]; simpa [Nat.add_assoc] using Own9.out, G9⟩
                  case measure => simp [lenV]; omega
                · obtain rfl : j = r.xs.length := by omega
                  have d3 : decide (((y.row.length + r.xs.length : Nat) : Int) < ((y.row.length + r.xs.length : Nat) : Int)) = false := decide_eq_false (by omega)
                  obtain ⟨q, hq⟩ : ∃ q, y.row ++ List.replicate r.xs.length nullV' = q := ⟨_, rfl⟩
                  have lq : y.row.length + r.xs.length = q.length := by rw [← hq]; simp
                  have vq : ∀ v ∈ q, RV v := fun v hv => by
                    rw [← hq] at hv
                    rcases List.mem_append.1 hv with hv | hv
                    · exact vy.out v hv
                    · rw [(List.mem_replicate.1 hv).2]; exact rv_nullV
                  have own := OwnR1.out
                  rw [hq, lq] at own
                  have hvq := own_vs own
                  have cpt := put_stepb (P6.out.more hgr) q Bj capj y.w hvq (by omega) vq (by omega) (by rw [List.length_append]; omega)
                  have HQ := Lib.hid hq
                  have VQ := Lib.hid vq
                  clear own hvq hq vq
                  go_wp2_with (go_at_call 29; ((with_reducible refine cpt.mono ?_); rintro e w8 ⟨v8, rfl, hp8, hg8⟩; have P8 := Lib.hid hp8; obtain ⟨Bv, nv, cv, rfl⟩ := hp8.slice; clear hp8))
                  go_roundw
                  case rel => exact ⟨k + 1, by omega, by go_num, by rw [Fl2.out]; unfold rowL; simp only; rw [HAS.out]; simp only [Bool.false_eq_true, if_false]; rw [← List.append_assoc]; have h := P8.out; rw [← HQ.out] at h; exact h⟩
                  case measure => simp [intOf]; omega
            | true =>
              go_wp2
              go_roundw
              case rel => exact ⟨k + 1, by omega, by go_num, by rw [Fl2.out]; unfold rowL; simp only; rw [HAS.out]; simpa using P6.out⟩
              case measure => simp [intOf]; omega
      · obtain rfl : k = as1.length := by omega
        have P1 := P.out
        rw [List.take_length, show as1.map zOf = az from HA.out] at P1
        obtain ⟨⟨B, ys, cap, e9, hz, hm, hk2⟩, hg', _⟩ := P1
        have ly9 : ys.length ≤ 9223372036854775807 := by
          have h1 := congrArg List.length hm
          have h2 := setZ_len (az.flatMap (rowL 3 x r.xs.length bz))
          have h3 := rowsL_len 3 x r.xs.length bz az
          have h4 : az.length = as1.length := by rw [← HA.out]; simp [S.z]
          have h5 := Nat.mul_le_mul (show az.length ≤ 400 by omega) (show bz.length + 1 ≤ 401 by omega)
          simp at h1
          omega
        have cf := rfit_any ys B cap wr ly9 hz hk2
        rw [hm, ← EQ.out] at cf
        simp only [Value.slice.injEq] at e9
        obtain ⟨rfl, rfl, rfl⟩ := e9
        clear hz hm hk2
        go_wp2_with (go_at_call 34; ((with_reducible refine cf.mono ?_); rintro en w5 ⟨C, zs, cap2, rfl, hz3, hm3, hk3, hg5⟩; have Out := Lib.hid (And.intro hz3 (And.intro hm3 hk3)); clear hz3 hm3 hk3))
        refine bodyPost_ret (by simp [results, Tryz.results17, go_sem] <;> rfl) rfl ?_
        exact ⟨C, zs, cap2, rfl, Out.out.1, Out.out.2.1, Out.out.2.2, G2.trans (hg.trans hg5)⟩
  · have d0 : (E2 != 0) = true := by simpa using h0
    have eQ : Q = ([], E2) := by rw [Fin.out, if_pos h0]
    go_wp2_with (go_at_call 45; ((with_reducible refine (ct _ G).mono ?_); rintro e w2 ⟨rfl, hg2⟩))
    refine bodyPost_ret (by simp [results, Tryz.results17, go_sem] <;> rfl) rfl ?_
    exact ⟨none, [], 0, by rw [eQ]; rfl, zin_nil _ _, by rw [eQ]; rfl, SlOk.nil, G.trans hg2⟩
end Go.Proofs.YtpdimihojeonhaaGreat
