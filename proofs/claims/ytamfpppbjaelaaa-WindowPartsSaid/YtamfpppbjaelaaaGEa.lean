/-
  Joined texts of this claim: So5, Srt3. What each proves its own head says; no condition beside those that each theorem names.
-/
import Derived.Test.YtamfpppbjaelaaaGE
import Derived.Test.YtamfpppbjaelaaaGB
set_option maxRecDepth 100000
set_option maxHeartbeats 8000000
namespace Go.Proofs.Ytamfpppbjaelaaa
open Go.RowKit Go.Calm
set_option linter.unusedSimpArgs false
set_option linter.unusedVariables false
section
variable {ck : Ck} {α : Type} {C : Cm ck α} {rs : List Value}

theorem sym_right (P U S : List α) (v : α) (a m b : Nat) (N c : Nat) (ha : a = P.length) (hm : m = a + U.length) (hU2 : 2 ≤ U.length) (hb : b = m + 1) (hN : N = (P ++ (U ++ v :: S)).length) (hmax : N ≤ 1000000) (g : Nat) (w0 w : World) (hT : ∀ x ∈ U, C.tg x v) (hG : ∀ x ∈ U ++ [v], C.good g w0 x) (hg0 : GX g w0 w) (hU : C.Up U) (hd : DY C rs w g (P ++ (U ++ v :: S))) :
    Calls Try.prog ck.sym #[.slice (some ⟨g, 0, none⟩) N c, .int .i64 a, .int .i64 m, .int .i64 b, ck.F] w fun en w' => en = .returned (.tuple #[]) ∧ (∃ M' : List α, M'.Perm (U ++ [v]) ∧ C.Up M' ∧ DY C rs w' g (P ++ (M' ++ S))) ∧ GX g w w' := by
  cases ck
  all_goals as_aux_lemma =>
    dsimp only [Ck.swp, Ck.rot, Ck.ins, Ck.sym, Ck.stb, Ck.srt, Ck.F]
    have mixed : Try.prog.follows .mixedOrders = true := by kernel_rfl
    have hN' : N = a + U.length + 1 + S.length := by rw [hN, ha]; simp; omega
    have hbN : b ≤ N := by omega
    have d0 : ((m : Int) - (a : Int) == 1) = false := by simp; omega
    have d1 : ((b : Int) - (m : Int) == 1) = true := by simp; omega
    have ham : a < m := by omega
    have Hd := Lib.hid hd
    have HN := Lib.hid hN'
    have Ea := Lib.hid ha
    have Em := Lib.hid hm
    have Eb := Lib.hid hb
    have HG := Lib.hid hG
    have HU := Lib.hid hU
    have hmb : m < N := by omega
    have haN : a < N := by omega
    have HTg := Lib.hid hT
    clear hd hN hN' ha hm hb hG hU hT
    first | go_enter Try.func100, Try.ntmps100 | go_enter Try.func94, Try.ntmps94 | go_enter Try.func70, Try.ntmps70
    go_wp2
    go_loopw [14, 15] (fun si sj wr => ∃ (i j : Nat), si = .int .i64 (i : Int) ∧ sj = .int .i64 (j : Int) ∧ a ≤ i ∧ i ≤ j ∧ j ≤ m ∧ (∀ t x, U[t]? = some x → a + t < i → C.cmp x v ≤ 0) ∧ (∀ t x, U[t]? = some x → j ≤ a + t → C.cmp v x < 0) ∧ DY C rs wr g (P ++ (U ++ v :: S)) ∧ GX g w wr) (fun si sj _ => (intOf sj).toNat - (intOf si).toNat)
    case atStart => exact ⟨a, m, rfl, rfl, Nat.le_refl _, by omega, Nat.le_refl _, fun t v h1 h2 => by omega, fun t v h1 h2 => by have := (List.getElem?_eq_some_iff.1 h1).1; have := Em.out; omega, Hd.out, GX.refl _ _⟩
    case round =>
      obtain ⟨i, j, rfl, rfl, hmi, hij, hjb, hlo, hhi, hdb, hgx⟩ := hrel
      have Lo := Lib.hid hlo
      have Hi := Lib.hid hhi
      have Hdb := Lib.hid hdb
      have hgw := hg0.trans hgx
      clear hlo hhi hdb
      by_cases hlt : i < j
      · have dl : decide ((i : Int) < (j : Int)) = true := by simp; omega
        obtain ⟨h, eh⟩ : ∃ h : Nat, h = (i + j) / 2 := ⟨_, rfl⟩
        have eh2 : ((i : Int) + (j : Int)) / 2 = (h : Int) := by omega
        have h1 : i ≤ h := by omega
        have h2 : h < j := by omega
        have hbig : (i : Int) + j ≤ 2000000 := by omega
        have hhN : h < N := by omega
        obtain ⟨x, hx⟩ : ∃ x, U[h - a]? = some x := ⟨_, List.getElem?_eq_getElem (by have := Em.out; omega)⟩
        have fv : (P ++ (U ++ v :: S))[m]? = some v := by
          rw [← List.append_assoc, show m = (P ++ U).length by simp; have := Ea.out; have := Em.out; omega]
          exact get_mid _ _ _
        have fx : (P ++ (U ++ v :: S))[h]? = some x := by
          rw [List.getElem?_append_right (by have := Ea.out; omega), List.getElem?_append_left (by have := Ea.out; have := Em.out; omega), show h - P.length = h - a by have := Ea.out; omega]
          exact hx
        have gv : C.good g w0 v := HG.out v (by simp)
        have gx : C.good g w0 x := HG.out x (by simp [List.mem_of_getElem? hx])
        have Fv := Lib.hid fv
        have Fx := Lib.hid fx
        have Hx := Lib.hid hx
        have Eh := Lib.hid eh
        clear fv fx hx eh
        obtain ⟨cr, hcr⟩ : ∃ q, C.ans v x = q := ⟨_, rfl⟩
        have cc := fun W (h : GX g w0 W) => C.call v x g w0 W gv gx h
        rw [hcr] at cc
        dsimp only [Ck.fn, Ck.args, Ck.v, Ck.c0, Ck.c1] at cc
        have htg : C.tg x v := HTg.out x (List.mem_of_getElem? Hx.out)
        have hlt9 := C.lt gv gx htg
        rw [hcr] at hlt9
        have Hcr := Lib.hid hlt9
        clear hcr hlt9 htg
        go_upto_region 17 with fail
        apply wp_region_calm 12 (by kernel_rfl) (by kernel_rfl)
        case h' =>
          intro Q0 hQ0
          simp only [List.take_succ_cons, List.take_zero]
          repeat ((first | ((first | apply calm_p rfl | apply calm_y rfl rfl rfl); case h1 => (intro w1 hw1 hF K hK; obtain ⟨cx0, cx1⟩ := (Hdb.out.grow hw1).at Fv.out; dsimp only [Ck.c0, Ck.c1] at cx0 cx1; obtain ⟨cy0, cy1⟩ := (Hdb.out.grow hw1).at Fx.out; dsimp only [Ck.c0, Ck.c1] at cy0 cy1; go_simp; first | exact hK _ (Grow.refl _) | ((first | go_at_call 78 | go_at_call 65 | go_at_call 23); ((with_reducible refine (cc _ (hgw.grow hw1)).mono ?_); rintro e w' ⟨rfl, hg⟩; exact ⟨_, rfl, hK _ hg⟩)))) | apply calm_n rfl rfl rfl rfl); intro K hK; go_simp; apply hK; clear hK K)
          refine calm_nil ?_
          intro w1 hw1 hF
          apply hQ0
          clear hQ0
          simp only [List.drop_succ_cons, List.drop_zero]
          clear hF
          have Hdb3 := Lib.hid (Hdb.out.grow hw1)
          have GU : ∀ x ∈ U, C.good g w0 x := fun x hx => HG.out x (by simp [hx])
          by_cases hc : cr < 0
          · have dc : decide (cr < 0) = true := by simpa using hc
            have hnew : ∀ t x', U[t]? = some x' → h ≤ a + t → C.cmp v x' < 0 := fun t x' ht hlt' => by
              have g' := GU x' (List.mem_of_getElem? ht)
              exact lt_le gv gx g' (Hcr.out.2 hc) (up_get HU.out GU Hx.out ht (by omega))
            have Hnew := Lib.hid hnew
            clear hnew hc
            simp only [dc, Bool.not_true]
            go_wp2
            go_roundw
            case rel => exact ⟨i, h, rfl, by go_num, hmi, h1, by omega, Lo.out, Hnew.out, Hdb3.out, hgx.grow hw1⟩
            case measure => simp [intOf]; omega
          · have dc : decide (cr < 0) = false := by simpa using hc
            have hnew : ∀ t x', U[t]? = some x' → a + t < h + 1 → C.cmp x' v ≤ 0 := fun t x' ht hlt' => by
              have g' := GU x' (List.mem_of_getElem? ht)
              have h5 := up_get HU.out GU ht Hx.out (by omega)
              have h6 := C.swap gv gx
              have h9 := mt Hcr.out.1 hc
              exact C.trans g' gx gv h5 (by omega)
            have Hnew := Lib.hid hnew
            clear hnew hc
            simp only [dc, Bool.not_false]
            go_wp2
            go_roundw
            case rel => exact ⟨h + 1, j, by go_num, rfl, by omega, by omega, hjb, Hnew.out, Hi.out, Hdb3.out, hgx.grow hw1⟩
            case measure => simp [intOf]; omega
        case hp' => trivial
      · obtain rfl : i = j := by omega
        have dl : decide ((i : Int) < (i : Int)) = false := by simp
        clear hlt
        go_wp2
        go_loopw [17] (fun sk w3 => ∃ (k : Nat) (U1 U2 : List α), sk = .int .i64 (k : Int) ∧ U = U1 ++ U2 ∧ k = a + U1.length ∧ i ≤ k ∧ k ≤ m ∧ DY C rs w3 g (P ++ (U1 ++ v :: (U2 ++ S))) ∧ GX g w w3) (fun sk _ => (intOf sk).toNat)
        case atStart => exact ⟨m, U, [], rfl, by simp, Em.out, hjb, Nat.le_refl _, by have := Hdb.out; simpa using this, hgx⟩
        case round =>
          obtain ⟨k, U1, U2, rfl, e1, ek, hki, hkm, hdb2, hgx2⟩ := hrel
          have E1 := Lib.hid e1
          have Ek := Lib.hid ek
          have Hdb2 := Lib.hid hdb2
          have hak : a ≤ k := by omega
          clear e1 ek hdb2
          by_cases hk2 : i < k
          · obtain ⟨L', y, hL⟩ : ∃ L' y, U1 = L' ++ [y] := by
              rcases List.eq_nil_or_concat U1 with hL | ⟨L', y, hL⟩
              · exfalso; have := Ek.out; rw [hL] at this; simp at this; omega
              · exact ⟨L', y, by simpa using hL⟩
            subst hL
            obtain ⟨jp, rfl⟩ : ∃ jp, k = jp + 1 := ⟨k - 1, by omega⟩
            have ejp : jp = a + L'.length := by have := Ek.out; simp at this; omega
            have Ejp := Lib.hid ejp
            have dk : decide ((i : Int) < (jp : Int) + 1) = true := by simp; omega
            have fx : (P ++ (L' ++ [y] ++ v :: (U2 ++ S)))[jp + 1]? = some v := by
              rw [show P ++ (L' ++ [y] ++ v :: (U2 ++ S)) = (P ++ (L' ++ [y])) ++ v :: (U2 ++ S) by simp, show jp + 1 = (P ++ (L' ++ [y])).length by simp; have := Ejp.out; have := Ea.out; omega]
              exact get_mid _ _ _
            have fy : (P ++ (L' ++ [y] ++ v :: (U2 ++ S)))[jp]? = some y := by
              rw [show P ++ (L' ++ [y] ++ v :: (U2 ++ S)) = (P ++ L') ++ y :: (v :: (U2 ++ S)) by simp, show jp = (P ++ L').length by simp; have := Ejp.out; have := Ea.out; omega]
              exact get_mid _ _ _
            have Fx := Lib.hid fx
            have Fy := Lib.hid fy
            clear fx fy ejp
            obtain ⟨cx0, cx1⟩ := Hdb2.out.at Fx.out; dsimp only [Ck.c0, Ck.c1] at cx0 cx1
            obtain ⟨cy0, cy1⟩ := Hdb2.out.at Fy.out; dsimp only [Ck.c0, Ck.c1] at cy0 cy1
            have fr := Hdb2.out.frozen
            have p0 : (0 : Int) ≤ (jp : Int) + 1 := by omega
            have e0 : ((jp : Int) + 1).toNat = jp + 1 := by omega
            have jz : (jp : Int) + 1 < (N : Int) := by omega
            have jz1 : (jp : Int) < (N : Int) := by omega
            have hwp : IntKind.i64.wrap (jp : Int) = (jp : Int) := by rw [IntKind.wrap_i64]; omega
            have jz2 : jp + 1 < N := by omega
            have jz3 : jp < N := by omega
            have ne0 : (jp + 1) * 2 ≠ jp * 2 := by omega
            have ne2 : jp + 1 ≠ jp := by omega
            have ne1 : (jp + 1) * 2 + 1 ≠ jp * 2 := by omega
            go_wp2
            go_big_region_o
            all_goals go_wp2
            refine ⟨⟨jp, L', y :: U2, rfl, by rw [E1.out]; simp, Ejp.out, by omega, by omega, ?_, GX.drew (by repeat (first | with_reducible exact hgx2 | refine GX.set ?_ _ _))⟩, by simp [intOf]⟩
            have h1 := (Hdb2.out.put (List.getElem?_eq_some_iff.1 Fx.out).1 y).put (i := jp) (by rw [List.length_set]; exact (List.getElem?_eq_some_iff.1 Fy.out).1) v
            have e := swap_adj (P ++ L') (U2 ++ S) v y
            rw [show (P ++ L').length = jp by simp; have := Ejp.out; have := Ea.out; omega] at e
            rw [show P ++ (L' ++ [y] ++ v :: (U2 ++ S)) = P ++ L' ++ y :: v :: (U2 ++ S) by simp, e] at h1
            rw [show P ++ (L' ++ v :: (y :: U2 ++ S)) = P ++ L' ++ v :: y :: (U2 ++ S) by simp]
            exact h1
          · obtain rfl : i = k := by omega
            have dk : decide ((i : Int) < (i : Int)) = false := by simp
            have hfin : ∃ M' : List α, M'.Perm (U ++ [v]) ∧ C.Up M' ∧ DY C rs wr g (P ++ (M' ++ S)) := by
              refine ⟨U1 ++ v :: U2, by rw [E1.out]; simpa using List.Perm.append_left U1 (List.perm_append_comm (l₁ := [v]) (l₂ := U2)), up_insert' (by rw [← E1.out]; exact HU.out) (fun y hy => ?_) (fun y hy => ?_), by have := Hdb2.out; simpa using this⟩
              · obtain ⟨t, ht, rfl⟩ := List.getElem_of_mem hy
                exact Lo.out t U1[t] (by rw [E1.out, List.getElem?_append_left ht]; exact List.getElem?_eq_getElem ht) (by have := Ek.out; omega)
              · obtain ⟨t, ht, rfl⟩ := List.getElem_of_mem hy
                have := Hi.out (U1.length + t) U2[t] (by rw [E1.out, List.getElem?_append_right (by omega), Nat.add_sub_cancel_left]; exact List.getElem?_eq_getElem ht) (by have := Ek.out; omega)
                omega
            have Hfin := Lib.hid hfin
            clear hfin
            go_wp2
            exact bodyPost_ret (by simp [results, Try.results100, Try.results94, Try.results70, go_sem]) rfl ⟨rfl, Hfin.out, hgx2⟩
end
def cmpR (x y : I) : Int := rowsG cmpV x.row y.row
structure Good (g : Nat) (w0 : World) (x : I) : Prop where
  sl : ∀ W, GX g w0 W → VSl W x.A x.row
  len : x.row.length ≤ 9223372036854775807
  rv : ∀ v ∈ x.row, RV v
theorem rowsG_trans' : ∀ xs ys zs : List V, rowsG ordV xs ys ≤ 0 → rowsG ordV ys zs ≤ 0 → rowsG ordV xs zs ≤ 0
  | [], ys, [], _, _ => by simp [rowsG]
  | [], ys, z :: zs, _, _ => by simp [rowsG]
  | x :: xs, [], zs, h, _ => by simp [rowsG] at h
  | x :: xs, y :: ys, [], _, h => by simp [rowsG] at h
  | x :: xs, y :: ys, z :: zs, h1, h2 => by
    have r1 := ordV_range x y
    have r2 := ordV_range y z
    have r3 := ordV_range x z
    have t1 := ordV_trans x y z
    have t2 := ordV_trans z x y
    have t3 := ordV_trans y z x
    have s1 := ordV_swap x y
    have s2 := ordV_swap y z
    have s3 := ordV_swap x z
    have ih := rowsG_trans' xs ys zs
    unfold rowsG at h1 h2 ⊢
    split at h1 <;> split at h2 <;> split <;> omega
theorem cmpR_trans {g : Nat} {w0 : World} {x y z : I} (hx : Good g w0 x) (hy : Good g w0 y) (hz : Good g w0 z) (h1 : cmpR x y ≤ 0) (h2 : cmpR y z ≤ 0) : cmpR x z ≤ 0 := by
  unfold cmpR at *
  rw [rows_cmp_ord _ _ hx.rv hy.rv] at h1
  rw [rows_cmp_ord _ _ hy.rv hz.rv] at h2
  rw [rows_cmp_ord _ _ hx.rv hz.rv]
  exact rowsG_trans' _ _ _ h1 h2
theorem cmpR_swap {g : Nat} {w0 : World} {x y : I} (hx : Good g w0 x) (hy : Good g w0 y) : cmpR y x = - cmpR x y := by
  unfold cmpR
  rw [rows_cmp_ord _ _ hx.rv hy.rv, rows_cmp_ord _ _ hy.rv hx.rv]
  exact rowsG_swap ordV ordV_swap _ _
abbrev Up (L : List I) : Prop := L.Pairwise (fun x y => cmpR x y ≤ 0)

theorem cmp_fn (x y : I) (g : Nat) (w0 w : World) (hx : Good g w0 x) (hy : Good g w0 y) (hg : GX g w0 w) : Calls Try.prog 78 #[x.val, y.val] w fun e w' => e = .returned (.int .i64 (cmpR x y)) ∧ Grow w w' := by
  have c := fun W (h : Grow w W) => vrows_any x.row y.row x.A y.A x.cap y.cap W hx.len hy.len (hx.sl _ (hg.grow h)) (hy.sl _ (hg.grow h))
  unfold I.val
  go_enter Try.func78, Try.ntmps78
  go_wp2_with (go_at_call 24; ((with_reducible refine (c _ growW).mono ?_); rintro e w' ⟨rfl, hg'⟩))
  go_ret
  exact ⟨rfl, growW⟩
end Go.Proofs.Ytamfpppbjaelaaa
