/-
 Joined texts of this claim: Tt0, Tt1, Tt2, Tt3. What each proves its own head says; no condition beside those that each theorem names.
-/
import Derived.Test.YtifpomonpneanaaGreatGH
import Derived.Shelf.SlicesQ.Reverse
import Derived.Test.YtifpomonpneanaaGreatGS
namespace Go.Proofs.YtifpomonpneanaaGreat
open Go.RowKit Go.Calm
set_option linter.unusedSimpArgs false
set_option linter.unusedVariables false
def DBx (w : World) (g : Nat) (xs : List I) : Prop := ∃ rest : List Value, Blk w g 47 (flatI xs ++ rest).toArray
theorem DBx.at {w : World} {g : Nat} {xs : List I} (h : DBx w g xs) {i : Nat} {x : I} (hx : xs[i]? = some x) : w.cell? ⟨g, i * 2, none⟩ = some (.slice x.A x.row.length x.cap) ∧ w.cell? ⟨g, i * 2 + 1, none⟩ = some (.int .i64 x.w) := by
 obtain ⟨r, h⟩ := h
 obtain ⟨a, b⟩ := flatI_get xs i x hx
 have la := (List.getElem?_eq_some_iff.1 a).1
 have lb := (List.getElem?_eq_some_iff.1 b).1
 rw [Blk.cell h, Blk.cell h]
 rw [List.getElem?_toArray, List.getElem?_toArray, List.getElem?_append_left la, List.getElem?_append_left lb]
 exact ⟨a, b⟩
theorem DBx.frozen {w : World} {g : Nat} {xs : List I} (h : DBx w g xs) (i : Nat) : w.frozen? ⟨g, i, none⟩ = false := by
 obtain ⟨r, h⟩ := h
 exact Blk.frozen h i
theorem DBx.grow {w w' : World} {g : Nat} {xs : List I} (h : DBx w g xs) (hg : Grow w w') : DBx w' g xs := by
 obtain ⟨r, h⟩ := h
 exact ⟨r, Blk.grow h hg⟩
theorem DBx.drew {w : World} {g : Nat} {xs : List I} (h : DBx w g xs) : DBx w.drew g xs := h
theorem DBx.put {w : World} {g : Nat} {xs : List I} (h : DBx w g xs) {i : Nat} (hi : i < xs.length) (y : I) : DBx ((w.setCell ⟨g, i * 2, none⟩ (.slice y.A y.row.length y.cap)).setCell ⟨g, i * 2 + 1, none⟩ (.int .i64 y.w)) g (xs.set i y) := by
 obtain ⟨r, h⟩ := h
 have hb := ((Blk.set h (i * 2) (.slice y.A y.row.length y.cap)).set (i * 2 + 1) (.int .i64 y.w))
 refine ⟨r, ?_⟩
 rw [← flatI_set xs i y hi]
 have l1 : i * 2 < (flatI xs).length := by rw [flatI_len]; omega
 have l2 : i * 2 + 1 < ((flatI xs).set (i * 2) (.slice y.A y.row.length y.cap)).length := by rw [List.length_set, flatI_len]; omega
 simp only [List.setIfInBounds_toArray, List.set_append_left _ _ l1, List.set_append_left _ _ l2] at hb
 exact hb
theorem own_db {w : World} {base n cap g : Nat} {xs : List I} (h : w.ownsRow base 47 2 (.slice (some ⟨g, 0, none⟩) n cap) n (flatI xs)) : DBx w g xs ∧ base ≤ g := by
 rcases h.2 with ⟨e, _⟩ | ⟨g', cap', cur, e, hB, hgb, _, _, _, ht⟩
 ·simp at e
 ·simp at e
  obtain ⟨rfl, rfl⟩ := e
  refine ⟨⟨cur.toList.drop (n * 2), ?_⟩, hB⟩
  unfold Blk
  rw [← ht, List.take_append_drop]
  simpa using hgb
theorem DBx.zin {w : World} {g : Nat} {xs : List I} (h : DBx w g xs) (hv : ∀ x ∈ xs, VSl w x.A x.row) : ZIn w (some ⟨g, 0, none⟩) xs := fun i x hx => by
 obtain ⟨a, b⟩ := h.at hx
 exact ⟨g, 0, rfl, by simpa using a, by simpa using b, hv x (List.mem_of_getElem? hx)⟩
set_option maxRecDepth 100000 in
set_option maxHeartbeats 4000000 in
theorem swap_rangeT (P X Q Y S : List I) (n a b N c : Nat) (hX : X.length = n) (hY : Y.length = n) (ha : a = P.length) (hb : b = P.length + n + Q.length) (hN : N = (P ++ (X ++ (Q ++ (Y ++ S)))).length) (hmax : N ≤ 1000000) (g : Nat) (F : Value) (w : World) (hd : DBx w g (P ++ (X ++ (Q ++ (Y ++ S))))) :
  Calls Tryz.prog 227 #[.slice (some ⟨g, 0, none⟩) N c, .int .i64 a, .int .i64 b, .int .i64 n, F] w fun en w' => en = .returned (.tuple #[]) ∧ DBx w' g (P ++ (Y ++ (Q ++ (X ++ S)))) ∧ GX g w w' := by
 have mixed : Tryz.prog.follows .mixedOrders = true := by kernel_rfl
 have Hd := Lib.hid hd
 have HX := Lib.hid hX
 have HY := Lib.hid hY
 have Ha := Lib.hid ha
 have Hb := Lib.hid hb
 have HN := Lib.hid hN
 have hN2 : N = P.length + n + Q.length + n + S.length := by rw [hN]; simp [hX, hY]; omega
 have hnb : b + n ≤ N := by omega
 have hna : a + n ≤ b := by omega
 clear hd hX hY ha hb hN hN2
 go_enter Tryz.func227, Tryz.ntmps227
 go_wp2
 go_loopw [10] (fun i wr => ∃ (k : Nat) (X1 X2 Y1 Y2 : List I), k ≤ n ∧ i = .int .i64 k ∧ X = X1 ++ X2 ∧ Y = Y1 ++ Y2 ∧ X1.length = k ∧ Y1.length = k ∧ DBx wr g (P ++ (Y1 ++ (X2 ++ (Q ++ (X1 ++ (Y2 ++ S)))))) ∧ GX g w wr) (fun i _ => n - (intOf i).toNat)
 case atStart => exact ⟨0, [], X, [], Y, Nat.zero_le _, rfl, rfl, rfl, rfl, rfl, Hd.out, GX.refl _ _⟩
 case round =>
  obtain ⟨k, X1, X2, Y1, Y2, hk, rfl, e1, e2, l1, l2, hdb, hgx⟩ := hrel
  have Hdb := Lib.hid hdb
  have E1 := Lib.hid e1
  have E2 := Lib.hid e2
  have L1 := Lib.hid l1
  have L2 := Lib.hid l2
  clear hdb e1 e2 l1 l2
  by_cases hlt : k < n
  ·obtain ⟨x, X3, rfl⟩ : ∃ x X3, X2 = x :: X3 := by
    match X2, E1 with
    | [], E1 => exfalso; have := HX.out; rw [E1.out] at this; simp at this; have := L1.out; omega
    | x :: X3, _ => exact ⟨x, X3, rfl⟩
   obtain ⟨y, Y3, rfl⟩ : ∃ y Y3, Y2 = y :: Y3 := by
    match Y2, E2 with
    | [], E2 => exfalso; have := HY.out; rw [E2.out] at this; simp at this; have := L2.out; omega
    | y :: Y3, _ => exact ⟨y, Y3, rfl⟩
   have hlX : X1.length + (X3.length + 1) = n := by have := HX.out; rw [E1.out] at this; simpa using this
   have fx : (P ++ (Y1 ++ (x :: X3 ++ (Q ++ (X1 ++ (y :: Y3 ++ S))))))[a + k]? = some x := by
    rw [← List.append_assoc]
    rw [show a + k = (P ++ Y1).length by rw [Ha.out, List.length_append, L2.out]]
    exact get_mid _ _ _
   have fy : (P ++ (Y1 ++ (x :: X3 ++ (Q ++ (X1 ++ (y :: Y3 ++ S))))))[b + k]? = some y := by
    rw [show P ++ (Y1 ++ (x :: X3 ++ (Q ++ (X1 ++ (y :: Y3 ++ S))))) = (P ++ (Y1 ++ (x :: X3 ++ (Q ++ X1)))) ++ y :: (Y3 ++ S) by simp]
    rw [show b + k = (P ++ (Y1 ++ (x :: X3 ++ (Q ++ X1)))).length by rw [Hb.out]; simp [L1.out, L2.out]; have := L1.out; omega]
    exact get_mid _ _ _
   obtain ⟨cx0, cx1⟩ := Hdb.out.at fx
   obtain ⟨cy0, cy1⟩ := Hdb.out.at fy
   have fr := Hdb.out.frozen
   have na : a + k < N := by omega
   have nb : b + k < N := by omega
   have ne0 : a + k ≠ b + k := by omega
   have Fx := Lib.hid fx
   have Fy := Lib.hid fy
   have HlX := Lib.hid hlX
   clear fx fy hlX
   go_wp2
   go_big_region_o
   all_goals go_wp2
   refine ⟨⟨k + 1, X1 ++ [x], X3, Y1 ++ [y], Y3, by omega, by go_num, by rw [E1.out]; simp, by rw [E2.out]; simp, by simp [L1.out], by simp [L2.out], ?_, GX.drew ((hgx.put _ _ _ _).put _ _ _ _)⟩, by simp [intOf]; omega⟩
   have h1 := (Hdb.out.put (List.getElem?_eq_some_iff.1 Fx.out).1 y).put (i := b + k) (by rw [List.length_set]; exact (List.getElem?_eq_some_iff.1 Fy.out).1) x
   have e := swap_list (P ++ Y1) (X3 ++ (Q ++ X1)) (Y3 ++ S) x y
   rw [show (P ++ Y1).length = a + k by rw [Ha.out, List.length_append, L2.out], show a + k + 1 + (X3 ++ (Q ++ X1)).length = b + k by have := HlX.out; have := L1.out; have := Hb.out; have := Ha.out; simp; omega] at e
   have e2 : P ++ (Y1 ++ (x :: X3 ++ (Q ++ (X1 ++ (y :: Y3 ++ S))))) = P ++ Y1 ++ x :: (X3 ++ (Q ++ X1) ++ y :: (Y3 ++ S)) := by simp
   rw [e2, e] at h1
   have e3 : P ++ Y1 ++ y :: (X3 ++ (Q ++ X1) ++ x :: (Y3 ++ S)) = P ++ (Y1 ++ [y] ++ (X3 ++ (Q ++ (X1 ++ [x] ++ (Y3 ++ S))))) := by simp
   rw [e3] at h1
   exact h1
  ·have e1 : X1 = X ∧ X2 = [] := by
    have h := HX.out
    rw [E1.out, List.length_append, L1.out] at h
    have : X2 = [] := List.length_eq_zero_iff.1 (by omega)
    exact ⟨by rw [E1.out, this]; simp, this⟩
   have e2 : Y1 = Y ∧ Y2 = [] := by
    have h := HY.out
    rw [E2.out, List.length_append, L2.out] at h
    have : Y2 = [] := List.length_eq_zero_iff.1 (by omega)
    exact ⟨by rw [E2.out, this]; simp, this⟩
   have hfin : DBx wr g (P ++ (Y ++ (Q ++ (X ++ S)))) := by
    have := Hdb.out
    rw [e1.1, e1.2, e2.1, e2.2] at this
    simpa using this
   have Hfin := Lib.hid hfin
   clear hfin e1 e2
   go_wp2
   go_end0
   exact ⟨rfl, Hfin.out, hgx⟩
theorem swap_rangeT2 (P X Q Y S : List I) (aI bI nI : Int) (n N c : Nat) (hX : X.length = n) (hY : Y.length = n) (ha : aI = P.length) (hb : bI = P.length + n + Q.length) (hn : nI = n) (hN : N = (P ++ (X ++ (Q ++ (Y ++ S)))).length) (hmax : N ≤ 1000000) (g : Nat) (F : Value) (w : World) (hd : DBx w g (P ++ (X ++ (Q ++ (Y ++ S))))) :
  Calls Tryz.prog 227 #[.slice (some ⟨g, 0, none⟩) N c, .int .i64 aI, .int .i64 bI, .int .i64 nI, F] w fun en w' => en = .returned (.tuple #[]) ∧ DBx w' g (P ++ (Y ++ (Q ++ (X ++ S)))) ∧ GX g w w' := by
 obtain rfl : aI = ((P.length : Nat) : Int) := ha
 obtain rfl : bI = ((P.length + n + Q.length : Nat) : Int) := by rw [hb]; simp
 subst hn
 exact swap_rangeT P X Q Y S n _ _ N c hX hY rfl rfl hN hmax g F w hd
set_option maxRecDepth 100000 in
set_option maxHeartbeats 4000000 in
theorem rotateT (P U V S : List I) (aI mI bI : Int) (N c : Nat) (ha : aI = P.length) (hm : mI = P.length + U.length) (hb : bI = P.length + U.length + V.length) (hU : 1 ≤ U.length) (hV : 1 ≤ V.length) (hN : N = (P ++ (U ++ (V ++ S))).length) (hmax : N ≤ 1000000) (g : Nat) (F : Value) (w : World) (hd : DBx w g (P ++ (U ++ (V ++ S)))) :
  Calls Tryz.prog 221 #[.slice (some ⟨g, 0, none⟩) N c, .int .i64 aI, .int .i64 mI, .int .i64 bI, F] w fun en w' => en = .returned (.tuple #[]) ∧ DBx w' g (P ++ (V ++ (U ++ S))) ∧ GX g w w' := by
 obtain ⟨m, em⟩ : ∃ m : Nat, m = P.length + U.length := ⟨_, rfl⟩
 obtain rfl : mI = (m : Int) := by omega
 have hN' : N = P.length + U.length + V.length + S.length := by rw [hN]; simp; omega
 have hmN : m + V.length ≤ N := by omega
 have w1 : aI = (P.length : Int) := ha
 have bd1 : (m : Int) - aI = U.length := by omega
 have bd2 : bI - (m : Int) = V.length := by omega
 have b1 : 0 ≤ aI ∧ aI ≤ 1000000 := by omega
 have b2 : 0 ≤ bI ∧ bI ≤ 1000000 := by omega
 obtain ⟨b1a, b1b⟩ := b1
 obtain ⟨b2a, b2b⟩ := b2
 have Hd := Lib.hid hd
 have HN := Lib.hid hN'
 have Em := Lib.hid em
 clear hd hN hN' em ha hm hb w1
 go_enter Tryz.func221, Tryz.ntmps221
 go_wp2
 go_loopw [10, 11] (fun i j wr => ∃ (ki kj : Nat) (P' X Y S' : List I), i = .int .i64 ki ∧ j = .int .i64 kj ∧ X.length = ki ∧ Y.length = kj ∧ 1 ≤ ki ∧ 1 ≤ kj ∧ P'.length + ki = m ∧ m + kj ≤ N ∧ N = (P' ++ (X ++ (Y ++ S'))).length ∧ DBx wr g (P' ++ (X ++ (Y ++ S'))) ∧ P' ++ (Y ++ (X ++ S')) = P ++ (V ++ (U ++ S)) ∧ GX g w wr) (fun i j _ => (intOf i).toNat + (intOf j).toNat)
 case atStart => exact ⟨U.length, V.length, P, U, V, S, by go_num, by go_num, rfl, rfl, hU, hV, Em.out.symm, hmN, by rw [HN.out]; simp; omega, Hd.out, rfl, GX.refl _ _⟩
 case round =>
  obtain ⟨ki, kj, P', X, Y, S', rfl, rfl, lX, lY, h1, h2, hP, hj, hlen, hdb, htgt, hgx⟩ := hrel
  have LX := Lib.hid lX
  have LY := Lib.hid lY
  have HP := Lib.hid hP
  have Hlen := Lib.hid hlen
  have Hdb := Lib.hid hdb
  have Tgt := Lib.hid htgt
  have hkm : ki ≤ m := by omega
  clear lX lY hP hlen hdb htgt
  rcases Nat.lt_trichotomy ki kj with hlt | heq | hgt
  ·have d1 : ((ki : Int) != (kj : Int)) = true := by simp; omega
   have d2 : decide ((kj : Int) < (ki : Int)) = false := by simp; omega
   obtain ⟨Y1, Y2, rfl, hY2⟩ : ∃ Y1 Y2, Y = Y1 ++ Y2 ∧ Y2.length = ki := ⟨Y.take (kj - ki), Y.drop (kj - ki), by simp, by have := LY.out; simp; omega⟩
   have hY1 : Y1.length = kj - ki := by have := LY.out; simp at this; omega
   have HY1 := Lib.hid hY1
   have HY2 := Lib.hid hY2
   clear hY1 hY2
   have cs := swap_rangeT2 P' X Y1 Y2 S' ((m : Int) - ki) ((m : Int) + kj - ki) ki ki N c LX.out HY2.out (by have := HP.out; omega) (by have := HP.out; have := HY1.out; omega) rfl (by rw [Hlen.out]; simp) hmax g F wr (by have := Hdb.out; simpa using this)
   go_wp2_with (go_at_call 227; ((with_reducible refine cs.mono ?_); rintro en w2 ⟨rfl, hd2, hg2⟩))
   go_roundw
   case rel =>
    refine ⟨ki, kj - ki, P', Y2, Y1, X ++ S', rfl, by go_num, HY2.out, HY1.out, h1, by omega, HP.out, by omega, ?_, hd2, ?_, hgx.trans hg2⟩
    ·rw [Hlen.out]; simp; omega
    ·rw [← Tgt.out]; simp
   case measure => simp [intOf]; omega
  ·subst heq
   have d1 : ((ki : Int) != (ki : Int)) = false := by simp
   have cs := swap_rangeT2 P' X [] Y S' ((m : Int) - ki) m ki ki N c LX.out LY.out (by have := HP.out; omega) (by have := HP.out; simp; omega) rfl (by rw [Hlen.out]; simp) hmax g F wr (by have := Hdb.out; simpa using this)
   go_wp2_with (go_at_call 227; ((with_reducible refine cs.mono ?_); rintro en w2 ⟨rfl, hd2, hg2⟩))
   have hfin : DBx w2 g (P ++ (V ++ (U ++ S))) := by rw [← Tgt.out]; simpa using hd2
   have Hfin := Lib.hid hfin
   clear hfin hd2
   go_end0
   exact ⟨rfl, Hfin.out, hgx.trans hg2⟩
  ·have d1 : ((ki : Int) != (kj : Int)) = true := by simp; omega
   have d2 : decide ((kj : Int) < (ki : Int)) = true := by simp; omega
   obtain ⟨X1, X2, rfl, hX1⟩ : ∃ X1 X2, X = X1 ++ X2 ∧ X1.length = kj := ⟨X.take kj, X.drop kj, by simp, by have := LX.out; simp; omega⟩
   have hX2 : X2.length = ki - kj := by have := LX.out; simp at this; omega
   have HX1 := Lib.hid hX1
   have HX2 := Lib.hid hX2
   clear hX1 hX2
   have cs := swap_rangeT2 P' X1 X2 Y S' ((m : Int) - ki) m kj kj N c HX1.out LY.out (by have := HP.out; omega) (by have := HP.out; have := HX2.out; omega) rfl (by rw [Hlen.out]; simp) hmax g F wr (by have := Hdb.out; simpa using this)
   go_wp2_with (go_at_call 227; ((with_reducible refine cs.mono ?_); rintro en w2 ⟨rfl, hd2, hg2⟩))
   go_roundw
   case rel =>
    refine ⟨ki - kj, kj, P' ++ Y, X2, X1, S', by go_num, rfl, HX2.out, HX1.out, by omega, h2, ?_, hj, ?_, by simpa using hd2, ?_, hgx.trans hg2⟩
    ·have := HP.out; have := LY.out; simp; omega
    ·rw [Hlen.out]; simp; omega
    ·rw [← Tgt.out]; simp
   case measure => simp [intOf]; omega
structure KS where
 es : List E
 A : Option Addr
 c : Nat
 gk : Nat
def keyT (K : KS) (x : I) : List V := K.es.map (ofE x.row)
def cmpK (K : KS) (x y : I) : Int := rowsG cmpV (keyT K x) (keyT K y)
def cmpT (K : KS) (x y : I) : Int := if rowsG ordV (keyT K x) (keyT K y) ≠ 0 then rowsG ordV (keyT K x) (keyT K y) else rowsG ordV x.row y.row
def tg (x y : I) : Prop := ordR x.row y.row < 0
structure GoodT (K : KS) (g : Nat) (w0 : World) (x : I) : Prop where
 sl : ∀ W, GX g w0 W → VSl W x.A x.row
 ks : ∀ W, GX g w0 W → Blk W K.gk 25 #[.slice K.A K.es.length K.c] ∧ ESl W K.A K.es
 len : x.row.length ≤ 9223372036854775807
 kl : K.es.length ≤ 1000
 rv : ∀ v ∈ x.row, RV v
 re : ∀ e ∈ K.es, RE x.row.length e
theorem GoodT.kv {K : KS} {g : Nat} {w0 : World} {x : I} (h : GoodT K g w0 x) : ∀ v ∈ keyT K x, RV v := fun v hv => by
 obtain ⟨e, he, rfl⟩ := List.mem_map.1 hv
 exact rv_of x.row h.rv e (h.re e he)
theorem cmpT_swap {K : KS} {g : Nat} {w0 : World} {x y : I} (hx : GoodT K g w0 x) (hy : GoodT K g w0 y) : cmpT K y x = - cmpT K x y := by
 have h1 := rowsG_swap ordV ordV_swap (keyT K x) (keyT K y)
 have h2 := rowsG_swap ordV ordV_swap x.row y.row
 unfold cmpT
 split <;> split <;> omega
theorem cmpT_self {K : KS} {g : Nat} {w0 : World} {x : I} (hx : GoodT K g w0 x) : cmpT K x x = 0 := by
 have := cmpT_swap hx hx
 omega
theorem rows_tr (a b c : List V) : (rowsG ordV a b ≤ 0 → rowsG ordV b c ≤ 0 → rowsG ordV a c ≤ 0) ∧ (rowsG ordV a b ≤ 0 → rowsG ordV b c ≤ 0 → rowsG ordV a c = 0 → rowsG ordV a b = 0 ∧ rowsG ordV b c = 0) := by
 have t1 := rowsG_trans' a b c
 have t2 := rowsG_trans' c a b
 have t3 := rowsG_trans' b c a
 have s1 := rowsG_swap ordV ordV_swap a b
 have s2 := rowsG_swap ordV ordV_swap b c
 have s3 := rowsG_swap ordV ordV_swap a c
 refine ⟨t1, fun h1 h2 h3 => ?_⟩
 omega
theorem cmpT_trans {K : KS} {g : Nat} {w0 : World} {x y z : I} (hx : GoodT K g w0 x) (hy : GoodT K g w0 y) (hz : GoodT K g w0 z) (h1 : cmpT K x y ≤ 0) (h2 : cmpT K y z ≤ 0) : cmpT K x z ≤ 0 := by
 have k := rows_tr (keyT K x) (keyT K y) (keyT K z)
 have r := rows_tr x.row y.row z.row
 unfold cmpT at *
 split at h1 <;> split at h2 <;> split <;> omega
abbrev UpT (K : KS) (L : List I) : Prop := L.Pairwise (fun x y => cmpT K x y ≤ 0)
theorem cmpK_lt {K : KS} {g : Nat} {w0 : World} {x y : I} (hx : GoodT K g w0 x) (hy : GoodT K g w0 y) (ht : tg y x) : cmpT K x y < 0 ↔ cmpK K x y < 0 := by
 have e := rows_cmp_ord (keyT K x) (keyT K y) hx.kv hy.kv
 have s := rowsG_swap ordV ordV_swap x.row y.row
 unfold tg ordR at ht
 unfold cmpT cmpK
 rw [e]
 split <;> omega
theorem own_vs2 {w : World} {base cap n : Nat} {B : Option Addr} {ys : List V} (hn : ys.length = n) (h : w.ownsRow base 24 3 (.slice B n cap) n (flatW ys)) : VSl w B ys := by
 rw [← hn] at h
 obtain ⟨B', c', e, hv⟩ := own_vsl h
 simp at e
 rw [e.1]; exact hv
def PVs (n : Nat) (vs : List V) (v : Value) (W : World) : Prop := ∃ (B : Option Addr) (cap : Nat), v = .slice B n cap ∧ VSl W B vs
set_option maxRecDepth 100000 in
set_option maxHeartbeats 2000000 in
theorem cmp_fnT (K : KS) (x y : I) (g : Nat) (w0 w : World) (hx : GoodT K g w0 x) (hy : GoodT K g w0 y) (hg : GX g w0 w) : Calls Tryz.prog 151 #[x.val, y.val, .pointer (some ⟨K.gk, 0, none⟩)] w fun e w' => e = .returned (.int .i64 (cmpK K x y)) ∧ Grow w w' := by
 have cx := fun W (h : Grow w W) => values_any K.es K.A K.c x.row x.A x.cap W hx.kl hx.len (hx.ks _ (hg.grow h)).2 hx.re hx.rv (hx.sl _ (hg.grow h))
 have cy := fun W (h : Grow w W) => values_any K.es K.A K.c y.row y.A y.cap W hx.kl hy.len (hx.ks _ (hg.grow h)).2 hy.re hy.rv (hy.sl _ (hg.grow h))
 have KB := Lib.hid (hx.ks _ hg).1
 have lk := hx.kl
 obtain ⟨KX, hKX⟩ : ∃ q, K.es.map (ofE x.row) = q := ⟨_, rfl⟩
 obtain ⟨KY, hKY⟩ : ∃ q, K.es.map (ofE y.row) = q := ⟨_, rfl⟩
 have lx : KX.length = K.es.length := by rw [← hKX]; simp
 have ly : KY.length = K.es.length := by rw [← hKY]; simp
 rw [hKX] at cx
 rw [hKY] at cy
 have fin : cmpK K x y = rowsG cmpV KX KY := by unfold cmpK keyT; rw [hKX, hKY]
 rw [fin]
 have cr := fun B1 c1 B2 c2 W (h1 : VSl W B1 KX) (h2 : VSl W B2 KY) => vrows_any KX KY B1 B2 c1 c2 W (by omega) (by omega) h1 h2
 rw [lx, ly] at cr
 have Lx := Lib.hid lx
 have Ly := Lib.hid ly
 clear hKX hKY fin hx hy hg lx ly
 unfold I.val
 go_enter Tryz.func151, Tryz.ntmps151
 go_upto_region 1 with fail
 refine wp_forget (fun X => Blk X w.heap.size 47 #[.slice x.A x.row.length x.cap, .int .i64 x.w] ∧ Blk X (w.heap.size + 1) 47 #[.slice y.A y.row.length y.cap, .int .i64 y.w] ∧ Grow w X) ⟨(Blk.new _ _ _).grow ((Grow.refl _).al _), Blk.new' _ _ _ (by simp), ((Grow.refl _).al _).al _⟩ ?_
 generalize w.heap.size + 1 = g2
 generalize w.heap.size = g1
 rintro X ⟨B1, B2, G⟩
 have BX := Lib.hid B1
 have BY := Lib.hid B2
 have BK := Lib.hid (KB.out.grow G)
 clear B1 B2 KB
 apply wp_region_calm 10 (by kernel_rfl) (by kernel_rfl)
 case h' =>
  intro Q0 hQ0
  simp only [List.take_succ_cons, List.take_zero]
  repeat (
   first
    | (apply calm_p rfl; case h1 => (intro w1 hw1 hF K hK; obtain ⟨bx, fx⟩ := (BX.out.grow hw1).rules; obtain ⟨by1, fy⟩ := (BY.out.grow hw1).rules; obtain ⟨bk, fk⟩ := (BK.out.grow hw1).rules; go_simp; first | exact hK _ (Grow.refl _) | fail))
    | (apply calm_y rfl rfl rfl; case h1 => (intro w1 hw1 hF K hK; obtain ⟨bx, fx⟩ := (BX.out.grow hw1).rules; obtain ⟨by1, fy⟩ := (BY.out.grow hw1).rules; obtain ⟨bk, fk⟩ := (BK.out.grow hw1).rules; go_simp; first | exact hK _ (Grow.refl _) | fail))
    | apply calm_n rfl rfl rfl rfl
   intro K hK
   go_simp
   apply hK
   clear hK K)
  apply calm_fp (PVs K.es.length KX) rfl
  case h1 =>
   intro w1 hw1 hF K1 hK1
   go_simp
   go_at_call 142
   refine (cx w1 (G.trans hw1)).mono ?_
   rintro en w' ⟨B, cap, rfl, ho, hg'⟩
   exact ⟨_, rfl, hK1 _ _ hg' ⟨B, cap, rfl, own_vs2 Lx.out ho⟩⟩
  intro v9 K1 hK1
  go_simp
  apply hK1
  clear hK1 K1
  repeat (
   first
    | (apply calm_p rfl; case h1 => (intro w1 hw1 hF K hK; obtain ⟨bx, fx⟩ := (BX.out.grow hw1).rules; obtain ⟨by1, fy⟩ := (BY.out.grow hw1).rules; obtain ⟨bk, fk⟩ := (BK.out.grow hw1).rules; go_simp; first | exact hK _ (Grow.refl _) | fail))
    | (apply calm_y rfl rfl rfl; case h1 => (intro w1 hw1 hF K hK; obtain ⟨bx, fx⟩ := (BX.out.grow hw1).rules; obtain ⟨by1, fy⟩ := (BY.out.grow hw1).rules; obtain ⟨bk, fk⟩ := (BK.out.grow hw1).rules; go_simp; first | exact hK _ (Grow.refl _) | fail))
    | apply calm_n rfl rfl rfl rfl
   intro K hK
   go_simp
   apply hK
   clear hK K)
  apply calm_fp (PVs K.es.length KY) rfl
  case h1 =>
   intro w1 hw1 hF K1 hK1
   go_simp
   go_at_call 142
   refine (cy w1 (G.trans hw1)).mono ?_
   rintro en w' ⟨B, cap, rfl, ho, hg'⟩
   exact ⟨_, rfl, hK1 _ _ hg' ⟨B, cap, rfl, own_vs2 Ly.out ho⟩⟩
  intro v13 K1 hK1
  go_simp
  apply hK1
  clear hK1 K1
  apply calm_p rfl
  case h1 =>
   intro w1 hw1 hF K1 hK1
   obtain ⟨B2, c2, hv2, h2⟩ := hF _ (List.mem_cons_self ..) ⟨_, rfl, by decide⟩
   obtain ⟨B1, c1, hv1, h1⟩ := hF _ (List.mem_cons_of_mem _ (List.mem_cons_self ..)) ⟨_, rfl, by decide⟩
   subst hv1 hv2
   go_simp
   go_at_call 44
   refine (cr B1 c1 B2 c2 w1 h1 h2).mono ?_
   rintro en w' ⟨rfl, hg'⟩
   exact ⟨_, rfl, hK1 _ hg'⟩
  intro K1 hK1
  go_simp
  apply hK1
  clear hK1 K1
  repeat (
   first
    | (apply calm_p rfl; case h1 => (intro w1 hw1 hF K hK; obtain ⟨bx, fx⟩ := (BX.out.grow hw1).rules; go_simp; first | exact hK _ (Grow.refl _) | fail))
    | (apply calm_y rfl rfl rfl; case h1 => (intro w1 hw1 hF K hK; obtain ⟨bx, fx⟩ := (BX.out.grow hw1).rules; go_simp; first | exact hK _ (Grow.refl _) | fail))
    | apply calm_n rfl rfl rfl rfl
   intro K hK
   go_simp
   apply hK
   clear hK K)
  refine calm_nil ?_
  intro w1 hw1 hF
  apply hQ0
  clear hQ0
  simp only [List.drop_succ_cons, List.drop_zero]
  clear hF
  go_wp2
  go_ret
  exact ⟨rfl, G.trans hw1⟩
 case hp' => exact ⟨fun v w w' hg ⟨B, c, e, h⟩ => ⟨B, c, e, h.grow hg⟩, fun v w w' hg ⟨B, c, e, h⟩ => ⟨B, c, e, h.grow hg⟩, trivial⟩
end Go.Proofs.YtifpomonpneanaaGreat
