/-
 Joined texts of this claim: Jt0, Jt1, Jt2, Jt3, Jt4, Jt5, Jt6. What each proves its own head says; no condition beside those that each theorem names.
-/
import Derived.Test.YtifpomonpneanaaGreatGTd
import Derived.Shelf.SlicesQ.Reverse
import Derived.Deep.DeepCutAuto
namespace Go.Proofs.YtifpomonpneanaaGreat
open Go.RowKit Go.Calm
set_option linter.unusedSimpArgs false
set_option linter.unusedVariables false
structure J where
 A : Option Addr
 row : List V
 cap : Nat
 x : I
 b : Nat
instance : Inhabited J := ⟨⟨none, [], 0, default, 0⟩⟩
abbrev J.val (x : J) : Value := .agg #[.slice x.A x.row.length x.cap, .slice (some ⟨x.b, 0, none⟩) 1 1]
def flatJ : List J → List Value
 | [] => []
 | x :: xs => .slice x.A x.row.length x.cap :: .slice (some ⟨x.b, 0, none⟩) 1 1 :: flatJ xs
theorem flatJ_len : ∀ xs : List J, (flatJ xs).length = xs.length * 2
 | [] => rfl
 | x :: xs => by simp [flatJ, flatJ_len xs]; omega
theorem flatJ_get : ∀ (xs : List J) (i : Nat) (x : J), xs[i]? = some x → (flatJ xs)[i * 2]? = some (.slice x.A x.row.length x.cap) ∧ (flatJ xs)[i * 2 + 1]? = some (.slice (some ⟨x.b, 0, none⟩) 1 1)
 | [], i, x, h => by simp at h
 | y :: ys, 0, x, h => by simp at h; subst h; simp [flatJ]
 | y :: ys, i + 1, x, h => by
  have := flatJ_get ys i x (by simpa using h)
  rw [show (i + 1) * 2 = i * 2 + 2 by omega]
  simpa [flatJ] using this
theorem flatJ_set : ∀ (xs : List J) (i : Nat) (y : J), i < xs.length → ((flatJ xs).set (i * 2) (.slice y.A y.row.length y.cap)).set (i * 2 + 1) (.slice (some ⟨y.b, 0, none⟩) 1 1) = flatJ (xs.set i y)
 | [], i, y, h => by simp at h
 | x :: xs, 0, y, h => by simp [flatJ]
 | x :: xs, i + 1, y, h => by
  have := flatJ_set xs i y (by simpa using h)
  rw [show (i + 1) * 2 = i * 2 + 1 + 1 by omega]
  simp only [flatJ, List.set_cons_succ]
  rw [← this]
theorem flatJ_append : ∀ xs ys : List J, flatJ (xs ++ ys) = flatJ xs ++ flatJ ys
 | [], ys => rfl
 | x :: xs, ys => by simp [flatJ, flatJ_append xs ys]
def DBxJ (w : World) (g : Nat) (xs : List J) : Prop := ∃ rest : List Value, Blk w g 199 (flatJ xs ++ rest).toArray
theorem DBxJ.lt {w : World} {g : Nat} {xs : List J} (h : DBxJ w g xs) : g < w.heap.size := by
 obtain ⟨r, h⟩ := h
 exact Blk.lt h
theorem DBxJ.at {w : World} {g : Nat} {xs : List J} (h : DBxJ w g xs) {i : Nat} {x : J} (hx : xs[i]? = some x) : w.cell? ⟨g, i * 2, none⟩ = some (.slice x.A x.row.length x.cap) ∧ w.cell? ⟨g, i * 2 + 1, none⟩ = some (.slice (some ⟨x.b, 0, none⟩) 1 1) := by
 obtain ⟨r, h⟩ := h
 obtain ⟨a, b⟩ := flatJ_get xs i x hx
 have la := (List.getElem?_eq_some_iff.1 a).1
 have lb := (List.getElem?_eq_some_iff.1 b).1
 rw [Blk.cell h, Blk.cell h]
 rw [List.getElem?_toArray, List.getElem?_toArray, List.getElem?_append_left la, List.getElem?_append_left lb]
 exact ⟨a, b⟩
theorem DBxJ.frozen {w : World} {g : Nat} {xs : List J} (h : DBxJ w g xs) (i : Nat) : w.frozen? ⟨g, i, none⟩ = false := by
 obtain ⟨r, h⟩ := h
 exact Blk.frozen h i
theorem DBxJ.grow {w w' : World} {g : Nat} {xs : List J} (h : DBxJ w g xs) (hg : Grow w w') : DBxJ w' g xs := by
 obtain ⟨r, h⟩ := h
 exact ⟨r, Blk.grow h hg⟩
theorem DBxJ.drew {w : World} {g : Nat} {xs : List J} (h : DBxJ w g xs) : DBxJ w.drew g xs := h
theorem DBxJ.put {w : World} {g : Nat} {xs : List J} (h : DBxJ w g xs) {i : Nat} (hi : i < xs.length) (y : J) : DBxJ ((w.setCell ⟨g, i * 2, none⟩ (.slice y.A y.row.length y.cap)).setCell ⟨g, i * 2 + 1, none⟩ (.slice (some ⟨y.b, 0, none⟩) 1 1)) g (xs.set i y) := by
 obtain ⟨r, h⟩ := h
 have hb := ((Blk.set h (i * 2) (.slice y.A y.row.length y.cap)).set (i * 2 + 1) (.slice (some ⟨y.b, 0, none⟩) 1 1))
 refine ⟨r, ?_⟩
 rw [← flatJ_set xs i y hi]
 have l1 : i * 2 < (flatJ xs).length := by rw [flatJ_len]; omega
 have l2 : i * 2 + 1 < ((flatJ xs).set (i * 2) (.slice y.A y.row.length y.cap)).length := by rw [List.length_set, flatJ_len]; omega
 simp only [List.setIfInBounds_toArray, List.set_append_left _ _ l1, List.set_append_left _ _ l2] at hb
 exact hb
theorem own_dbJ {w : World} {base n cap g : Nat} {xs : List J} (h : w.ownsRow base 199 2 (.slice (some ⟨g, 0, none⟩) n cap) n (flatJ xs)) : DBxJ w g xs ∧ base ≤ g := by
 rcases h.2 with ⟨e, _⟩ | ⟨g', cap', cur, e, hB, hgb, _, _, _, ht⟩
 ·simp at e
 ·simp at e
  obtain ⟨rfl, rfl⟩ := e
  refine ⟨⟨cur.toList.drop (n * 2), ?_⟩, hB⟩
  unfold Blk
  rw [← ht, List.take_append_drop]
  simpa using hgb
theorem set_midJ (L R : List J) (x y : J) (n : Nat) (hn : n = L.length) : (L ++ x :: R).set n y = L ++ y :: R := by
 subst hn
 induction L with
 | nil => rfl
 | cons a L ih => simp [ih]
theorem swap_listJ (L1 L2 L3 : List J) (x y : J) : ((L1 ++ x :: (L2 ++ y :: L3)).set L1.length y).set (L1.length + 1 + L2.length) x = L1 ++ y :: (L2 ++ x :: L3) := by
 rw [set_midJ L1 _ x y _ rfl, show L1 ++ y :: (L2 ++ y :: L3) = (L1 ++ y :: L2) ++ y :: L3 by simp, set_midJ _ _ y x _ (by simp; omega)]
 simp
theorem get_midJ (L : List J) (x : J) (R : List J) : (L ++ x :: R)[L.length]? = some x := by simp
theorem swap_adjJ (L1 R : List J) (x y : J) : ((L1 ++ y :: x :: R).set (L1.length + 1) y).set L1.length x = L1 ++ x :: y :: R := by
 rw [show L1 ++ y :: x :: R = (L1 ++ [y]) ++ x :: R by simp, set_midJ (L1 ++ [y]) R x y _ (by simp), show (L1 ++ [y]) ++ y :: R = L1 ++ y :: (y :: R) by simp, set_midJ L1 _ y x _ rfl]
theorem mergedJ {U1 V1 U2 V2 M1 M2 : List J} (p1 : M1.Perm (U1 ++ V1)) (p2 : M2.Perm (U2 ++ V2)) : (M1 ++ M2).Perm (U1 ++ U2 ++ (V1 ++ V2)) := by
 refine (p1.append p2).trans ?_
 simp only [List.append_assoc]
 refine List.Perm.append_left U1 ?_
 rw [← List.append_assoc, ← List.append_assoc U2]
 exact List.Perm.append_right V2 List.perm_append_comm
set_option maxRecDepth 100000 in
set_option maxHeartbeats 4000000 in
theorem swap_rangeTJ (P X Q Y S : List J) (n a b N c : Nat) (hX : X.length = n) (hY : Y.length = n) (ha : a = P.length) (hb : b = P.length + n + Q.length) (hN : N = (P ++ (X ++ (Q ++ (Y ++ S)))).length) (hmax : N ≤ 1000000) (g : Nat) (F : Value) (w : World) (hd : DBxJ w g (P ++ (X ++ (Q ++ (Y ++ S))))) :
  Calls Tryz.prog 229 #[.slice (some ⟨g, 0, none⟩) N c, .int .i64 a, .int .i64 b, .int .i64 n, F] w fun en w' => en = .returned (.tuple #[]) ∧ DBxJ w' g (P ++ (Y ++ (Q ++ (X ++ S)))) ∧ GX g w w' := by
 have mixed : Tryz.prog.follows .mixedOrders = true := by kernel_rfl
 have Hd := Lib.hid hd
 have HX := Lib.hid hX
 have HY := Lib.hid hY
 have Ha := Lib.hid ha
 have Hb := Lib.hid hb
 have HN := Lib.hid hN
 have hN2 : N = P.length + n + Q.length + n + S.length := by rw [hN]; simp [hX, hY]; omega
 have hnb : b + n ≤ N := by omega
 have hna : a + n ≤ b := by omega
 clear hd hX hY ha hb hN hN2
 go_enter Tryz.func229, Tryz.ntmps229
 go_wp2
 go_loopw [10] (fun i wr => ∃ (k : Nat) (X1 X2 Y1 Y2 : List J), k ≤ n ∧ i = .int .i64 k ∧ X = X1 ++ X2 ∧ Y = Y1 ++ Y2 ∧ X1.length = k ∧ Y1.length = k ∧ DBxJ wr g (P ++ (Y1 ++ (X2 ++ (Q ++ (X1 ++ (Y2 ++ S)))))) ∧ GX g w wr) (fun i _ => n - (intOf i).toNat)
 case atStart => exact ⟨0, [], X, [], Y, Nat.zero_le _, rfl, rfl, rfl, rfl, rfl, Hd.out, GX.refl _ _⟩
 case round =>
  obtain ⟨k, X1, X2, Y1, Y2, hk, rfl, e1, e2, l1, l2, hdb, hgx⟩ := hrel
  have Hdb := Lib.hid hdb
  have E1 := Lib.hid e1
  have E2 := Lib.hid e2
  have L1 := Lib.hid l1
  have L2 := Lib.hid l2
  clear hdb e1 e2 l1 l2
  by_cases hlt : k < n
  ·obtain ⟨x, X3, rfl⟩ : ∃ x X3, X2 = x :: X3 := by
    match X2, E1 with
    | [], E1 => exfalso; have := HX.out; rw [E1.out] at this; simp at this; have := L1.out; omega
    | x :: X3, _ => exact ⟨x, X3, rfl⟩
   obtain ⟨y, Y3, rfl⟩ : ∃ y Y3, Y2 = y :: Y3 := by
    match Y2, E2 with
    | [], E2 => exfalso; have := HY.out; rw [E2.out] at this; simp at this; have := L2.out; omega
    | y :: Y3, _ => exact ⟨y, Y3, rfl⟩
   have hlX : X1.length + (X3.length + 1) = n := by have := HX.out; rw [E1.out] at this; simpa using this
   have fx : (P ++ (Y1 ++ (x :: X3 ++ (Q ++ (X1 ++ (y :: Y3 ++ S))))))[a + k]? = some x := by
    rw [← List.append_assoc]
    rw [show a + k = (P ++ Y1).length by rw [Ha.out, List.length_append, L2.out]]
    exact get_midJ _ _ _
   have fy : (P ++ (Y1 ++ (x :: X3 ++ (Q ++ (X1 ++ (y :: Y3 ++ S))))))[b + k]? = some y := by
    rw [show P ++ (Y1 ++ (x :: X3 ++ (Q ++ (X1 ++ (y :: Y3 ++ S))))) = (P ++ (Y1 ++ (x :: X3 ++ (Q ++ X1)))) ++ y :: (Y3 ++ S) by simp]
    rw [show b + k = (P ++ (Y1 ++ (x :: X3 ++ (Q ++ X1)))).length by rw [Hb.out]; simp [L1.out, L2.out]; have := L1.out; omega]
    exact get_midJ _ _ _
   obtain ⟨cx0, cx1⟩ := Hdb.out.at fx
   obtain ⟨cy0, cy1⟩ := Hdb.out.at fy
   have fr := Hdb.out.frozen
   have na : a + k < N := by omega
   have nb : b + k < N := by omega
   have ne0 : a + k ≠ b + k := by omega
   have Fx := Lib.hid fx
   have Fy := Lib.hid fy
   have HlX := Lib.hid hlX
   clear fx fy hlX
   go_wp2
   go_big_region_o
   all_goals go_wp2
   refine ⟨⟨k + 1, X1 ++ [x], X3, Y1 ++ [y], Y3, by omega, by go_num, by rw [E1.out]; simp, by rw [E2.out]; simp, by simp [L1.out], by simp [L2.out], ?_, GX.drew ((hgx.put _ _ _ _).put _ _ _ _)⟩, by simp [intOf]; omega⟩
   have h1 := (Hdb.out.put (List.getElem?_eq_some_iff.1 Fx.out).1 y).put (i := b + k) (by rw [List.length_set]; exact (List.getElem?_eq_some_iff.1 Fy.out).1) x
   have e := swap_listJ (P ++ Y1) (X3 ++ (Q ++ X1)) (Y3 ++ S) x y
   rw [show (P ++ Y1).length = a + k by rw [Ha.out, List.length_append, L2.out], show a + k + 1 + (X3 ++ (Q ++ X1)).length = b + k by have := HlX.out; have := L1.out; have := Hb.out; have := Ha.out; simp; omega] at e
   have e2 : P ++ (Y1 ++ (x :: X3 ++ (Q ++ (X1 ++ (y :: Y3 ++ S))))) = P ++ Y1 ++ x :: (X3 ++ (Q ++ X1) ++ y :: (Y3 ++ S)) := by simp
   rw [e2, e] at h1
   have e3 : P ++ Y1 ++ y :: (X3 ++ (Q ++ X1) ++ x :: (Y3 ++ S)) = P ++ (Y1 ++ [y] ++ (X3 ++ (Q ++ (X1 ++ [x] ++ (Y3 ++ S))))) := by simp
   rw [e3] at h1
   exact h1
  ·have e1 : X1 = X ∧ X2 = [] := by
    have h := HX.out
    rw [E1.out, List.length_append, L1.out] at h
    have : X2 = [] := List.length_eq_zero_iff.1 (by omega)
    exact ⟨by rw [E1.out, this]; simp, this⟩
   have e2 : Y1 = Y ∧ Y2 = [] := by
    have h := HY.out
    rw [E2.out, List.length_append, L2.out] at h
    have : Y2 = [] := List.length_eq_zero_iff.1 (by omega)
    exact ⟨by rw [E2.out, this]; simp, this⟩
   have hfin : DBxJ wr g (P ++ (Y ++ (Q ++ (X ++ S)))) := by
    have := Hdb.out
    rw [e1.1, e1.2, e2.1, e2.2] at this
    simpa using this
   have Hfin := Lib.hid hfin
   clear hfin e1 e2
   go_wp2
   go_end0
   exact ⟨rfl, Hfin.out, hgx⟩
theorem swap_rangeT2J (P X Q Y S : List J) (aI bI nI : Int) (n N c : Nat) (hX : X.length = n) (hY : Y.length = n) (ha : aI = P.length) (hb : bI = P.length + n + Q.length) (hn : nI = n) (hN : N = (P ++ (X ++ (Q ++ (Y ++ S)))).length) (hmax : N ≤ 1000000) (g : Nat) (F : Value) (w : World) (hd : DBxJ w g (P ++ (X ++ (Q ++ (Y ++ S))))) :
  Calls Tryz.prog 229 #[.slice (some ⟨g, 0, none⟩) N c, .int .i64 aI, .int .i64 bI, .int .i64 nI, F] w fun en w' => en = .returned (.tuple #[]) ∧ DBxJ w' g (P ++ (Y ++ (Q ++ (X ++ S)))) ∧ GX g w w' := by
 obtain rfl : aI = ((P.length : Nat) : Int) := ha
 obtain rfl : bI = ((P.length + n + Q.length : Nat) : Int) := by rw [hb]; simp
 subst hn
 exact swap_rangeTJ P X Q Y S n _ _ N c hX hY rfl rfl hN hmax g F w hd
set_option maxRecDepth 100000 in
set_option maxHeartbeats 4000000 in
theorem rotateTJ (P U V S : List J) (aI mI bI : Int) (N c : Nat) (ha : aI = P.length) (hm : mI = P.length + U.length) (hb : bI = P.length + U.length + V.length) (hU : 1 ≤ U.length) (hV : 1 ≤ V.length) (hN : N = (P ++ (U ++ (V ++ S))).length) (hmax : N ≤ 1000000) (g : Nat) (F : Value) (w : World) (hd : DBxJ w g (P ++ (U ++ (V ++ S)))) :
  Calls Tryz.prog 228 #[.slice (some ⟨g, 0, none⟩) N c, .int .i64 aI, .int .i64 mI, .int .i64 bI, F] w fun en w' => en = .returned (.tuple #[]) ∧ DBxJ w' g (P ++ (V ++ (U ++ S))) ∧ GX g w w' := by
 obtain ⟨m, em⟩ : ∃ m : Nat, m = P.length + U.length := ⟨_, rfl⟩
 obtain rfl : mI = (m : Int) := by omega
 have hN' : N = P.length + U.length + V.length + S.length := by rw [hN]; simp; omega
 have hmN : m + V.length ≤ N := by omega
 have w1 : aI = (P.length : Int) := ha
 have bd1 : (m : Int) - aI = U.length := by omega
 have bd2 : bI - (m : Int) = V.length := by omega
 have b1 : 0 ≤ aI ∧ aI ≤ 1000000 := by omega
 have b2 : 0 ≤ bI ∧ bI ≤ 1000000 := by omega
 obtain ⟨b1a, b1b⟩ := b1
 obtain ⟨b2a, b2b⟩ := b2
 have Hd := Lib.hid hd
 have HN := Lib.hid hN'
 have Em := Lib.hid em
 clear hd hN hN' em ha hm hb w1
 go_enter Tryz.func228, Tryz.ntmps228
 go_wp2
 go_loopw [10, 11] (fun i j wr => ∃ (ki kj : Nat) (P' X Y S' : List J), i = .int .i64 ki ∧ j = .int .i64 kj ∧ X.length = ki ∧ Y.length = kj ∧ 1 ≤ ki ∧ 1 ≤ kj ∧ P'.length + ki = m ∧ m + kj ≤ N ∧ N = (P' ++ (X ++ (Y ++ S'))).length ∧ DBxJ wr g (P' ++ (X ++ (Y ++ S'))) ∧ P' ++ (Y ++ (X ++ S')) = P ++ (V ++ (U ++ S)) ∧ GX g w wr) (fun i j _ => (intOf i).toNat + (intOf j).toNat)
 case atStart => exact ⟨U.length, V.length, P, U, V, S, by go_num, by go_num, rfl, rfl, hU, hV, Em.out.symm, hmN, by rw [HN.out]; simp; omega, Hd.out, rfl, GX.refl _ _⟩
 case round =>
  obtain ⟨ki, kj, P', X, Y, S', rfl, rfl, lX, lY, h1, h2, hP, hj, hlen, hdb, htgt, hgx⟩ := hrel
  have LX := Lib.hid lX
  have LY := Lib.hid lY
  have HP := Lib.hid hP
  have Hlen := Lib.hid hlen
  have Hdb := Lib.hid hdb
  have Tgt := Lib.hid htgt
  have hkm : ki ≤ m := by omega
  clear lX lY hP hlen hdb htgt
  rcases Nat.lt_trichotomy ki kj with hlt | heq | hgt
  ·have d1 : ((ki : Int) != (kj : Int)) = true := by simp; omega
   have d2 : decide ((kj : Int) < (ki : Int)) = false := by simp; omega
   obtain ⟨Y1, Y2, rfl, hY2⟩ : ∃ Y1 Y2, Y = Y1 ++ Y2 ∧ Y2.length = ki := ⟨Y.take (kj - ki), Y.drop (kj - ki), by simp, by have := LY.out; simp; omega⟩
   have hY1 : Y1.length = kj - ki := by have := LY.out; simp at this; omega
   have HY1 := Lib.hid hY1
   have HY2 := Lib.hid hY2
   clear hY1 hY2
   have cs := swap_rangeT2J P' X Y1 Y2 S' ((m : Int) - ki) ((m : Int) + kj - ki) ki ki N c LX.out HY2.out (by have := HP.out; omega) (by have := HP.out; have := HY1.out; omega) rfl (by rw [Hlen.out]; simp) hmax g F wr (by have := Hdb.out; simpa using this)
   go_wp2_with (go_at_call 229; ((with_reducible refine cs.mono ?_); rintro en w2 ⟨rfl, hd2, hg2⟩))
   go_roundw
   case rel =>
    refine ⟨ki, kj - ki, P', Y2, Y1, X ++ S', rfl, by go_num, HY2.out, HY1.out, h1, by omega, HP.out, by omega, ?_, hd2, ?_, hgx.trans hg2⟩
    ·rw [Hlen.out]; simp; omega
    ·rw [← Tgt.out]; simp
   case measure => simp [intOf]; omega
  ·subst heq
   have d1 : ((ki : Int) != (ki : Int)) = false := by simp
   have cs := swap_rangeT2J P' X [] Y S' ((m : Int) - ki) m ki ki N c LX.out LY.out (by have := HP.out; omega) (by have := HP.out; simp; omega) rfl (by rw [Hlen.out]; simp) hmax g F wr (by have := Hdb.out; simpa using this)
   go_wp2_with (go_at_call 229; ((with_reducible refine cs.mono ?_); rintro en w2 ⟨rfl, hd2, hg2⟩))
   have hfin : DBxJ w2 g (P ++ (V ++ (U ++ S))) := by rw [← Tgt.out]; simpa using hd2
   have Hfin := Lib.hid hfin
   clear hfin hd2
   go_end0
   exact ⟨rfl, Hfin.out, hgx.trans hg2⟩
  ·have d1 : ((ki : Int) != (kj : Int)) = true := by simp; omega
   have d2 : decide ((kj : Int) < (ki : Int)) = true := by simp; omega
   obtain ⟨X1, X2, rfl, hX1⟩ : ∃ X1 X2, X = X1 ++ X2 ∧ X1.length = kj := ⟨X.take kj, X.drop kj, by simp, by have := LX.out; simp; omega⟩
   have hX2 : X2.length = ki - kj := by have := LX.out; simp at this; omega
   have HX1 := Lib.hid hX1
   have HX2 := Lib.hid hX2
   clear hX1 hX2
   have cs := swap_rangeT2J P' X1 X2 Y S' ((m : Int) - ki) m kj kj N c HX1.out LY.out (by have := HP.out; omega) (by have := HP.out; have := HX2.out; omega) rfl (by rw [Hlen.out]; simp) hmax g F wr (by have := Hdb.out; simpa using this)
   go_wp2_with (go_at_call 229; ((with_reducible refine cs.mono ?_); rintro en w2 ⟨rfl, hd2, hg2⟩))
   go_roundw
   case rel =>
    refine ⟨ki - kj, kj, P' ++ Y, X2, X1, S', by go_num, rfl, HX2.out, HX1.out, by omega, h2, ?_, hj, ?_, by simpa using hd2, ?_, hgx.trans hg2⟩
    ·have := HP.out; have := LY.out; simp; omega
    ·rw [Hlen.out]; simp; omega
    ·rw [← Tgt.out]; simp
   case measure => simp [intOf]; omega
structure KJ where
 u : Unit
def cmpKJ (K : KJ) (x y : J) : Int := rowsG cmpV x.row y.row
def cmpTJ (K : KJ) (x y : J) : Int := if rowsG ordV x.row y.row ≠ 0 then rowsG ordV x.row y.row else rowsG ordV x.x.row y.x.row
def tgJ (x y : J) : Prop := ordR x.x.row y.x.row < 0
structure GoodTJ (K : KJ) (g : Nat) (w0 : World) (x : J) : Prop where
 sl : ∀ W, GX g w0 W → VSl W x.A x.row
 len : x.row.length ≤ 9223372036854775807
 rv : ∀ v ∈ x.row, RV v
theorem cmpTJ_swap {K : KJ} {g : Nat} {w0 : World} {x y : J} (hx : GoodTJ K g w0 x) (hy : GoodTJ K g w0 y) : cmpTJ K y x = - cmpTJ K x y := by
 have h1 := rowsG_swap ordV ordV_swap x.row y.row
 have h2 := rowsG_swap ordV ordV_swap x.x.row y.x.row
 unfold cmpTJ
 split <;> split <;> omega
theorem cmpTJ_self {K : KJ} {g : Nat} {w0 : World} {x : J} (hx : GoodTJ K g w0 x) : cmpTJ K x x = 0 := by
 have := cmpTJ_swap hx hx
 omega
theorem cmpTJ_trans {K : KJ} {g : Nat} {w0 : World} {x y z : J} (hx : GoodTJ K g w0 x) (hy : GoodTJ K g w0 y) (hz : GoodTJ K g w0 z) (h1 : cmpTJ K x y ≤ 0) (h2 : cmpTJ K y z ≤ 0) : cmpTJ K x z ≤ 0 := by
 have k := rows_tr x.row y.row z.row
 have r := rows_tr x.x.row y.x.row z.x.row
 unfold cmpTJ at *
 split at h1 <;> split at h2 <;> split <;> omega
abbrev UpTJ (K : KJ) (L : List J) : Prop := L.Pairwise (fun x y => cmpTJ K x y ≤ 0)
theorem cmpKJ_lt {K : KJ} {g : Nat} {w0 : World} {x y : J} (hx : GoodTJ K g w0 x) (hy : GoodTJ K g w0 y) (ht : tgJ y x) : cmpTJ K x y < 0 ↔ cmpKJ K x y < 0 := by
 have e := rows_cmp_ord x.row y.row hx.rv hy.rv
 have s := rowsG_swap ordV ordV_swap x.x.row y.x.row
 unfold tgJ ordR at ht
 unfold cmpTJ cmpKJ
 rw [e]
 split <;> omega
set_option maxRecDepth 100000 in
set_option maxHeartbeats 2000000 in
theorem cmp_fnTJ (K : KJ) (x y : J) (g : Nat) (w0 w : World) (hx : GoodTJ K g w0 x) (hy : GoodTJ K g w0 y) (hg : GX g w0 w) : Calls Tryz.prog 192 #[x.val, y.val] w fun e w' => e = .returned (.int .i64 (cmpKJ K x y)) ∧ Grow w w' := by
 have cr := fun W (h : Grow w W) => vrows_any x.row y.row x.A y.A x.cap y.cap W hx.len hy.len (hx.sl _ (hg.grow h)) (hy.sl _ (hg.grow h))
 have fin : cmpKJ K x y = rowsG cmpV x.row y.row := rfl
 rw [fin]
 clear fin hx hy hg
 unfold J.val
 go_enter Tryz.func192, Tryz.ntmps192
 go_upto_region 1 with fail
 refine wp_forget (fun X => Blk X w.heap.size 199 #[.slice x.A x.row.length x.cap, .slice (some ⟨x.b, 0, none⟩) 1 1] ∧ Blk X (w.heap.size + 1) 199 #[.slice y.A y.row.length y.cap, .slice (some ⟨y.b, 0, none⟩) 1 1] ∧ Grow w X) ⟨(Blk.new _ _ _).grow ((Grow.refl _).al _), Blk.new' _ _ _ (by simp), ((Grow.refl _).al _).al _⟩ ?_
 generalize w.heap.size + 1 = g2
 generalize w.heap.size = g1
 rintro X ⟨B1, B2, G⟩
 obtain ⟨bx, fx⟩ := B1.rules
 obtain ⟨by1, fy⟩ := B2.rules
 go_wp2_with (go_at_call 44; ((with_reducible refine (cr _ G).mono ?_); rintro e w2 ⟨rfl, hg2⟩))
 go_ret
 exact ⟨rfl, G.trans hg2⟩
variable {K : KJ}
abbrev cmpFTJ (K : KJ) : Value := .func (.func 192) #[] #[]
theorem up_insertTJ {g : Nat} {w0 : World} {L R : List J} {x : J} (hG : ∀ y ∈ L ++ x :: R, GoodTJ K g w0 y) (hu : UpTJ K (L ++ R)) (hl : ∀ y, L.getLast? = some y → cmpTJ K y x ≤ 0) (hr : ∀ y ∈ R, cmpTJ K x y < 0) : UpTJ K (L ++ x :: R) := by
 unfold UpTJ at hu ⊢
 rw [List.pairwise_append] at hu ⊢
 obtain ⟨h1, h2, h3⟩ := hu
 have hlx : ∀ y ∈ L, cmpTJ K y x ≤ 0 := fun y hy => by
  rcases List.eq_nil_or_concat L with h | ⟨L', z, h⟩
  ·subst h; simp at hy
  ·have h : L = L' ++ [z] := by simpa using h
   subst h
   have hz := hl z (by simp)
   rcases List.mem_append.1 hy with hy' | hy'
   ·rw [List.pairwise_append] at h1
    exact cmpTJ_trans (hG y (by simp [hy'])) (hG z (by simp)) (hG x (by simp)) (h1.2.2 y hy' z (by simp)) hz
   ·simp at hy'; subst hy'; exact hz
 refine ⟨h1, ?_, fun y hy z hz => ?_⟩
 ·rw [List.pairwise_cons]
  exact ⟨fun y hy => by have := hr y hy; omega, h2⟩
 ·rcases List.mem_cons.1 hz with rfl | hz
  ·exact hlx y hy
  ·exact h3 y hy z hz
set_option maxRecDepth 100000 in
set_option maxHeartbeats 8000000 in
theorem ins_sortTJ (P M S : List J) (aI bI : Int) (N c : Nat) (ha : aI = P.length) (hb : bI = P.length + M.length) (hN : N = (P ++ (M ++ S)).length) (hmax : N ≤ 1000000) (g : Nat) (w0 w : World) (hT : M.Pairwise tgJ) (hG : ∀ x ∈ M, GoodTJ K g w0 x) (hg0 : GX g w0 w) (hd : DBxJ w g (P ++ (M ++ S))) :
  Calls Tryz.prog 224 #[.slice (some ⟨g, 0, none⟩) N c, .int .i64 aI, .int .i64 bI, (cmpFTJ K)] w fun en w' => en = .returned (.tuple #[]) ∧ (∃ M' : List J, M'.Perm M ∧ UpTJ K M' ∧ DBxJ w' g (P ++ (M' ++ S))) ∧ GX g w w' := by
 have mixed : Tryz.prog.follows .mixedOrders = true := by kernel_rfl
 obtain ⟨a, ea⟩ : ∃ a : Nat, a = P.length := ⟨_, rfl⟩
 obtain rfl : aI = (a : Int) := by omega
 obtain ⟨b, eb⟩ : ∃ b : Nat, b = a + M.length := ⟨_, rfl⟩
 obtain rfl : bI = (b : Int) := by omega
 have hN' : N = a + M.length + S.length := by rw [hN, ea]; simp; omega
 have hbN : b ≤ N := by omega
 have hab : a ≤ b := by omega
 have Hd := Lib.hid hd
 have HN := Lib.hid hN'
 have Ea := Lib.hid ea
 have Eb := Lib.hid eb
 have HG := Lib.hid hG
 have HTg := Lib.hid hT
 clear hd hN hN' ea eb ha hb hG hT
 go_enter Tryz.func224, Tryz.ntmps224
 go_wp2
 go_loopw [8] (fun i wr => ∃ (k : Nat) (M1 M2 : List J), i = .int .i64 (k : Int) ∧ a + 1 ≤ k ∧ k ≤ b + 1 ∧ (M = [] ∧ M1 = [] ∧ M2 = [] ∨ k = a + M1.length ∧ 1 ≤ M1.length) ∧ (M1 ++ M2).Perm M ∧ UpTJ K M1 ∧ DBxJ wr g (P ++ (M1 ++ (M2 ++ S))) ∧ GX g w wr ∧ (∀ y ∈ M1, ∀ z ∈ M2, tgJ y z) ∧ M2.Pairwise tgJ) (fun i _ => b + 1 - (intOf i).toNat)
 case atStart =>
  cases hM : M with
  | nil => exact ⟨a + 1, [], [], by go_num, Nat.le_refl _, by omega, .inl ⟨rfl, rfl, rfl⟩, List.Perm.refl _, List.Pairwise.nil, by have := Hd.out; rw [hM] at this; simpa using this, GX.refl _ _, fun y hy => by simp at hy, List.Pairwise.nil⟩
  | cons x M' => exact ⟨a + 1, [x], M', by go_num, Nat.le_refl _, by omega, .inr ⟨rfl, Nat.le_refl _⟩, List.Perm.refl _, List.pairwise_singleton _ _, by have := Hd.out; rw [hM] at this; simpa using this, GX.refl _ _, fun y hy z hz => by have h := HTg.out; rw [hM, List.pairwise_cons] at h; simp at hy; subst hy; exact h.1 z hz, by have h := HTg.out; rw [hM, List.pairwise_cons] at h; exact h.2⟩
 case round =>
  obtain ⟨k, M1, M2, rfl, hk1, hk2, hform, hperm, hup, hdb, hgx, htgx, htgp⟩ := hrel
  have TGX := Lib.hid htgx
  have TGP := Lib.hid htgp
  clear htgx htgp
  have Form := Lib.hid hform
  have HP := Lib.hid hperm
  have HU := Lib.hid hup
  have Hdb := Lib.hid hdb
  clear hform hperm hup hdb
  by_cases hlt : k < b
  ·have d0 : decide ((k : Int) < (b : Int)) = true := by simp; omega
   obtain ⟨hk, hM1⟩ : k = a + M1.length ∧ 1 ≤ M1.length := by
    rcases Form.out with ⟨h1, _, _⟩ | h
    ·exfalso; have := Eb.out; rw [h1] at this; simp at this; omega
    ·exact h
   have hlen : M1.length + M2.length = M.length := by have := HP.out.length_eq; simpa using this
   obtain ⟨x, M3, rfl⟩ : ∃ x M3, M2 = x :: M3 := by
    match M2, hlen with
    | [], hlen => exfalso; have := Eb.out; simp at hlen; omega
    | x :: M3, _ => exact ⟨x, M3, rfl⟩
   have HG2 : ∀ y ∈ M1 ++ x :: M3, GoodTJ K g w0 y := fun y hy => HG.out y (HP.out.mem_iff.1 hy)
   have HG2' := Lib.hid HG2
   have Hk := Lib.hid hk
   have Hlen := Lib.hid hlen
   clear HG2 hlen Form hk
   go_wp2
   go_loopw [9] (fun j wr2 => ∃ (jn : Nat) (L R : List J), j = .int .i64 (jn : Int) ∧ M1 = L ++ R ∧ jn = a + L.length ∧ (∀ y ∈ R, cmpTJ K x y < 0) ∧ DBxJ wr2 g (P ++ (L ++ x :: (R ++ (M3 ++ S)))) ∧ GX g w wr2) (fun j _ => (intOf j).toNat)
   case atStart => exact ⟨k, M1, [], rfl, by simp, Hk.out, by simp, by have := Hdb.out; simpa using this, hgx⟩
   case round =>
    obtain ⟨jn, L, R, rfl, e1, ej, hR, hdb2, hgx2⟩ := hrel
    have E1 := Lib.hid e1
    have HR := Lib.hid hR
    have Hdb2 := Lib.hid hdb2
    have hgw := hg0.trans hgx2
    have hLb : jn < b := by have := congrArg List.length E1.out; simp at this; have := Hk.out; omega
    have Ej := Lib.hid ej
    clear e1 hR hdb2 ej
    rcases List.eq_nil_or_concat L with hL | ⟨L', y, hL⟩
    ·subst hL
     obtain rfl : jn = a := by have := Ej.out; simpa using this
     have hfin : UpTJ K (x :: R) := up_insertTJ (L := []) (fun y hy => HG2'.out y (by
      rcases List.mem_cons.1 hy with h | h
      ·subst h; simp
      ·rw [E1.out]; simp [h])) (by rw [← E1.out]; exact HU.out) (by simp) HR.out
     have Hfin := Lib.hid hfin
     clear hfin
     go_wp2
     go_big_region_o
     all_goals go_wp2
     go_roundw
     case rel =>
      refine ⟨k + 1, x :: R, M3, by go_num, by omega, by omega, .inr ⟨?_, by simp⟩, ?_, Hfin.out, DBxJ.drew (by have := Hdb2.out; simpa using this), hgx2.drew, fun y2 hy z hz => by
       have h := TGP.out
       rw [List.pairwise_cons] at h
       have hy2 : y2 = x ∨ y2 ∈ M1 := by rw [E1.out]; simp at hy ⊢; rcases hy with h | h <;> simp [h]
       rcases hy2 with rfl | hy2
       ·exact h.1 z hz
       ·exact TGX.out y2 hy2 z (List.mem_cons_of_mem _ hz), by have h := TGP.out; rw [List.pairwise_cons] at h; exact h.2⟩
      ·have := congrArg List.length E1.out; have := Hk.out; simp at *; omega
      ·refine List.Perm.trans ?_ HP.out
       rw [E1.out]
       simpa using (List.perm_middle (a := x) (l₁ := R) (l₂ := M3)).symm
     case measure => simp [intOf]; omega
    ·have hL : L = L' ++ [y] := by simpa using hL
     subst hL
     obtain ⟨jp, rfl⟩ : ∃ jp, jn = jp + 1 := ⟨jn - 1, by have := Ej.out; simp at this; omega⟩
     have ejp : jp = a + L'.length := by have := Ej.out; simp at this; omega
     have Ejp := Lib.hid ejp
     have dj : decide ((a : Int) < (jp : Int) + 1) = true := by simp; omega
     have p0 : (0 : Int) ≤ (jp : Int) + 1 := by omega
     have e0 : ((jp : Int) + 1).toNat = jp + 1 := by omega
     have jz : (jp : Int) + 1 < (N : Int) := by omega
     have jz1 : (jp : Int) < (N : Int) := by omega
     have hwp : IntKind.i64.wrap (jp : Int) = (jp : Int) := by rw [IntKind.wrap_i64]; omega
     have jz2 : jp + 1 < N := by omega
     have jz3 : jp < N := by omega
     have fx : (P ++ (L' ++ [y] ++ x :: (R ++ (M3 ++ S))))[jp + 1]? = some x := by
      rw [show P ++ (L' ++ [y] ++ x :: (R ++ (M3 ++ S))) = (P ++ (L' ++ [y])) ++ x :: (R ++ (M3 ++ S)) by simp, show jp + 1 = (P ++ (L' ++ [y])).length by simp; have := Ejp.out; have := Ea.out; omega]
      exact get_midJ _ _ _
     have fy : (P ++ (L' ++ [y] ++ x :: (R ++ (M3 ++ S))))[jp]? = some y := by
      rw [show P ++ (L' ++ [y] ++ x :: (R ++ (M3 ++ S))) = (P ++ L') ++ y :: (x :: (R ++ (M3 ++ S))) by simp, show jp = (P ++ L').length by simp; have := Ejp.out; have := Ea.out; omega]
      exact get_midJ _ _ _
     have gx : GoodTJ K g w0 x := HG2'.out x (by simp)
     have gy : GoodTJ K g w0 y := HG2'.out y (by rw [E1.out]; simp)
     have Fx := Lib.hid fx
     have Fy := Lib.hid fy
     clear fx fy ejp
     obtain ⟨cr, hcr⟩ : ∃ q, cmpKJ K x y = q := ⟨_, rfl⟩
     have cc := fun W (h : GX g w0 W) => cmp_fnTJ K x y g w0 W gx gy h
     rw [hcr] at cc
     have htg : tgJ y x := TGX.out y (by rw [E1.out]; simp) x (by simp)
     have hlt9 := cmpKJ_lt gx gy htg
     rw [hcr] at hlt9
     have Hcr := Lib.hid hlt9
     clear hcr hlt9 htg
     go_wp2
     apply wp_region_calm 17 (by kernel_rfl) (by kernel_rfl)
     case h' =>
      intro Q0 hQ0
      simp only [List.take_succ_cons, List.take_zero]
      repeat (
       first
        | (apply calm_p rfl; case h1 => (intro w1 hw1 hF K hK; obtain ⟨cx0, cx1⟩ := (Hdb2.out.grow hw1).at Fx.out; obtain ⟨cy0, cy1⟩ := (Hdb2.out.grow hw1).at Fy.out; go_simp; first | exact hK _ (Grow.refl _) | (go_at_call 192; ((with_reducible refine (cc _ (hgw.grow hw1)).mono ?_); rintro e w' ⟨rfl, hg⟩; exact ⟨_, rfl, hK _ hg⟩))))
        | (apply calm_y rfl rfl rfl; case h1 => (intro w1 hw1 hF K hK; obtain ⟨cx0, cx1⟩ := (Hdb2.out.grow hw1).at Fx.out; obtain ⟨cy0, cy1⟩ := (Hdb2.out.grow hw1).at Fy.out; go_simp; first | exact hK _ (Grow.refl _) | (go_at_call 192; ((with_reducible refine (cc _ (hgw.grow hw1)).mono ?_); rintro e w' ⟨rfl, hg⟩; exact ⟨_, rfl, hK _ hg⟩))))
        | apply calm_n rfl rfl rfl rfl
       intro K hK
       go_simp
       apply hK
       clear hK K)
      refine calm_nil ?_
      intro w1 hw1 hF
      apply hQ0
      clear hQ0
      simp only [List.drop_succ_cons, List.drop_zero]
      clear hF
      have Hdb3 := Lib.hid (Hdb2.out.grow hw1)
      by_cases hc : cr < 0
      ·have dc : decide (cr < 0) = true := by simpa using hc
       obtain ⟨cx0, cx1⟩ := Hdb3.out.at Fx.out
       obtain ⟨cy0, cy1⟩ := Hdb3.out.at Fy.out
       have fr := Hdb3.out.frozen
       have ne0 : (jp + 1) * 2 ≠ jp * 2 := by omega
       have ne1 : (jp + 1) * 2 + 1 ≠ jp * 2 := by omega
       have Hc := Lib.hid hc
       clear hc
       simp only [dc]
       go_wp2
       go_big_region_o
       all_goals go_wp2
       refine ⟨⟨jp, L', y :: R, rfl, by rw [E1.out]; simp, Ejp.out, ?_, ?_, GX.drew (((hgx2.grow hw1).put _ _ _ _).put _ _ _ _)⟩, by simp [intOf]⟩
       ·intro z hz
        rcases List.mem_cons.1 hz with rfl | hz
        ·exact Hcr.out.2 Hc.out
        ·exact HR.out z hz
       ·have h1 := (Hdb3.out.put (List.getElem?_eq_some_iff.1 Fx.out).1 y).put (i := jp) (by rw [List.length_set]; exact (List.getElem?_eq_some_iff.1 Fy.out).1) x
        have e := swap_adjJ (P ++ L') (R ++ (M3 ++ S)) x y
        rw [show (P ++ L').length = jp by simp; have := Ejp.out; have := Ea.out; omega] at e
        rw [show P ++ (L' ++ [y] ++ x :: (R ++ (M3 ++ S))) = P ++ L' ++ y :: x :: (R ++ (M3 ++ S)) by simp, e] at h1
        rw [show P ++ (L' ++ x :: (y :: R ++ (M3 ++ S))) = P ++ L' ++ x :: y :: (R ++ (M3 ++ S)) by simp]
        exact h1
      ·have dc : decide (cr < 0) = false := by simpa using hc
       have hfin : UpTJ K (L' ++ [y] ++ x :: R) := up_insertTJ (L := L' ++ [y]) (fun z hz => HG2'.out z (by rw [E1.out]; simp at hz ⊢; rcases hz with h | h | h | h <;> simp [h])) (by rw [← E1.out]; exact HU.out) (fun z hz => by
        simp at hz; subst hz
        have := cmpTJ_swap gx gy
        have h9 := mt Hcr.out.1 hc
        omega) HR.out
       have Hfin := Lib.hid hfin
       clear hfin hc
       simp only [dc]
       go_wp2
       go_roundw
       case rel =>
        refine ⟨k + 1, L' ++ [y] ++ x :: R, M3, by go_num, by omega, by omega, .inr ⟨?_, by simp; omega⟩, ?_, Hfin.out, by have := Hdb3.out; simpa using this, hgx2.grow hw1, fun y2 hy z hz => by
        have h := TGP.out
        rw [List.pairwise_cons] at h
        have hy2 : y2 = x ∨ y2 ∈ M1 := by rw [E1.out]; simp at hy ⊢; rcases hy with h | h | h | h <;> simp [h]
        rcases hy2 with rfl | hy2
        ·exact h.1 z hz
        ·exact TGX.out y2 hy2 z (List.mem_cons_of_mem _ hz), by have h := TGP.out; rw [List.pairwise_cons] at h; exact h.2⟩
        ·have := congrArg List.length E1.out; have := Hk.out; simp at *; omega
        ·refine List.Perm.trans ?_ HP.out
         rw [E1.out]
         simpa using List.Perm.append_left L' (List.Perm.cons y (List.perm_middle (a := x) (l₁ := R) (l₂ := M3)).symm)
       case measure => simp [intOf]; omega
     case hp' => trivial
  ·have d0 : decide ((k : Int) < (b : Int)) = false := by simp; omega
   have hfin : ∃ M' : List J, M'.Perm M ∧ UpTJ K M' ∧ DBxJ wr g (P ++ (M' ++ S)) := by
    have : M2 = [] := by
     rcases Form.out with ⟨_, _, h⟩ | ⟨h1, h2⟩
     ·exact h
     ·have := HP.out.length_eq
      have := Eb.out
      simp at *
      exact List.length_eq_zero_iff.1 (by omega)
    subst this
    exact ⟨M1, by simpa using HP.out, HU.out, by simpa using Hdb.out⟩
   have Hfin := Lib.hid hfin
   clear hfin
   go_wp2
   go_end0
   exact ⟨rfl, Hfin.out, hgx⟩
end Go.Proofs.YtifpomonpneanaaGreat
namespace Go.Proofs.YtifpomonpneanaaGreat
open Go.RowKit Go.Calm
set_option linter.unusedSimpArgs false
set_option linter.unusedVariables false
variable {K : KJ}
theorem le_ltTJ {g : Nat} {w0 : World} {x y z : J} (hx : GoodTJ K g w0 x) (hy : GoodTJ K g w0 y) (hz : GoodTJ K g w0 z) (h1 : cmpTJ K x y ≤ 0) (h2 : cmpTJ K y z < 0) : cmpTJ K x z < 0 := by
 have h3 := cmpTJ_trans hx hy hz h1 (by omega)
 by_cases h : cmpTJ K x z = 0
 ·exfalso
  have s1 := cmpTJ_swap hx hz
  have s2 := cmpTJ_swap hy hz
  have := cmpTJ_trans hz hx hy (by omega) h1
  omega
 ·omega
theorem lt_leTJ {g : Nat} {w0 : World} {x y z : J} (hx : GoodTJ K g w0 x) (hy : GoodTJ K g w0 y) (hz : GoodTJ K g w0 z) (h1 : cmpTJ K x y < 0) (h2 : cmpTJ K y z ≤ 0) : cmpTJ K x z < 0 := by
 have h3 := cmpTJ_trans hx hy hz (by omega) h2
 by_cases h : cmpTJ K x z = 0
 ·exfalso
  have s1 := cmpTJ_swap hx hz
  have s2 := cmpTJ_swap hx hy
  have := cmpTJ_trans hy hz hx h2 (by omega)
  omega
 ·omega
theorem up_getTJ {g : Nat} {w0 : World} {L : List J} (hu : UpTJ K L) (hG : ∀ x ∈ L, GoodTJ K g w0 x) {s t : Nat} {x y : J} (hx : L[s]? = some x) (hy : L[t]? = some y) (hst : s ≤ t) : cmpTJ K x y ≤ 0 := by
 obtain ⟨h1, rfl⟩ := List.getElem?_eq_some_iff.1 hx
 obtain ⟨h2, rfl⟩ := List.getElem?_eq_some_iff.1 hy
 rcases Nat.lt_or_ge s t with h | h
 ·exact List.pairwise_iff_getElem.1 hu s t h1 h2 h
 ·obtain rfl : s = t := by omega
  rw [cmpTJ_self (hG _ (List.getElem_mem h1))]
  exact Int.le_refl _
theorem up_insertT2J {L R : List J} {x : J} (hu : UpTJ K (L ++ R)) (hl : ∀ y ∈ L, cmpTJ K y x ≤ 0) (hr : ∀ y ∈ R, cmpTJ K x y ≤ 0) : UpTJ K (L ++ x :: R) := by
 unfold UpTJ at hu ⊢
 rw [List.pairwise_append] at hu ⊢
 obtain ⟨h1, h2, h3⟩ := hu
 refine ⟨h1, List.pairwise_cons.2 ⟨hr, h2⟩, fun y hy z hz => ?_⟩
 rcases List.mem_cons.1 hz with rfl | hz
 ·exact hl y hy
 ·exact h3 y hy z hz
set_option maxRecDepth 100000 in
set_option maxHeartbeats 8000000 in
theorem sym_leftTJ (P V S : List J) (u : J) (a m b : Nat) (N c : Nat) (ha : a = P.length) (hm : m = a + 1) (hb : b = m + V.length) (hN : N = (P ++ (u :: V ++ S)).length) (hmax : N ≤ 1000000) (g : Nat) (w0 w : World) (hT : ∀ v ∈ V, tgJ u v) (hG : ∀ x ∈ u :: V, GoodTJ K g w0 x) (hg0 : GX g w0 w) (hV : UpTJ K V) (hd : DBxJ w g (P ++ (u :: V ++ S))) :
  Calls Tryz.prog 225 #[.slice (some ⟨g, 0, none⟩) N c, .int .i64 a, .int .i64 m, .int .i64 b, (cmpFTJ K)] w fun en w' => en = .returned (.tuple #[]) ∧ (∃ M' : List J, M'.Perm (u :: V) ∧ UpTJ K M' ∧ DBxJ w' g (P ++ (M' ++ S))) ∧ GX g w w' := by
 have mixed : Tryz.prog.follows .mixedOrders = true := by kernel_rfl
 have hN' : N = a + 1 + V.length + S.length := by rw [hN, ha]; simp; omega
 have hbN : b ≤ N := by omega
 have d0 : ((m : Int) - (a : Int) == 1) = true := by simp; omega
 have ham : a < m := by omega
 have Hd := Lib.hid hd
 have HN := Lib.hid hN'
 have Ea := Lib.hid ha
 have Em := Lib.hid hm
 have Eb := Lib.hid hb
 have HG := Lib.hid hG
 have HV := Lib.hid hV
 have hmb : m ≤ b := by omega
 have haN : a < N := by omega
 have HTg := Lib.hid hT
 clear hd hN hN' ha hm hb hG hV hT
 go_enter Tryz.func225, Tryz.ntmps225
 go_wp2
 go_loopw [10, 11] (fun si sj wr => ∃ (i j : Nat), si = .int .i64 (i : Int) ∧ sj = .int .i64 (j : Int) ∧ m ≤ i ∧ i ≤ j ∧ j ≤ b ∧ (∀ t v, V[t]? = some v → m + t < i → cmpTJ K v u < 0) ∧ (∀ t v, V[t]? = some v → j ≤ m + t → 0 ≤ cmpTJ K v u) ∧ DBxJ wr g (P ++ (u :: V ++ S)) ∧ GX g w wr) (fun si sj _ => (intOf sj).toNat - (intOf si).toNat)
 case atStart => exact ⟨m, b, rfl, rfl, Nat.le_refl _, hmb, Nat.le_refl _, fun t v h1 h2 => by omega, fun t v h1 h2 => by have := (List.getElem?_eq_some_iff.1 h1).1; have := Eb.out; omega, Hd.out, GX.refl _ _⟩
 case round =>
  obtain ⟨i, j, rfl, rfl, hmi, hij, hjb, hlo, hhi, hdb, hgx⟩ := hrel
  have Lo := Lib.hid hlo
  have Hi := Lib.hid hhi
  have Hdb := Lib.hid hdb
  have hgw := hg0.trans hgx
  clear hlo hhi hdb
  by_cases hlt : i < j
  ·have dl : decide ((i : Int) < (j : Int)) = true := by simp; omega
   obtain ⟨h, eh⟩ : ∃ h : Nat, h = (i + j) / 2 := ⟨_, rfl⟩
   have eh2 : ((i : Int) + (j : Int)) / 2 = (h : Int) := by omega
   have h1 : i ≤ h := by omega
   have h2 : h < j := by omega
   have hbig : (i : Int) + j ≤ 2000000 := by omega
   have hhN : h < N := by omega
   obtain ⟨v, hv⟩ : ∃ v, V[h - m]? = some v := ⟨_, List.getElem?_eq_getElem (by have := Eb.out; omega)⟩
   have fu : (P ++ (u :: V ++ S))[a]? = some u := by rw [Ea.out]; exact get_midJ _ _ _
   have fv : (P ++ (u :: V ++ S))[h]? = some v := by
    rw [show P ++ (u :: V ++ S) = (P ++ [u]) ++ (V ++ S) by simp, List.getElem?_append_right (by simp; have := Ea.out; have := Em.out; omega), List.getElem?_append_left (by simp; have := Ea.out; have := Em.out; have := Eb.out; omega)]
    rw [show h - (P ++ [u]).length = h - m by simp; have := Ea.out; have := Em.out; omega]
    exact hv
   have gu : GoodTJ K g w0 u := HG.out u (by simp)
   have gv : GoodTJ K g w0 v := HG.out v (by simp [List.mem_of_getElem? hv])
   have Fu := Lib.hid fu
   have Fv := Lib.hid fv
   have Hv := Lib.hid hv
   have Eh := Lib.hid eh
   clear fu fv hv eh
   obtain ⟨cr, hcr⟩ : ∃ q, cmpKJ K v u = q := ⟨_, rfl⟩
   have cc := fun W (h : GX g w0 W) => cmp_fnTJ K v u g w0 W gv gu h
   rw [hcr] at cc
   have htg : tgJ u v := HTg.out v (List.mem_of_getElem? Hv.out)
   have hlt9 := cmpKJ_lt gv gu htg
   rw [hcr] at hlt9
   have Hcr := Lib.hid hlt9
   clear hcr hlt9 htg
   go_upto_region 5 with fail
   apply wp_region_calm 11 (by kernel_rfl) (by kernel_rfl)
   case h' =>
    intro Q0 hQ0
    simp only [List.take_succ_cons, List.take_zero]
    repeat (
     first
      | (apply calm_p rfl; case h1 => (intro w1 hw1 hF K hK; obtain ⟨cx0, cx1⟩ := (Hdb.out.grow hw1).at Fu.out; obtain ⟨cy0, cy1⟩ := (Hdb.out.grow hw1).at Fv.out; go_simp; first | exact hK _ (Grow.refl _) | (go_at_call 192; ((with_reducible refine (cc _ (hgw.grow hw1)).mono ?_); rintro e w' ⟨rfl, hg⟩; exact ⟨_, rfl, hK _ hg⟩))))
      | (apply calm_y rfl rfl rfl; case h1 => (intro w1 hw1 hF K hK; obtain ⟨cx0, cx1⟩ := (Hdb.out.grow hw1).at Fu.out; obtain ⟨cy0, cy1⟩ := (Hdb.out.grow hw1).at Fv.out; go_simp; first | exact hK _ (Grow.refl _) | (go_at_call 192; ((with_reducible refine (cc _ (hgw.grow hw1)).mono ?_); rintro e w' ⟨rfl, hg⟩; exact ⟨_, rfl, hK _ hg⟩))))
      | apply calm_n rfl rfl rfl rfl
     intro K hK
     go_simp
     apply hK
     clear hK K)
    refine calm_nil ?_
    intro w1 hw1 hF
    apply hQ0
    clear hQ0
    simp only [List.drop_succ_cons, List.drop_zero]
    clear hF
    have Hdb3 := Lib.hid (Hdb.out.grow hw1)
    have GV : ∀ x ∈ V, GoodTJ K g w0 x := fun x hx => HG.out x (by simp [hx])
    by_cases hc : cr < 0
    ·have dc : decide (cr < 0) = true := by simpa using hc
     have hnew : ∀ t v', V[t]? = some v' → m + t < h + 1 → cmpTJ K v' u < 0 := fun t v' ht hlt' => by
      have g' := GV v' (List.mem_of_getElem? ht)
      exact le_ltTJ g' gv gu (up_getTJ HV.out GV ht Hv.out (by omega)) (Hcr.out.2 hc)
     have Hnew := Lib.hid hnew
     clear hnew hc
     simp only [dc]
     go_wp2
     go_roundw
     case rel => exact ⟨h + 1, j, by go_num, rfl, by omega, by omega, hjb, Hnew.out, Hi.out, Hdb3.out, hgx.grow hw1⟩
     case measure => simp [intOf]; omega
    ·have dc : decide (cr < 0) = false := by simpa using hc
     have hnew : ∀ t v', V[t]? = some v' → h ≤ m + t → 0 ≤ cmpTJ K v' u := fun t v' ht hlt' => by
      have g' := GV v' (List.mem_of_getElem? ht)
      have h5 := up_getTJ HV.out GV Hv.out ht (by omega)
      by_cases h6 : cmpTJ K v' u < 0
      ·have := le_ltTJ gv g' gu h5 h6
       exact absurd (Hcr.out.1 this) hc
      ·omega
     have Hnew := Lib.hid hnew
     clear hnew hc
     simp only [dc]
     go_wp2
     go_roundw
     case rel => exact ⟨i, h, rfl, by go_num, hmi, h1, by omega, Lo.out, Hnew.out, Hdb3.out, hgx.grow hw1⟩
     case measure => simp [intOf]; omega
   case hp' => trivial
  ·obtain rfl : i = j := by omega
   have dl : decide ((i : Int) < (i : Int)) = false := by simp
   clear hlt
   go_wp2
   go_loopw [13] (fun sk w3 => ∃ (k : Nat) (V1 V2 : List J), sk = .int .i64 (k : Int) ∧ V = V1 ++ V2 ∧ k = a + V1.length ∧ k + 1 ≤ i ∧ DBxJ w3 g (P ++ (V1 ++ u :: (V2 ++ S))) ∧ GX g w w3) (fun sk _ => i - (intOf sk).toNat)
   case atStart => exact ⟨a, [], V, rfl, rfl, by simp, by omega, by have := Hdb.out; simpa using this, hgx⟩
   case round =>
    obtain ⟨k, V1, V2, rfl, e1, ek, hki, hdb2, hgx2⟩ := hrel
    have E1 := Lib.hid e1
    have Ek := Lib.hid ek
    have Hdb2 := Lib.hid hdb2
    have hak : a ≤ k := by omega
    clear e1 ek hdb2
    by_cases hk2 : k + 1 < i
    ·have dk : decide ((k : Int) < (i : Int) - 1) = true := by simp; omega
     obtain ⟨y, V3, rfl⟩ : ∃ y V3, V2 = y :: V3 := by
      have h0 := congrArg List.length E1.out
      have h1 := Ek.out
      have h2 := Em.out
      have h3 := Eb.out
      match V2, h0 with
      | [], h0 => exfalso; simp at h0; omega
      | y :: V3, _ => exact ⟨y, V3, rfl⟩
     have fx : (P ++ (V1 ++ u :: (y :: V3 ++ S)))[k]? = some u := by
      rw [show P ++ (V1 ++ u :: (y :: V3 ++ S)) = (P ++ V1) ++ u :: (y :: V3 ++ S) by simp, show k = (P ++ V1).length by simp; have := Ek.out; have := Ea.out; omega]
      exact get_midJ _ _ _
     have fy : (P ++ (V1 ++ u :: (y :: V3 ++ S)))[k + 1]? = some y := by
      rw [show P ++ (V1 ++ u :: (y :: V3 ++ S)) = (P ++ (V1 ++ [u])) ++ y :: (V3 ++ S) by simp, show k + 1 = (P ++ (V1 ++ [u])).length by simp; have := Ek.out; have := Ea.out; omega]
      exact get_midJ _ _ _
     have Fx := Lib.hid fx
     have Fy := Lib.hid fy
     clear fx fy
     obtain ⟨cx0, cx1⟩ := Hdb2.out.at Fx.out
     obtain ⟨cy0, cy1⟩ := Hdb2.out.at Fy.out
     have fr := Hdb2.out.frozen
     have p0 : (0 : Int) ≤ (k : Int) + 1 := by omega
     have e0 : ((k : Int) + 1).toNat = k + 1 := by omega
     have jz : (k : Int) + 1 < (N : Int) := by omega
     have jz1 : (k : Int) < (N : Int) := by omega
     have hwp : IntKind.i64.wrap ((k : Int) + 1) = (k : Int) + 1 := by rw [IntKind.wrap_i64]; omega
     have jz2 : k + 1 < N := by omega
     have jz3 : k < N := by omega
     have ne0 : k * 2 ≠ (k + 1) * 2 := by omega
     have ne1 : k * 2 + 1 ≠ (k + 1) * 2 := by omega
     go_wp2
     go_big_region_o
     all_goals go_wp2
     refine ⟨⟨k + 1, V1 ++ [y], V3, by go_num, by rw [E1.out]; simp, by simp; have := Ek.out; omega, by omega, ?_, GX.drew ((hgx2.put _ _ _ _).put _ _ _ _)⟩, by simp [intOf]; omega⟩
     have h1 := (Hdb2.out.put (List.getElem?_eq_some_iff.1 Fx.out).1 y).put (i := k + 1) (by rw [List.length_set]; exact (List.getElem?_eq_some_iff.1 Fy.out).1) u
     have e := swap_listJ (P ++ V1) [] (V3 ++ S) u y
     rw [show (P ++ V1).length = k by simp; have := Ek.out; have := Ea.out; omega] at e
     simp only [List.length_nil, Nat.add_zero, List.nil_append] at e
     rw [show P ++ (V1 ++ u :: (y :: V3 ++ S)) = P ++ V1 ++ u :: y :: (V3 ++ S) by simp, e] at h1
     rw [show P ++ (V1 ++ [y] ++ u :: (V3 ++ S)) = P ++ V1 ++ y :: u :: (V3 ++ S) by simp]
     exact h1
    ·have dk : decide ((k : Int) < (i : Int) - 1) = false := by simp; omega
     have hfin : ∃ M' : List J, M'.Perm (u :: V) ∧ UpTJ K M' ∧ DBxJ wr g (P ++ (M' ++ S)) := by
      have GV : ∀ x ∈ V, GoodTJ K g w0 x := fun x hx => HG.out x (by simp [hx])
      have gu : GoodTJ K g w0 u := HG.out u (by simp)
      refine ⟨V1 ++ u :: V2, by rw [E1.out]; exact List.perm_middle, up_insertT2J (by rw [← E1.out]; exact HV.out) (fun y hy => ?_) (fun y hy => ?_), by have := Hdb2.out; simpa using this⟩
      ·obtain ⟨t, ht, rfl⟩ := List.getElem_of_mem hy
       have := Lo.out t V1[t] (by rw [E1.out, List.getElem?_append_left ht]; exact List.getElem?_eq_getElem ht) (by have := Ek.out; have := Em.out; omega)
       omega
      ·obtain ⟨t, ht, rfl⟩ := List.getElem_of_mem hy
       have := Hi.out (V1.length + t) V2[t] (by rw [E1.out, List.getElem?_append_right (by omega), Nat.add_sub_cancel_left]; exact List.getElem?_eq_getElem ht) (by have := Ek.out; have := Em.out; omega)
       have := cmpTJ_swap (GV V2[t] (by rw [E1.out]; simp)) gu
       omega
     have Hfin := Lib.hid hfin
     clear hfin
     go_wp2
     exact bodyPost_ret (by simp [results, Tryz.results225, go_sem]) rfl ⟨rfl, Hfin.out, hgx2⟩
end Go.Proofs.YtifpomonpneanaaGreat
namespace Go.Proofs.YtifpomonpneanaaGreat
open Go.RowKit Go.Calm
set_option linter.unusedSimpArgs false
set_option linter.unusedVariables false
variable {K : KJ}
set_option maxRecDepth 100000 in
set_option maxHeartbeats 8000000 in
theorem sym_rightTJ (P U S : List J) (v : J) (a m b : Nat) (N c : Nat) (ha : a = P.length) (hm : m = a + U.length) (hU2 : 2 ≤ U.length) (hb : b = m + 1) (hN : N = (P ++ (U ++ v :: S)).length) (hmax : N ≤ 1000000) (g : Nat) (w0 w : World) (hT : ∀ x ∈ U, tgJ x v) (hG : ∀ x ∈ U ++ [v], GoodTJ K g w0 x) (hg0 : GX g w0 w) (hU : UpTJ K U) (hd : DBxJ w g (P ++ (U ++ v :: S))) :
  Calls Tryz.prog 225 #[.slice (some ⟨g, 0, none⟩) N c, .int .i64 a, .int .i64 m, .int .i64 b, (cmpFTJ K)] w fun en w' => en = .returned (.tuple #[]) ∧ (∃ M' : List J, M'.Perm (U ++ [v]) ∧ UpTJ K M' ∧ DBxJ w' g (P ++ (M' ++ S))) ∧ GX g w w' := by
 have mixed : Tryz.prog.follows .mixedOrders = true := by kernel_rfl
 have hN' : N = a + U.length + 1 + S.length := by rw [hN, ha]; simp; omega
 have hbN : b ≤ N := by omega
 have d0 : ((m : Int) - (a : Int) == 1) = false := by simp; omega
 have d1 : ((b : Int) - (m : Int) == 1) = true := by simp; omega
 have ham : a < m := by omega
 have Hd := Lib.hid hd
 have HN := Lib.hid hN'
 have Ea := Lib.hid ha
 have Em := Lib.hid hm
 have Eb := Lib.hid hb
 have HG := Lib.hid hG
 have HU := Lib.hid hU
 have hmb : m < N := by omega
 have haN : a < N := by omega
 have HTg := Lib.hid hT
 clear hd hN hN' ha hm hb hG hU hT
 go_enter Tryz.func225, Tryz.ntmps225
 go_wp2
 go_loopw [14, 15] (fun si sj wr => ∃ (i j : Nat), si = .int .i64 (i : Int) ∧ sj = .int .i64 (j : Int) ∧ a ≤ i ∧ i ≤ j ∧ j ≤ m ∧ (∀ t x, U[t]? = some x → a + t < i → cmpTJ K x v ≤ 0) ∧ (∀ t x, U[t]? = some x → j ≤ a + t → cmpTJ K v x < 0) ∧ DBxJ wr g (P ++ (U ++ v :: S)) ∧ GX g w wr) (fun si sj _ => (intOf sj).toNat - (intOf si).toNat)
 case atStart => exact ⟨a, m, rfl, rfl, Nat.le_refl _, by omega, Nat.le_refl _, fun t v h1 h2 => by omega, fun t v h1 h2 => by have := (List.getElem?_eq_some_iff.1 h1).1; have := Em.out; omega, Hd.out, GX.refl _ _⟩
 case round =>
  obtain ⟨i, j, rfl, rfl, hmi, hij, hjb, hlo, hhi, hdb, hgx⟩ := hrel
  have Lo := Lib.hid hlo
  have Hi := Lib.hid hhi
  have Hdb := Lib.hid hdb
  have hgw := hg0.trans hgx
  clear hlo hhi hdb
  by_cases hlt : i < j
  ·have dl : decide ((i : Int) < (j : Int)) = true := by simp; omega
   obtain ⟨h, eh⟩ : ∃ h : Nat, h = (i + j) / 2 := ⟨_, rfl⟩
   have eh2 : ((i : Int) + (j : Int)) / 2 = (h : Int) := by omega
   have h1 : i ≤ h := by omega
   have h2 : h < j := by omega
   have hbig : (i : Int) + j ≤ 2000000 := by omega
   have hhN : h < N := by omega
   obtain ⟨x, hx⟩ : ∃ x, U[h - a]? = some x := ⟨_, List.getElem?_eq_getElem (by have := Em.out; omega)⟩
   have fv : (P ++ (U ++ v :: S))[m]? = some v := by
    rw [← List.append_assoc, show m = (P ++ U).length by simp; have := Ea.out; have := Em.out; omega]
    exact get_midJ _ _ _
   have fx : (P ++ (U ++ v :: S))[h]? = some x := by
    rw [List.getElem?_append_right (by have := Ea.out; omega), List.getElem?_append_left (by have := Ea.out; have := Em.out; omega), show h - P.length = h - a by have := Ea.out; omega]
    exact hx
   have gv : GoodTJ K g w0 v := HG.out v (by simp)
   have gx : GoodTJ K g w0 x := HG.out x (by simp [List.mem_of_getElem? hx])
   have Fv := Lib.hid fv
   have Fx := Lib.hid fx
   have Hx := Lib.hid hx
   have Eh := Lib.hid eh
   clear fv fx hx eh
   obtain ⟨cr, hcr⟩ : ∃ q, cmpKJ K v x = q := ⟨_, rfl⟩
   have cc := fun W (h : GX g w0 W) => cmp_fnTJ K v x g w0 W gv gx h
   rw [hcr] at cc
   have htg : tgJ x v := HTg.out x (List.mem_of_getElem? Hx.out)
   have hlt9 := cmpKJ_lt gv gx htg
   rw [hcr] at hlt9
   have Hcr := Lib.hid hlt9
   clear hcr hlt9 htg
   go_upto_region 17 with fail
   apply wp_region_calm 12 (by kernel_rfl) (by kernel_rfl)
   case h' =>
    intro Q0 hQ0
    simp only [List.take_succ_cons, List.take_zero]
    repeat (
     first
      | (apply calm_p rfl; case h1 => (intro w1 hw1 hF K hK; obtain ⟨cx0, cx1⟩ := (Hdb.out.grow hw1).at Fv.out; obtain ⟨cy0, cy1⟩ := (Hdb.out.grow hw1).at Fx.out; go_simp; first | exact hK _ (Grow.refl _) | (go_at_call 192; ((with_reducible refine (cc _ (hgw.grow hw1)).mono ?_); rintro e w' ⟨rfl, hg⟩; exact ⟨_, rfl, hK _ hg⟩))))
      | (apply calm_y rfl rfl rfl; case h1 => (intro w1 hw1 hF K hK; obtain ⟨cx0, cx1⟩ := (Hdb.out.grow hw1).at Fv.out; obtain ⟨cy0, cy1⟩ := (Hdb.out.grow hw1).at Fx.out; go_simp; first | exact hK _ (Grow.refl _) | (go_at_call 192; ((with_reducible refine (cc _ (hgw.grow hw1)).mono ?_); rintro e w' ⟨rfl, hg⟩; exact ⟨_, rfl, hK _ hg⟩))))
      | apply calm_n rfl rfl rfl rfl
     intro K hK
     go_simp
     apply hK
     clear hK K)
    refine calm_nil ?_
    intro w1 hw1 hF
    apply hQ0
    clear hQ0
    simp only [List.drop_succ_cons, List.drop_zero]
    clear hF
    have Hdb3 := Lib.hid (Hdb.out.grow hw1)
    have GU : ∀ x ∈ U, GoodTJ K g w0 x := fun x hx => HG.out x (by simp [hx])
    by_cases hc : cr < 0
    ·have dc : decide (cr < 0) = true := by simpa using hc
     have hnew : ∀ t x', U[t]? = some x' → h ≤ a + t → cmpTJ K v x' < 0 := fun t x' ht hlt' => by
      have g' := GU x' (List.mem_of_getElem? ht)
      exact lt_leTJ gv gx g' (Hcr.out.2 hc) (up_getTJ HU.out GU Hx.out ht (by omega))
     have Hnew := Lib.hid hnew
     clear hnew hc
     simp only [dc, Bool.not_true]
     go_wp2
     go_roundw
     case rel => exact ⟨i, h, rfl, by go_num, hmi, h1, by omega, Lo.out, Hnew.out, Hdb3.out, hgx.grow hw1⟩
     case measure => simp [intOf]; omega
    ·have dc : decide (cr < 0) = false := by simpa using hc
     have hnew : ∀ t x', U[t]? = some x' → a + t < h + 1 → cmpTJ K x' v ≤ 0 := fun t x' ht hlt' => by
      have g' := GU x' (List.mem_of_getElem? ht)
      have h5 := up_getTJ HU.out GU ht Hx.out (by omega)
      have h6 := cmpTJ_swap gv gx
      have h9 := mt Hcr.out.1 hc
      exact cmpTJ_trans g' gx gv h5 (by omega)
     have Hnew := Lib.hid hnew
     clear hnew hc
     simp only [dc, Bool.not_false]
     go_wp2
     go_roundw
     case rel => exact ⟨h + 1, j, by go_num, rfl, by omega, by omega, hjb, Hnew.out, Hi.out, Hdb3.out, hgx.grow hw1⟩
     case measure => simp [intOf]; omega
   case hp' => trivial
  ·obtain rfl : i = j := by omega
   have dl : decide ((i : Int) < (i : Int)) = false := by simp
   clear hlt
   go_wp2
   go_loopw [17] (fun sk w3 => ∃ (k : Nat) (U1 U2 : List J), sk = .int .i64 (k : Int) ∧ U = U1 ++ U2 ∧ k = a + U1.length ∧ i ≤ k ∧ k ≤ m ∧ DBxJ w3 g (P ++ (U1 ++ v :: (U2 ++ S))) ∧ GX g w w3) (fun sk _ => (intOf sk).toNat)
   case atStart => exact ⟨m, U, [], rfl, by simp, Em.out, hjb, Nat.le_refl _, by have := Hdb.out; simpa using this, hgx⟩
   case round =>
    obtain ⟨k, U1, U2, rfl, e1, ek, hki, hkm, hdb2, hgx2⟩ := hrel
    have E1 := Lib.hid e1
    have Ek := Lib.hid ek
    have Hdb2 := Lib.hid hdb2
    have hak : a ≤ k := by omega
    clear e1 ek hdb2
    by_cases hk2 : i < k
    ·obtain ⟨L', y, hL⟩ : ∃ L' y, U1 = L' ++ [y] := by
      rcases List.eq_nil_or_concat U1 with hL | ⟨L', y, hL⟩
      ·exfalso; have := Ek.out; rw [hL] at this; simp at this; omega
      ·exact ⟨L', y, by simpa using hL⟩
     subst hL
     obtain ⟨jp, rfl⟩ : ∃ jp, k = jp + 1 := ⟨k - 1, by omega⟩
     have ejp : jp = a + L'.length := by have := Ek.out; simp at this; omega
     have Ejp := Lib.hid ejp
     have dk : decide ((i : Int) < (jp : Int) + 1) = true := by simp; omega
     have fx : (P ++ (L' ++ [y] ++ v :: (U2 ++ S)))[jp + 1]? = some v := by
      rw [show P ++ (L' ++ [y] ++ v :: (U2 ++ S)) = (P ++ (L' ++ [y])) ++ v :: (U2 ++ S) by simp, show jp + 1 = (P ++ (L' ++ [y])).length by simp; have := Ejp.out; have := Ea.out; omega]
      exact get_midJ _ _ _
     have fy : (P ++ (L' ++ [y] ++ v :: (U2 ++ S)))[jp]? = some y := by
      rw [show P ++ (L' ++ [y] ++ v :: (U2 ++ S)) = (P ++ L') ++ y :: (v :: (U2 ++ S)) by simp, show jp = (P ++ L').length by simp; have := Ejp.out; have := Ea.out; omega]
      exact get_midJ _ _ _
     have Fx := Lib.hid fx
     have Fy := Lib.hid fy
     clear fx fy ejp
     obtain ⟨cx0, cx1⟩ := Hdb2.out.at Fx.out
     obtain ⟨cy0, cy1⟩ := Hdb2.out.at Fy.out
     have fr := Hdb2.out.frozen
     have p0 : (0 : Int) ≤ (jp : Int) + 1 := by omega
     have e0 : ((jp : Int) + 1).toNat = jp + 1 := by omega
     have jz : (jp : Int) + 1 < (N : Int) := by omega
     have jz1 : (jp : Int) < (N : Int) := by omega
     have hwp : IntKind.i64.wrap (jp : Int) = (jp : Int) := by rw [IntKind.wrap_i64]; omega
     have jz2 : jp + 1 < N := by omega
     have jz3 : jp < N := by omega
     have ne0 : (jp + 1) * 2 ≠ jp * 2 := by omega
     have ne1 : (jp + 1) * 2 + 1 ≠ jp * 2 := by omega
     go_wp2
     go_big_region_o
     all_goals go_wp2
     refine ⟨⟨jp, L', y :: U2, rfl, by rw [E1.out]; simp, Ejp.out, by omega, by omega, ?_, GX.drew ((hgx2.put _ _ _ _).put _ _ _ _)⟩, by simp [intOf]⟩
     have h1 := (Hdb2.out.put (List.getElem?_eq_some_iff.1 Fx.out).1 y).put (i := jp) (by rw [List.length_set]; exact (List.getElem?_eq_some_iff.1 Fy.out).1) v
     have e := swap_adjJ (P ++ L') (U2 ++ S) v y
     rw [show (P ++ L').length = jp by simp; have := Ejp.out; have := Ea.out; omega] at e
     rw [show P ++ (L' ++ [y] ++ v :: (U2 ++ S)) = P ++ L' ++ y :: v :: (U2 ++ S) by simp, e] at h1
     rw [show P ++ (L' ++ v :: (y :: U2 ++ S)) = P ++ L' ++ v :: y :: (U2 ++ S) by simp]
     exact h1
    ·obtain rfl : i = k := by omega
     have dk : decide ((i : Int) < (i : Int)) = false := by simp
     have hfin : ∃ M' : List J, M'.Perm (U ++ [v]) ∧ UpTJ K M' ∧ DBxJ wr g (P ++ (M' ++ S)) := by
      refine ⟨U1 ++ v :: U2, by rw [E1.out]; simpa using List.Perm.append_left U1 (List.perm_append_comm (l₁ := [v]) (l₂ := U2)), up_insertT2J (by rw [← E1.out]; exact HU.out) (fun y hy => ?_) (fun y hy => ?_), by have := Hdb2.out; simpa using this⟩
      ·obtain ⟨t, ht, rfl⟩ := List.getElem_of_mem hy
       exact Lo.out t U1[t] (by rw [E1.out, List.getElem?_append_left ht]; exact List.getElem?_eq_getElem ht) (by have := Ek.out; omega)
      ·obtain ⟨t, ht, rfl⟩ := List.getElem_of_mem hy
       have := Hi.out (U1.length + t) U2[t] (by rw [E1.out, List.getElem?_append_right (by omega), Nat.add_sub_cancel_left]; exact List.getElem?_eq_getElem ht) (by have := Ek.out; omega)
       omega
     have Hfin := Lib.hid hfin
     clear hfin
     go_wp2
     exact bodyPost_ret (by simp [results, Tryz.results225, go_sem]) rfl ⟨rfl, Hfin.out, hgx2⟩
end Go.Proofs.YtifpomonpneanaaGreat
