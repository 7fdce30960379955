/- Parts of a proof. No condition. -/
import Derived.Test.YtflggnopgnoeiaaGreatGE
set_option maxRecDepth 100000
set_option maxHeartbeats 8000000
set_option maxRecDepth 100000
set_option linter.unusedSimpArgs false
set_option linter.unusedVariables false
namespace Go
variable {p : Prop}
theorem vQ_ (h : p := by have := Ea.out; have := Em.out; omega) : p := h
theorem v2_ (h : p := by simp [qZ_ hx]) : p := h
theorem ue_ (h : p := by have := Ea.out; omega) : p := h
end Go
namespace Go.Proofs.YtflggnopgnoeiaaGreat
open Go.RowKit Go.Calm
section
variable {ck : Ck} {α : Type} {C : Cm ck α} {rs : List Value}
theorem Bw (P U S : List α) (v : α) (a m b : Nat) (N c : Nat) (ha : a = P.length) (hm : m = a + U.length) (hU2 : 2 <= U.length) (hb : b = m + 1) (hN : N = (P ++ (U ++ v :: S)).length) (hmax : N <= 1000000) (g : Nat) (w0 w : World) (hT : ∀ x ∈ U, C.tg x v) (hG : ∀ x ∈ U ++ [v], C.good g w0 x) (hg0 : GX g w0 w) (hU : C.Up U) (hd : DY C rs w g (P ++ (U ++ v :: S))) :
  Calls Tryz.prog ck.sym #[.slice (some ⟨g, 0, none⟩) N c, .int .i64 a, .int .i64 m, .int .i64 b, ck.F] w fun en w' => en = .returned (.tuple #[]) /\ (∃ M' : List α, M'.Perm (U ++ [v]) /\ C.Up M' /\ DY C rs w' g (P ++ (M' ++ S))) /\ GX g w w' := by
 cases ck
 all_goals as_aux_lemma =>
  dsimp only [Ck.swp, Ck.rot, Ck.ins, Ck.sym, Ck.stb, Ck.srt, Ck.F]; have mixed : Tryz.prog.follows .mixedOrders = true := by kernel_rfl
  have hN' : N = a + U.length + 1 + S.length := by rw [hN, ha]; simp; omega
  have hbN : b <= N := by omega
  have d0 : ((m : Int) - (a : Int) == 1) = false := by simp; omega
  have d1 : ((b : Int) - (m : Int) == 1) = true := by simp; omega
  have ham : a < m := by omega
  have Hd := hh_ hd; have HN := hh_ hN'; have Ea := hh_ ha; have Em := hh_ hm; have Eb := hh_ hb; have HG := hh_ hG; have HU := hh_ hU; have hmb : m < N := by omega
  have haN : a < N := by omega
  have HTg := hh_ hT; clear hd hN hN' ha hm hb hG hU hT
  first | go_enter Tryz.func188, Tryz.ntmps188 | go_enter Tryz.func222, Tryz.ntmps222 | go_enter Tryz.func125, Tryz.ntmps125
  go_wp2
  go_loopw [14, 15] (fun si sj wr => ∃ (i j : Nat), si = .int .i64 (i : Int) /\ sj = .int .i64 (j : Int) /\ a <= i /\ i <= j /\ j <= m /\ (∀ t x, U[t]? = some x -> a + t < i -> C.cmp x v <= 0) /\ (∀ t x, U[t]? = some x -> j <= a + t -> C.cmp v x < 0) /\ DY C rs wr g (P ++ (U ++ v :: S)) /\ GX g w wr) (fun si sj _ => (intOf sj).toNat - (intOf si).toNat)
  case atStart => exact ⟨a, m, rfl, rfl, Nat.le_refl _, by omega, Nat.le_refl _, fun t v h1 h2 => by omega, fun t v h1 h2 => by have := (qQ9.1 h1).1; have := Em.out; omega, Hd.out, GX.refl _ _⟩
  case round =>
   obtain ⟨i, j, rfl, rfl, hmi, hij, hjb, hlo, hhi, hdb, hgx⟩ := hrel; have Lo := hh_ hlo; have Hi := hh_ hhi; have Hdb := hh_ hdb; have hgw := hg0.trans hgx; clear hlo hhi hdb
   by_cases hlt : i < j
   ·have dl : decide ((i : Int) < (j : Int)) = true := by simp; omega
    obtain ⟨h, eh⟩ : ∃ h : Nat, h = (i + j) / 2 := ⟨_, rfl⟩
    have eh2 : ((i : Int) + (j : Int)) / 2 = (h : Int) := by omega
    have h1 : i <= h := by omega
    have h2 : h < j := by omega
    have hbig : (i : Int) + j <= 2000000 := by omega
    have hhN : h < N := by omega
    obtain ⟨x, hx⟩ : ∃ x, U[h - a]? = some x := ⟨_, qQ_ (by have := Em.out; omega)⟩
    have fv : (P ++ (U ++ v :: S))[m]? = some v := by
     rw [<- List.append_assoc, show m = (P ++ U).length by simp; have := Ea.out; have := Em.out; omega]; exact jC _ _ _
    have fx : (P ++ (U ++ v :: S))[h]? = some x := by
     rw [List.getElem?_append_right ue_, List.getElem?_append_left vQ_, show h - P.length = h - a by have := Ea.out; omega]; exact hx
    have gv : C.good g w0 v := HG.out v uY_; have gx : C.good g w0 x := HG.out x v2_; have Fv := hh_ fv; have Fx := hh_ fx; have Hx := hh_ hx; have Eh := hh_ eh; clear fv fx hx eh; obtain ⟨cr, hcr⟩ : ∃ q, C.ans v x = q := ⟨_, rfl⟩
    have cc := fun W (h : GX g w0 W) => C.call v x g w0 W gv gx h
    rw [hcr] at cc; dsimp only [Ck.fn, Ck.args, Ck.v, Ck.c0, Ck.c1] at cc; have htg : C.tg x v := HTg.out x (qZ_ Hx.out); have hlt9 := C.lt gv gx htg; rw [hcr] at hlt9; have Hcr := hh_ hlt9; clear hcr hlt9 htg; go_upto_region 17 with fail
    apply wp_region_calm 12 uQ_ uQ_
    case h' =>
     intro Q0 hQ0; simp only [List.take_succ_cons, List.take_zero]
     repeat ((first | ((first | apply calm_p rfl | apply zu rfl rfl rfl); case h1 => (intro w1 hw1 hF K hK; obtain ⟨cx0, cx1⟩ := (Hdb.out.grow hw1).at Fv.out; dsimp only [Ck.c0, Ck.c1] at cx0 cx1; obtain ⟨cy0, cy1⟩ := (Hdb.out.grow hw1).at Fx.out; dsimp only [Ck.c0, Ck.c1] at cy0 cy1; go_simp; first | exact hK _ (za.refl _) | ((first | go_at_call 134 | go_at_call 201 | go_at_call 213 | go_at_call 26); ((with_reducible refine (cc _ (hgw.grow hw1)).mono ?_); rintro e w' ⟨rfl, hg⟩; exact ⟨_, rfl, hK _ hg⟩)))) | apply zw rfl rfl rfl rfl); intro K hK; go_simp; apply hK; clear hK K)
     refine calm_nil ?_; intro w1 hw1 hF; apply hQ0; clear hQ0; simp only [List.drop_succ_cons, List.drop_zero]; clear hF; have Hdb3 := hh_ (Hdb.out.grow hw1); have GU : ∀ x ∈ U, C.good g w0 x := fun x hx => HG.out x uR_
     by_cases hc : cr < 0
     ·have dc : decide (cr < 0) = true := by simpa using hc
      have hnew : ∀ t x', U[t]? = some x' -> h <= a + t -> C.cmp v x' < 0 := fun t x' ht hlt' => by
       have g' := GU x' (qZ_ ht); exact zb9 gv gx g' (Hcr.out.2 hc) (Wj HU.out GU Hx.out ht uX_)
      have Hnew := hh_ hnew; clear hnew hc; simp only [dc, Bool.not_true]; go_wp2; go_roundw
      case rel => exact x1_
      case measure => exact u1_
     ·have dc : decide (cr < 0) = false := by simpa using hc
      have hnew : ∀ t x', U[t]? = some x' -> a + t < h + 1 -> C.cmp x' v <= 0 := fun t x' ht hlt' => by
       have g' := GU x' (qZ_ ht); have h5 := Wj HU.out GU ht Hx.out uX_; have h6 := C.swap gv gx; have h9 := mt Hcr.out.1 hc; exact C.trans g' gx gv h5 uX_
      have Hnew := hh_ hnew; clear hnew hc; simp only [dc, Bool.not_false]; go_wp2; go_roundw
      case rel => exact xQ_
      case measure => exact u1_
    case hp' => trivial
   ·obtain rfl : i = j := by omega
    have dl : decide ((i : Int) < (i : Int)) = false := by simp
    clear hlt; go_wp2
    go_loopw [17] (fun sk w3 => ∃ (k : Nat) (U1 U2 : List α), sk = .int .i64 (k : Int) /\ U = U1 ++ U2 /\ k = a + U1.length /\ i <= k /\ k <= m /\ DY C rs w3 g (P ++ (U1 ++ v :: (U2 ++ S))) /\ GX g w w3) (fun sk _ => (intOf sk).toNat)
    case atStart => exact ⟨m, U, [], rfl, by simp, Em.out, hjb, Nat.le_refl _, by have := Hdb.out; simpa using this, hgx⟩
    case round =>
     obtain ⟨k, U1, U2, rfl, e1, ek, hki, hkm, hdb2, hgx2⟩ := hrel; have E1 := hh_ e1; have Ek := hh_ ek; have Hdb2 := hh_ hdb2; have hak : a <= k := by omega
     clear e1 ek hdb2
     by_cases hk2 : i < k
     ·obtain ⟨L', y, hL⟩ : ∃ L' y, U1 = L' ++ [y] := by
       rcases List.eq_nil_or_concat U1 with hL | ⟨L', y, hL⟩
       ·exfalso; have := Ek.out; rw [hL] at this; simp at this; omega
       ·exact ⟨L', y, by simpa using hL⟩
      subst hL; obtain ⟨jp, rfl⟩ : ∃ jp, k = jp + 1 := ⟨k - 1, by omega⟩
      have ejp : jp = a + L'.length := by have := Ek.out; simp at this; omega
      have Ejp := hh_ ejp; have dk : decide ((i : Int) < (jp : Int) + 1) = true := by simp; omega
      have fx : (P ++ (L' ++ [y] ++ v :: (U2 ++ S)))[jp + 1]? = some v := by
       rw [show P ++ (L' ++ [y] ++ v :: (U2 ++ S)) = (P ++ (L' ++ [y])) ++ v :: (U2 ++ S) by simp, show jp + 1 = (P ++ (L' ++ [y])).length by simp; have := Ejp.out; have := Ea.out; omega]; exact jC _ _ _
      have fy : (P ++ (L' ++ [y] ++ v :: (U2 ++ S)))[jp]? = some y := by
       rw [show P ++ (L' ++ [y] ++ v :: (U2 ++ S)) = (P ++ L') ++ y :: (v :: (U2 ++ S)) by simp, show jp = (P ++ L').length by simp; have := Ejp.out; have := Ea.out; omega]; exact jC _ _ _
      have Fx := hh_ fx; have Fy := hh_ fy; clear fx fy ejp; obtain ⟨cx0, cx1⟩ := Hdb2.out.at Fx.out; dsimp only [Ck.c0, Ck.c1] at cx0 cx1; obtain ⟨cy0, cy1⟩ := Hdb2.out.at Fy.out; dsimp only [Ck.c0, Ck.c1] at cy0 cy1; have fr := Hdb2.out.frozen; have p0 : (0 : Int) <= (jp : Int) + 1 := by omega
      have e0 : ((jp : Int) + 1).toNat = jp + 1 := by omega
      have jz : (jp : Int) + 1 < (N : Int) := by omega
      have jz1 : (jp : Int) < (N : Int) := by omega
      have hwp : IntKind.i64.wrap (jp : Int) = (jp : Int) := by rw [IntKind.wrap_i64]; omega
      have jz2 : jp + 1 < N := by omega
      have jz3 : jp < N := by omega
      have ne0 : (jp + 1) * 2 ≠ jp * 2 := by omega
      have ne2 : jp + 1 ≠ jp := by omega
      have ne1 : (jp + 1) * 2 + 1 ≠ jp * 2 := by omega
      go_wp2; go_big_region_o
      all_goals go_wp2
      refine ⟨⟨jp, L', y :: U2, rfl, by rw [E1.out]; simp, Ejp.out, by omega, by omega, ?_, GX.drew oi_⟩, by simp [intOf]⟩; have h1 := (Hdb2.out.put (qQ9.1 Fx.out).1 y).put (i := jp) oh_ v; have e := Rv (P ++ L') (U2 ++ S) v y; rw [show (P ++ L').length = jp by simp; have := Ejp.out; have := Ea.out; omega] at e; rw [show P ++ (L' ++ [y] ++ v :: (U2 ++ S)) = P ++ L' ++ y :: v :: (U2 ++ S) by simp, e] at h1; rw [show P ++ (L' ++ v :: (y :: U2 ++ S)) = P ++ L' ++ v :: y :: (U2 ++ S) by simp]; exact h1
     ·obtain rfl : i = k := by omega
      have dk : decide ((i : Int) < (i : Int)) = false := by simp
      have hfin : ∃ M' : List α, M'.Perm (U ++ [v]) /\ C.Up M' /\ DY C rs wr g (P ++ (M' ++ S)) := by
       refine ⟨U1 ++ v :: U2, by rw [E1.out]; simpa using List.Perm.append_left U1 (List.perm_append_comm (l₁ := [v]) (l₂ := U2)), KG v4_ (fun y hy => ?_) (fun y hy => ?_), by have := Hdb2.out; simpa using this⟩
       ·obtain ⟨t, ht, rfl⟩ := List.getElem_of_mem hy; exact Lo.out t U1[t] od_ (by have := Ek.out; omega)
       ·obtain ⟨t, ht, rfl⟩ := List.getElem_of_mem hy; have := Hi.out (U1.length + t) U2[t] oa_ (by have := Ek.out; omega); omega
      have Hfin := hh_ hfin; clear hfin; go_wp2; exact qX_ of_ rfl ⟨rfl, Hfin.out, hgx2⟩
end
def WS (x y : I) : Int := zv x4 x.row y.row
structure xP (g : Nat) (w0 : World) (x : I) : Prop where
 sl : ∀ W, GX g w0 W -> xi W x.A x.row
 len : x.row.length <= 9223372036854775807
 rv : ∀ v ∈ x.row, RV v
theorem qt : ∀ xs ys zs : List V, zv zO xs ys <= 0 -> zv zO ys zs <= 0 -> zv zO xs zs <= 0
 | [], ys, [], _, _ => by simp [zv]
 | [], ys, z :: zs, _, _ => by simp [zv]
 | x :: xs, [], zs, h, _ => by simp [zv] at h
 | x :: xs, y :: ys, [], _, h => by simp [zv] at h
 | x :: xs, y :: ys, z :: zs, h1, h2 => by
  have r1 := kD x y; have r2 := kD y z; have r3 := kD x z; have t1 := ZA x y z; have t2 := ZA z x y; have t3 := ZA y z x; have s1 := yq x y; have s2 := yq y z; have s3 := yq x z; have ih := qt xs ys zs; unfold zv at h1 h2 ⊢; split at h1 <;> split at h2 <;> split <;> omega
theorem R5 {g : Nat} {w0 : World} {x y z : I} (hx : xP g w0 x) (hy : xP g w0 y) (hz : xP g w0 z) (h1 : WS x y <= 0) (h2 : WS y z <= 0) : WS x z <= 0 := by
 unfold WS at *; rw [yg _ _ hx.rv hy.rv] at h1; rw [yg _ _ hy.rv hz.rv] at h2; rw [yg _ _ hx.rv hz.rv]; exact qt _ _ _ h1 h2
theorem UH {g : Nat} {w0 : World} {x y : I} (hx : xP g w0 x) (hy : xP g w0 y) : WS y x = - WS x y := by
 unfold WS; rw [yg _ _ hx.rv hy.rv, yg _ _ hy.rv hx.rv]; exact yo zO yq _ _
abbrev Up (L : List I) : Prop := L.Pairwise (fun x y => WS x y <= 0)
theorem zaZ (x y : I) (g : Nat) (w0 w : World) (hx : xP g w0 x) (hy : xP g w0 y) (hg : GX g w0 w) : Calls Tryz.prog 134 #[x.val, y.val] w fun e w' => e = .returned (.int .i64 (WS x y)) /\ za w w' := by
 have c := fun W (h : za w W) => qY x.row y.row x.A y.A x.cap y.cap W hx.len hy.len (hx.sl _ (hg.grow h)) (hy.sl _ (hg.grow h))
 unfold I.val; go_enter Tryz.func134, Tryz.ntmps134
 go_wp2_with (go_at_call 27; ((with_reducible refine (c _ ze).mono ?_); rintro e w' ⟨rfl, hg'⟩))
 go_ret; exact ⟨rfl, ze⟩
