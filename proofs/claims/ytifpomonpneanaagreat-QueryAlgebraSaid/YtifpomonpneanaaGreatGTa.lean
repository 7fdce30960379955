/-
 Joined texts of this claim: Tt4, Tt5, Tt6. What each proves its own head says; no condition beside those that each theorem names.
-/
import Derived.Test.YtifpomonpneanaaGreatGTd
import Derived.Deep.DeepCutAuto
namespace Go.Proofs.YtifpomonpneanaaGreat
open Go.RowKit Go.Calm
set_option linter.unusedSimpArgs false
set_option linter.unusedVariables false
variable {K : KS}
abbrev cmpFT (K : KS) : Value := .func (.func 151) #[] #[.pointer (some ⟨K.gk, 0, none⟩)]
theorem up_insertT {g : Nat} {w0 : World} {L R : List I} {x : I} (hG : ∀ y ∈ L ++ x :: R, GoodT K g w0 y) (hu : UpT K (L ++ R)) (hl : ∀ y, L.getLast? = some y → cmpT K y x ≤ 0) (hr : ∀ y ∈ R, cmpT K x y < 0) : UpT K (L ++ x :: R) := by
 unfold UpT at hu ⊢
 rw [List.pairwise_append] at hu ⊢
 obtain ⟨h1, h2, h3⟩ := hu
 have hlx : ∀ y ∈ L, cmpT K y x ≤ 0 := fun y hy => by
  rcases List.eq_nil_or_concat L with h | ⟨L', z, h⟩
  ·subst h; simp at hy
  ·have h : L = L' ++ [z] := by simpa using h
   subst h
   have hz := hl z (by simp)
   rcases List.mem_append.1 hy with hy' | hy'
   ·rw [List.pairwise_append] at h1
    exact cmpT_trans (hG y (by simp [hy'])) (hG z (by simp)) (hG x (by simp)) (h1.2.2 y hy' z (by simp)) hz
   ·simp at hy'; subst hy'; exact hz
 refine ⟨h1, ?_, fun y hy z hz => ?_⟩
 ·rw [List.pairwise_cons]
  exact ⟨fun y hy => by have := hr y hy; omega, h2⟩
 ·rcases List.mem_cons.1 hz with rfl | hz
  ·exact hlx y hy
  ·exact h3 y hy z hz
set_option maxRecDepth 100000 in
set_option maxHeartbeats 8000000 in
theorem ins_sortT (P M S : List I) (aI bI : Int) (N c : Nat) (ha : aI = P.length) (hb : bI = P.length + M.length) (hN : N = (P ++ (M ++ S)).length) (hmax : N ≤ 1000000) (g : Nat) (w0 w : World) (hT : M.Pairwise tg) (hG : ∀ x ∈ M, GoodT K g w0 x) (hg0 : GX g w0 w) (hd : DBx w g (P ++ (M ++ S))) :
  Calls Tryz.prog 203 #[.slice (some ⟨g, 0, none⟩) N c, .int .i64 aI, .int .i64 bI, (cmpFT K)] w fun en w' => en = .returned (.tuple #[]) ∧ (∃ M' : List I, M'.Perm M ∧ UpT K M' ∧ DBx w' g (P ++ (M' ++ S))) ∧ GX g w w' := by
 have mixed : Tryz.prog.follows .mixedOrders = true := by kernel_rfl
 obtain ⟨a, ea⟩ : ∃ a : Nat, a = P.length := ⟨_, rfl⟩
 obtain rfl : aI = (a : Int) := by omega
 obtain ⟨b, eb⟩ : ∃ b : Nat, b = a + M.length := ⟨_, rfl⟩
 obtain rfl : bI = (b : Int) := by omega
 have hN' : N = a + M.length + S.length := by rw [hN, ea]; simp; omega
 have hbN : b ≤ N := by omega
 have hab : a ≤ b := by omega
 have Hd := Lib.hid hd
 have HN := Lib.hid hN'
 have Ea := Lib.hid ea
 have Eb := Lib.hid eb
 have HG := Lib.hid hG
 have HTg := Lib.hid hT
 clear hd hN hN' ea eb ha hb hG hT
 go_enter Tryz.func203, Tryz.ntmps203
 go_wp2
 go_loopw [8] (fun i wr => ∃ (k : Nat) (M1 M2 : List I), i = .int .i64 (k : Int) ∧ a + 1 ≤ k ∧ k ≤ b + 1 ∧ (M = [] ∧ M1 = [] ∧ M2 = [] ∨ k = a + M1.length ∧ 1 ≤ M1.length) ∧ (M1 ++ M2).Perm M ∧ UpT K M1 ∧ DBx wr g (P ++ (M1 ++ (M2 ++ S))) ∧ GX g w wr ∧ (∀ y ∈ M1, ∀ z ∈ M2, tg y z) ∧ M2.Pairwise tg) (fun i _ => b + 1 - (intOf i).toNat)
 case atStart =>
  cases hM : M with
  | nil => exact ⟨a + 1, [], [], by go_num, Nat.le_refl _, by omega, .inl ⟨rfl, rfl, rfl⟩, List.Perm.refl _, List.Pairwise.nil, by have := Hd.out; rw [hM] at this; simpa using this, GX.refl _ _, fun y hy => by simp at hy, List.Pairwise.nil⟩
  | cons x M' => exact ⟨a + 1, [x], M', by go_num, Nat.le_refl _, by omega, .inr ⟨rfl, Nat.le_refl _⟩, List.Perm.refl _, List.pairwise_singleton _ _, by have := Hd.out; rw [hM] at this; simpa using this, GX.refl _ _, fun y hy z hz => by have h := HTg.out; rw [hM, List.pairwise_cons] at h; simp at hy; subst hy; exact h.1 z hz, by have h := HTg.out; rw [hM, List.pairwise_cons] at h; exact h.2⟩
 case round =>
  obtain ⟨k, M1, M2, rfl, hk1, hk2, hform, hperm, hup, hdb, hgx, htgx, htgp⟩ := hrel
  have TGX := Lib.hid htgx
  have TGP := Lib.hid htgp
  clear htgx htgp
  have Form := Lib.hid hform
  have HP := Lib.hid hperm
  have HU := Lib.hid hup
  have Hdb := Lib.hid hdb
  clear hform hperm hup hdb
  by_cases hlt : k < b
  ·have d0 : decide ((k : Int) < (b : Int)) = true := by simp; omega
   obtain ⟨hk, hM1⟩ : k = a + M1.length ∧ 1 ≤ M1.length := by
    rcases Form.out with ⟨h1, _, _⟩ | h
    ·exfalso; have := Eb.out; rw [h1] at this; simp at this; omega
    ·exact h
   have hlen : M1.length + M2.length = M.length := by have := HP.out.length_eq; simpa using this
   obtain ⟨x, M3, rfl⟩ : ∃ x M3, M2 = x :: M3 := by
    match M2, hlen with
    | [], hlen => exfalso; have := Eb.out; simp at hlen; omega
    | x :: M3, _ => exact ⟨x, M3, rfl⟩
   have HG2 : ∀ y ∈ M1 ++ x :: M3, GoodT K g w0 y := fun y hy => HG.out y (HP.out.mem_iff.1 hy)
   have HG2' := Lib.hid HG2
   have Hk := Lib.hid hk
   have Hlen := Lib.hid hlen
   clear HG2 hlen Form hk
   go_wp2
   go_loopw [9] (fun j wr2 => ∃ (jn : Nat) (L R : List I), j = .int .i64 (jn : Int) ∧ M1 = L ++ R ∧ jn = a + L.length ∧ (∀ y ∈ R, cmpT K x y < 0) ∧ DBx wr2 g (P ++ (L ++ x :: (R ++ (M3 ++ S)))) ∧ GX g w wr2) (fun j _ => (intOf j).toNat)
   case atStart => exact ⟨k, M1, [], rfl, by simp, Hk.out, by simp, by have := Hdb.out; simpa using this, hgx⟩
   case round =>
    obtain ⟨jn, L, R, rfl, e1, ej, hR, hdb2, hgx2⟩ := hrel
    have E1 := Lib.hid e1
    have HR := Lib.hid hR
    have Hdb2 := Lib.hid hdb2
    have hgw := hg0.trans hgx2
    have hLb : jn < b := by have := congrArg List.length E1.out; simp at this; have := Hk.out; omega
    have Ej := Lib.hid ej
    clear e1 hR hdb2 ej
    rcases List.eq_nil_or_concat L with hL | ⟨L', y, hL⟩
    ·subst hL
     obtain rfl : jn = a := by have := Ej.out; simpa using this
     have hfin : UpT K (x :: R) := up_insertT (L := []) (fun y hy => HG2'.out y (by
      rcases List.mem_cons.1 hy with h | h
      ·subst h; simp
      ·rw [E1.out]; simp [h])) (by rw [← E1.out]; exact HU.out) (by simp) HR.out
     have Hfin := Lib.hid hfin
     clear hfin
     go_wp2
     go_big_region_o
     all_goals go_wp2
     go_roundw
     case rel =>
      refine ⟨k + 1, x :: R, M3, by go_num, by omega, by omega, .inr ⟨?_, by simp⟩, ?_, Hfin.out, DBx.drew (by have := Hdb2.out; simpa using this), hgx2.drew, fun y2 hy z hz => by
       have h := TGP.out
       rw [List.pairwise_cons] at h
       have hy2 : y2 = x ∨ y2 ∈ M1 := by rw [E1.out]; simp at hy ⊢; rcases hy with h | h <;> simp [h]
       rcases hy2 with rfl | hy2
       ·exact h.1 z hz
       ·exact TGX.out y2 hy2 z (List.mem_cons_of_mem _ hz), by have h := TGP.out; rw [List.pairwise_cons] at h; exact h.2⟩
      ·have := congrArg List.length E1.out; have := Hk.out; simp at *; omega
      ·refine List.Perm.trans ?_ HP.out
       rw [E1.out]
       simpa using (List.perm_middle (a := x) (l₁ := R) (l₂ := M3)).symm
     case measure => simp [intOf]; omega
    ·have hL : L = L' ++ [y] := by simpa using hL
     subst hL
     obtain ⟨jp, rfl⟩ : ∃ jp, jn = jp + 1 := ⟨jn - 1, by have := Ej.out; simp at this; omega⟩
     have ejp : jp = a + L'.length := by have := Ej.out; simp at this; omega
     have Ejp := Lib.hid ejp
     have dj : decide ((a : Int) < (jp : Int) + 1) = true := by simp; omega
     have p0 : (0 : Int) ≤ (jp : Int) + 1 := by omega
     have e0 : ((jp : Int) + 1).toNat = jp + 1 := by omega
     have jz : (jp : Int) + 1 < (N : Int) := by omega
     have jz1 : (jp : Int) < (N : Int) := by omega
     have hwp : IntKind.i64.wrap (jp : Int) = (jp : Int) := by rw [IntKind.wrap_i64]; omega
     have jz2 : jp + 1 < N := by omega
     have jz3 : jp < N := by omega
     have fx : (P ++ (L' ++ [y] ++ x :: (R ++ (M3 ++ S))))[jp + 1]? = some x := by
      rw [show P ++ (L' ++ [y] ++ x :: (R ++ (M3 ++ S))) = (P ++ (L' ++ [y])) ++ x :: (R ++ (M3 ++ S)) by simp, show jp + 1 = (P ++ (L' ++ [y])).length by simp; have := Ejp.out; have := Ea.out; omega]
      exact get_mid _ _ _
     have fy : (P ++ (L' ++ [y] ++ x :: (R ++ (M3 ++ S))))[jp]? = some y := by
      rw [show P ++ (L' ++ [y] ++ x :: (R ++ (M3 ++ S))) = (P ++ L') ++ y :: (x :: (R ++ (M3 ++ S))) by simp, show jp = (P ++ L').length by simp; have := Ejp.out; have := Ea.out; omega]
      exact get_mid _ _ _
     have gx : GoodT K g w0 x := HG2'.out x (by simp)
     have gy : GoodT K g w0 y := HG2'.out y (by rw [E1.out]; simp)
     have Fx := Lib.hid fx
     have Fy := Lib.hid fy
     clear fx fy ejp
     obtain ⟨cr, hcr⟩ : ∃ q, cmpK K x y = q := ⟨_, rfl⟩
     have cc := fun W (h : GX g w0 W) => cmp_fnT K x y g w0 W gx gy h
     rw [hcr] at cc
     have htg : tg y x := TGX.out y (by rw [E1.out]; simp) x (by simp)
     have hlt9 := cmpK_lt gx gy htg
     rw [hcr] at hlt9
     have Hcr := Lib.hid hlt9
     clear hcr hlt9 htg
     go_wp2
     apply wp_region_calm 17 (by kernel_rfl) (by kernel_rfl)
     case h' =>
      intro Q0 hQ0
      simp only [List.take_succ_cons, List.take_zero]
      repeat (
       first
        | (apply calm_p rfl; case h1 => (intro w1 hw1 hF K hK; obtain ⟨cx0, cx1⟩ := (Hdb2.out.grow hw1).at Fx.out; obtain ⟨cy0, cy1⟩ := (Hdb2.out.grow hw1).at Fy.out; go_simp; first | exact hK _ (Grow.refl _) | (go_at_call 151; ((with_reducible refine (cc _ (hgw.grow hw1)).mono ?_); rintro e w' ⟨rfl, hg⟩; exact ⟨_, rfl, hK _ hg⟩))))
        | (apply calm_y rfl rfl rfl; case h1 => (intro w1 hw1 hF K hK; obtain ⟨cx0, cx1⟩ := (Hdb2.out.grow hw1).at Fx.out; obtain ⟨cy0, cy1⟩ := (Hdb2.out.grow hw1).at Fy.out; go_simp; first | exact hK _ (Grow.refl _) | (go_at_call 151; ((with_reducible refine (cc _ (hgw.grow hw1)).mono ?_); rintro e w' ⟨rfl, hg⟩; exact ⟨_, rfl, hK _ hg⟩))))
        | apply calm_n rfl rfl rfl rfl
       intro K hK
       go_simp
       apply hK
       clear hK K)
      refine calm_nil ?_
      intro w1 hw1 hF
      apply hQ0
      clear hQ0
      simp only [List.drop_succ_cons, List.drop_zero]
      clear hF
      have Hdb3 := Lib.hid (Hdb2.out.grow hw1)
      by_cases hc : cr < 0
      ·have dc : decide (cr < 0) = true := by simpa using hc
       obtain ⟨cx0, cx1⟩ := Hdb3.out.at Fx.out
       obtain ⟨cy0, cy1⟩ := Hdb3.out.at Fy.out
       have fr := Hdb3.out.frozen
       have ne0 : (jp + 1) * 2 ≠ jp * 2 := by omega
       have ne1 : (jp + 1) * 2 + 1 ≠ jp * 2 := by omega
       have Hc := Lib.hid hc
       clear hc
       simp only [dc]
       go_wp2
       go_big_region_o
       all_goals go_wp2
       refine ⟨⟨jp, L', y :: R, rfl, by rw [E1.out]; simp, Ejp.out, ?_, ?_, GX.drew (((hgx2.grow hw1).put _ _ _ _).put _ _ _ _)⟩, by simp [intOf]⟩
       ·intro z hz
        rcases List.mem_cons.1 hz with rfl | hz
        ·exact Hcr.out.2 Hc.out
        ·exact HR.out z hz
       ·have h1 := (Hdb3.out.put (List.getElem?_eq_some_iff.1 Fx.out).1 y).put (i := jp) (by rw [List.length_set]; exact (List.getElem?_eq_some_iff.1 Fy.out).1) x
        have e := swap_adj (P ++ L') (R ++ (M3 ++ S)) x y
        rw [show (P ++ L').length = jp by simp; have := Ejp.out; have := Ea.out; omega] at e
        rw [show P ++ (L' ++ [y] ++ x :: (R ++ (M3 ++ S))) = P ++ L' ++ y :: x :: (R ++ (M3 ++ S)) by simp, e] at h1
        rw [show P ++ (L' ++ x :: (y :: R ++ (M3 ++ S))) = P ++ L' ++ x :: y :: (R ++ (M3 ++ S)) by simp]
        exact h1
      ·have dc : decide (cr < 0) = false := by simpa using hc
       have hfin : UpT K (L' ++ [y] ++ x :: R) := up_insertT (L := L' ++ [y]) (fun z hz => HG2'.out z (by rw [E1.out]; simp at hz ⊢; rcases hz with h | h | h | h <;> simp [h])) (by rw [← E1.out]; exact HU.out) (fun z hz => by
        simp at hz; subst hz
        have := cmpT_swap gx gy
        have h9 := mt Hcr.out.1 hc
        omega) HR.out
       have Hfin := Lib.hid hfin
       clear hfin hc
       simp only [dc]
       go_wp2
       go_roundw
       case rel =>
        refine ⟨k + 1, L' ++ [y] ++ x :: R, M3, by go_num, by omega, by omega, .inr ⟨?_, by simp; omega⟩, ?_, Hfin.out, by have := Hdb3.out; simpa using this, hgx2.grow hw1, fun y2 hy z hz => by
        have h := TGP.out
        rw [List.pairwise_cons] at h
        have hy2 : y2 = x ∨ y2 ∈ M1 := by rw [E1.out]; simp at hy ⊢; rcases hy with h | h | h | h <;> simp [h]
        rcases hy2 with rfl | hy2
        ·exact h.1 z hz
        ·exact TGX.out y2 hy2 z (List.mem_cons_of_mem _ hz), by have h := TGP.out; rw [List.pairwise_cons] at h; exact h.2⟩
        ·have := congrArg List.length E1.out; have := Hk.out; simp at *; omega
        ·refine List.Perm.trans ?_ HP.out
         rw [E1.out]
         simpa using List.Perm.append_left L' (List.Perm.cons y (List.perm_middle (a := x) (l₁ := R) (l₂ := M3)).symm)
       case measure => simp [intOf]; omega
     case hp' => trivial
  ·have d0 : decide ((k : Int) < (b : Int)) = false := by simp; omega
   have hfin : ∃ M' : List I, M'.Perm M ∧ UpT K M' ∧ DBx wr g (P ++ (M' ++ S)) := by
    have : M2 = [] := by
     rcases Form.out with ⟨_, _, h⟩ | ⟨h1, h2⟩
     ·exact h
     ·have := HP.out.length_eq
      have := Eb.out
      simp at *
      exact List.length_eq_zero_iff.1 (by omega)
    subst this
    exact ⟨M1, by simpa using HP.out, HU.out, by simpa using Hdb.out⟩
   have Hfin := Lib.hid hfin
   clear hfin
   go_wp2
   go_end0
   exact ⟨rfl, Hfin.out, hgx⟩
end Go.Proofs.YtifpomonpneanaaGreat
namespace Go.Proofs.YtifpomonpneanaaGreat
open Go.RowKit Go.Calm
set_option linter.unusedSimpArgs false
set_option linter.unusedVariables false
variable {K : KS}
theorem le_ltT {g : Nat} {w0 : World} {x y z : I} (hx : GoodT K g w0 x) (hy : GoodT K g w0 y) (hz : GoodT K g w0 z) (h1 : cmpT K x y ≤ 0) (h2 : cmpT K y z < 0) : cmpT K x z < 0 := by
 have h3 := cmpT_trans hx hy hz h1 (by omega)
 by_cases h : cmpT K x z = 0
 ·exfalso
  have s1 := cmpT_swap hx hz
  have s2 := cmpT_swap hy hz
  have := cmpT_trans hz hx hy (by omega) h1
  omega
 ·omega
theorem lt_leT {g : Nat} {w0 : World} {x y z : I} (hx : GoodT K g w0 x) (hy : GoodT K g w0 y) (hz : GoodT K g w0 z) (h1 : cmpT K x y < 0) (h2 : cmpT K y z ≤ 0) : cmpT K x z < 0 := by
 have h3 := cmpT_trans hx hy hz (by omega) h2
 by_cases h : cmpT K x z = 0
 ·exfalso
  have s1 := cmpT_swap hx hz
  have s2 := cmpT_swap hx hy
  have := cmpT_trans hy hz hx h2 (by omega)
  omega
 ·omega
theorem up_getT {g : Nat} {w0 : World} {L : List I} (hu : UpT K L) (hG : ∀ x ∈ L, GoodT K g w0 x) {s t : Nat} {x y : I} (hx : L[s]? = some x) (hy : L[t]? = some y) (hst : s ≤ t) : cmpT K x y ≤ 0 := by
 obtain ⟨h1, rfl⟩ := List.getElem?_eq_some_iff.1 hx
 obtain ⟨h2, rfl⟩ := List.getElem?_eq_some_iff.1 hy
 rcases Nat.lt_or_ge s t with h | h
 ·exact List.pairwise_iff_getElem.1 hu s t h1 h2 h
 ·obtain rfl : s = t := by omega
  rw [cmpT_self (hG _ (List.getElem_mem h1))]
  exact Int.le_refl _
theorem up_insertT2 {L R : List I} {x : I} (hu : UpT K (L ++ R)) (hl : ∀ y ∈ L, cmpT K y x ≤ 0) (hr : ∀ y ∈ R, cmpT K x y ≤ 0) : UpT K (L ++ x :: R) := by
 unfold UpT at hu ⊢
 rw [List.pairwise_append] at hu ⊢
 obtain ⟨h1, h2, h3⟩ := hu
 refine ⟨h1, List.pairwise_cons.2 ⟨hr, h2⟩, fun y hy z hz => ?_⟩
 rcases List.mem_cons.1 hz with rfl | hz
 ·exact hl y hy
 ·exact h3 y hy z hz
set_option maxRecDepth 100000 in
set_option maxHeartbeats 8000000 in
theorem sym_leftT (P V S : List I) (u : I) (a m b : Nat) (N c : Nat) (ha : a = P.length) (hm : m = a + 1) (hb : b = m + V.length) (hN : N = (P ++ (u :: V ++ S)).length) (hmax : N ≤ 1000000) (g : Nat) (w0 w : World) (hT : ∀ v ∈ V, tg u v) (hG : ∀ x ∈ u :: V, GoodT K g w0 x) (hg0 : GX g w0 w) (hV : UpT K V) (hd : DBx w g (P ++ (u :: V ++ S))) :
  Calls Tryz.prog 204 #[.slice (some ⟨g, 0, none⟩) N c, .int .i64 a, .int .i64 m, .int .i64 b, (cmpFT K)] w fun en w' => en = .returned (.tuple #[]) ∧ (∃ M' : List I, M'.Perm (u :: V) ∧ UpT K M' ∧ DBx w' g (P ++ (M' ++ S))) ∧ GX g w w' := by
 have mixed : Tryz.prog.follows .mixedOrders = true := by kernel_rfl
 have hN' : N = a + 1 + V.length + S.length := by rw [hN, ha]; simp; omega
 have hbN : b ≤ N := by omega
 have d0 : ((m : Int) - (a : Int) == 1) = true := by simp; omega
 have ham : a < m := by omega
 have Hd := Lib.hid hd
 have HN := Lib.hid hN'
 have Ea := Lib.hid ha
 have Em := Lib.hid hm
 have Eb := Lib.hid hb
 have HG := Lib.hid hG
 have HV := Lib.hid hV
 have hmb : m ≤ b := by omega
 have haN : a < N := by omega
 have HTg := Lib.hid hT
 clear hd hN hN' ha hm hb hG hV hT
 go_enter Tryz.func204, Tryz.ntmps204
 go_wp2
 go_loopw [10, 11] (fun si sj wr => ∃ (i j : Nat), si = .int .i64 (i : Int) ∧ sj = .int .i64 (j : Int) ∧ m ≤ i ∧ i ≤ j ∧ j ≤ b ∧ (∀ t v, V[t]? = some v → m + t < i → cmpT K v u < 0) ∧ (∀ t v, V[t]? = some v → j ≤ m + t → 0 ≤ cmpT K v u) ∧ DBx wr g (P ++ (u :: V ++ S)) ∧ GX g w wr) (fun si sj _ => (intOf sj).toNat - (intOf si).toNat)
 case atStart => exact ⟨m, b, rfl, rfl, Nat.le_refl _, hmb, Nat.le_refl _, fun t v h1 h2 => by omega, fun t v h1 h2 => by have := (List.getElem?_eq_some_iff.1 h1).1; have := Eb.out; omega, Hd.out, GX.refl _ _⟩
 case round =>
  obtain ⟨i, j, rfl, rfl, hmi, hij, hjb, hlo, hhi, hdb, hgx⟩ := hrel
  have Lo := Lib.hid hlo
  have Hi := Lib.hid hhi
  have Hdb := Lib.hid hdb
  have hgw := hg0.trans hgx
  clear hlo hhi hdb
  by_cases hlt : i < j
  ·have dl : decide ((i : Int) < (j : Int)) = true := by simp; omega
   obtain ⟨h, eh⟩ : ∃ h : Nat, h = (i + j) / 2 := ⟨_, rfl⟩
   have eh2 : ((i : Int) + (j : Int)) / 2 = (h : Int) := by omega
   have h1 : i ≤ h := by omega
   have h2 : h < j := by omega
   have hbig : (i : Int) + j ≤ 2000000 := by omega
   have hhN : h < N := by omega
   obtain ⟨v, hv⟩ : ∃ v, V[h - m]? = some v := ⟨_, List.getElem?_eq_getElem (by have := Eb.out; omega)⟩
   have fu : (P ++ (u :: V ++ S))[a]? = some u := by rw [Ea.out]; exact get_mid _ _ _
   have fv : (P ++ (u :: V ++ S))[h]? = some v := by
    rw [show P ++ (u :: V ++ S) = (P ++ [u]) ++ (V ++ S) by simp, List.getElem?_append_right (by simp; have := Ea.out; have := Em.out; omega), List.getElem?_append_left (by simp; have := Ea.out; have := Em.out; have := Eb.out; omega)]
    rw [show h - (P ++ [u]).length = h - m by simp; have := Ea.out; have := Em.out; omega]
    exact hv
   have gu : GoodT K g w0 u := HG.out u (by simp)
   have gv : GoodT K g w0 v := HG.out v (by simp [List.mem_of_getElem? hv])
   have Fu := Lib.hid fu
   have Fv := Lib.hid fv
   have Hv := Lib.hid hv
   have Eh := Lib.hid eh
   clear fu fv hv eh
   obtain ⟨cr, hcr⟩ : ∃ q, cmpK K v u = q := ⟨_, rfl⟩
   have cc := fun W (h : GX g w0 W) => cmp_fnT K v u g w0 W gv gu h
   rw [hcr] at cc
   have htg : tg u v := HTg.out v (List.mem_of_getElem? Hv.out)
   have hlt9 := cmpK_lt gv gu htg
   rw [hcr] at hlt9
   have Hcr := Lib.hid hlt9
   clear hcr hlt9 htg
   go_upto_region 5 with fail
   apply wp_region_calm 11 (by kernel_rfl) (by kernel_rfl)
   case h' =>
    intro Q0 hQ0
    simp only [List.take_succ_cons, List.take_zero]
    repeat (
     first
      | (apply calm_p rfl; case h1 => (intro w1 hw1 hF K hK; obtain ⟨cx0, cx1⟩ := (Hdb.out.grow hw1).at Fu.out; obtain ⟨cy0, cy1⟩ := (Hdb.out.grow hw1).at Fv.out; go_simp; first | exact hK _ (Grow.refl _) | (go_at_call 151; ((with_reducible refine (cc _ (hgw.grow hw1)).mono ?_); rintro e w' ⟨rfl, hg⟩; exact ⟨_, rfl, hK _ hg⟩))))
      | (apply calm_y rfl rfl rfl; case h1 => (intro w1 hw1 hF K hK; obtain ⟨cx0, cx1⟩ := (Hdb.out.grow hw1).at Fu.out; obtain ⟨cy0, cy1⟩ := (Hdb.out.grow hw1).at Fv.out; go_simp; first | exact hK _ (Grow.refl _) | (go_at_call 151; ((with_reducible refine (cc _ (hgw.grow hw1)).mono ?_); rintro e w' ⟨rfl, hg⟩; exact ⟨_, rfl, hK _ hg⟩))))
      | apply calm_n rfl rfl rfl rfl
     intro K hK
     go_simp
     apply hK
     clear hK K)
    refine calm_nil ?_
    intro w1 hw1 hF
    apply hQ0
    clear hQ0
    simp only [List.drop_succ_cons, List.drop_zero]
    clear hF
    have Hdb3 := Lib.hid (Hdb.out.grow hw1)
    have GV : ∀ x ∈ V, GoodT K g w0 x := fun x hx => HG.out x (by simp [hx])
    by_cases hc : cr < 0
    ·have dc : decide (cr < 0) = true := by simpa using hc
     have hnew : ∀ t v', V[t]? = some v' → m + t < h + 1 → cmpT K v' u < 0 := fun t v' ht hlt' => by
      have g' := GV v' (List.mem_of_getElem? ht)
      exact le_ltT g' gv gu (up_getT HV.out GV ht Hv.out (by omega)) (Hcr.out.2 hc)
     have Hnew := Lib.hid hnew
     clear hnew hc
     simp only [dc]
     go_wp2
     go_roundw
     case rel => exact ⟨h + 1, j, by go_num, rfl, by omega, by omega, hjb, Hnew.out, Hi.out, Hdb3.out, hgx.grow hw1⟩
     case measure => simp [intOf]; omega
    ·have dc : decide (cr < 0) = false := by simpa using hc
     have hnew : ∀ t v', V[t]? = some v' → h ≤ m + t → 0 ≤ cmpT K v' u := fun t v' ht hlt' => by
      have g' := GV v' (List.mem_of_getElem? ht)
      have h5 := up_getT HV.out GV Hv.out ht (by omega)
      by_cases h6 : cmpT K v' u < 0
      ·have := le_ltT gv g' gu h5 h6
       exact absurd (Hcr.out.1 this) hc
      ·omega
     have Hnew := Lib.hid hnew
     clear hnew hc
     simp only [dc]
     go_wp2
     go_roundw
     case rel => exact ⟨i, h, rfl, by go_num, hmi, h1, by omega, Lo.out, Hnew.out, Hdb3.out, hgx.grow hw1⟩
     case measure => simp [intOf]; omega
   case hp' => trivial
  ·obtain rfl : i = j := by omega
   have dl : decide ((i : Int) < (i : Int)) = false := by simp
   clear hlt
   go_wp2
   go_loopw [13] (fun sk w3 => ∃ (k : Nat) (V1 V2 : List I), sk = .int .i64 (k : Int) ∧ V = V1 ++ V2 ∧ k = a + V1.length ∧ k + 1 ≤ i ∧ DBx w3 g (P ++ (V1 ++ u :: (V2 ++ S))) ∧ GX g w w3) (fun sk _ => i - (intOf sk).toNat)
   case atStart => exact ⟨a, [], V, rfl, rfl, by simp, by omega, by have := Hdb.out; simpa using this, hgx⟩
   case round =>
    obtain ⟨k, V1, V2, rfl, e1, ek, hki, hdb2, hgx2⟩ := hrel
    have E1 := Lib.hid e1
    have Ek := Lib.hid ek
    have Hdb2 := Lib.hid hdb2
    have hak : a ≤ k := by omega
    clear e1 ek hdb2
    by_cases hk2 : k + 1 < i
    ·have dk : decide ((k : Int) < (i : Int) - 1) = true := by simp; omega
     obtain ⟨y, V3, rfl⟩ : ∃ y V3, V2 = y :: V3 := by
      have h0 := congrArg List.length E1.out
      have h1 := Ek.out
      have h2 := Em.out
      have h3 := Eb.out
      match V2, h0 with
      | [], h0 => exfalso; simp at h0; omega
      | y :: V3, _ => exact ⟨y, V3, rfl⟩
     have fx : (P ++ (V1 ++ u :: (y :: V3 ++ S)))[k]? = some u := by
      rw [show P ++ (V1 ++ u :: (y :: V3 ++ S)) = (P ++ V1) ++ u :: (y :: V3 ++ S) by simp, show k = (P ++ V1).length by simp; have := Ek.out; have := Ea.out; omega]
      exact get_mid _ _ _
     have fy : (P ++ (V1 ++ u :: (y :: V3 ++ S)))[k + 1]? = some y := by
      rw [show P ++ (V1 ++ u :: (y :: V3 ++ S)) = (P ++ (V1 ++ [u])) ++ y :: (V3 ++ S) by simp, show k + 1 = (P ++ (V1 ++ [u])).length by simp; have := Ek.out; have := Ea.out; omega]
      exact get_mid _ _ _
     have Fx := Lib.hid fx
     have Fy := Lib.hid fy
     clear fx fy
     obtain ⟨cx0, cx1⟩ := Hdb2.out.at Fx.out
     obtain ⟨cy0, cy1⟩ := Hdb2.out.at Fy.out
     have fr := Hdb2.out.frozen
     have p0 : (0 : Int) ≤ (k : Int) + 1 := by omega
     have e0 : ((k : Int) + 1).toNat = k + 1 := by omega
     have jz : (k : Int) + 1 < (N : Int) := by omega
     have jz1 : (k : Int) < (N : Int) := by omega
     have hwp : IntKind.i64.wrap ((k : Int) + 1) = (k : Int) + 1 := by rw [IntKind.wrap_i64]; omega
     have jz2 : k + 1 < N := by omega
     have jz3 : k < N := by omega
     have ne0 : k * 2 ≠ (k + 1) * 2 := by omega
     have ne1 : k * 2 + 1 ≠ (k + 1) * 2 := by omega
     go_wp2
     go_big_region_o
     all_goals go_wp2
     refine ⟨⟨k + 1, V1 ++ [y], V3, by go_num, by rw [E1.out]; simp, by simp; have := Ek.out; omega, by omega, ?_, GX.drew ((hgx2.put _ _ _ _).put _ _ _ _)⟩, by simp [intOf]; omega⟩
     have h1 := (Hdb2.out.put (List.getElem?_eq_some_iff.1 Fx.out).1 y).put (i := k + 1) (by rw [List.length_set]; exact (List.getElem?_eq_some_iff.1 Fy.out).1) u
     have e := swap_list (P ++ V1) [] (V3 ++ S) u y
     rw [show (P ++ V1).length = k by simp; have := Ek.out; have := Ea.out; omega] at e
     simp only [List.length_nil, Nat.add_zero, List.nil_append] at e
     rw [show P ++ (V1 ++ u :: (y :: V3 ++ S)) = P ++ V1 ++ u :: y :: (V3 ++ S) by simp, e] at h1
     rw [show P ++ (V1 ++ [y] ++ u :: (V3 ++ S)) = P ++ V1 ++ y :: u :: (V3 ++ S) by simp]
     exact h1
    ·have dk : decide ((k : Int) < (i : Int) - 1) = false := by simp; omega
     have hfin : ∃ M' : List I, M'.Perm (u :: V) ∧ UpT K M' ∧ DBx wr g (P ++ (M' ++ S)) := by
      have GV : ∀ x ∈ V, GoodT K g w0 x := fun x hx => HG.out x (by simp [hx])
      have gu : GoodT K g w0 u := HG.out u (by simp)
      refine ⟨V1 ++ u :: V2, by rw [E1.out]; exact List.perm_middle, up_insertT2 (by rw [← E1.out]; exact HV.out) (fun y hy => ?_) (fun y hy => ?_), by have := Hdb2.out; simpa using this⟩
      ·obtain ⟨t, ht, rfl⟩ := List.getElem_of_mem hy
       have := Lo.out t V1[t] (by rw [E1.out, List.getElem?_append_left ht]; exact List.getElem?_eq_getElem ht) (by have := Ek.out; have := Em.out; omega)
       omega
      ·obtain ⟨t, ht, rfl⟩ := List.getElem_of_mem hy
       have := Hi.out (V1.length + t) V2[t] (by rw [E1.out, List.getElem?_append_right (by omega), Nat.add_sub_cancel_left]; exact List.getElem?_eq_getElem ht) (by have := Ek.out; have := Em.out; omega)
       have := cmpT_swap (GV V2[t] (by rw [E1.out]; simp)) gu
       omega
     have Hfin := Lib.hid hfin
     clear hfin
     go_wp2
     exact bodyPost_ret (by simp [results, Tryz.results204, go_sem]) rfl ⟨rfl, Hfin.out, hgx2⟩
end Go.Proofs.YtifpomonpneanaaGreat
namespace Go.Proofs.YtifpomonpneanaaGreat
open Go.RowKit Go.Calm
set_option linter.unusedSimpArgs false
set_option linter.unusedVariables false
variable {K : KS}
set_option maxRecDepth 100000 in
set_option maxHeartbeats 8000000 in
theorem sym_rightT (P U S : List I) (v : I) (a m b : Nat) (N c : Nat) (ha : a = P.length) (hm : m = a + U.length) (hU2 : 2 ≤ U.length) (hb : b = m + 1) (hN : N = (P ++ (U ++ v :: S)).length) (hmax : N ≤ 1000000) (g : Nat) (w0 w : World) (hT : ∀ x ∈ U, tg x v) (hG : ∀ x ∈ U ++ [v], GoodT K g w0 x) (hg0 : GX g w0 w) (hU : UpT K U) (hd : DBx w g (P ++ (U ++ v :: S))) :
  Calls Tryz.prog 204 #[.slice (some ⟨g, 0, none⟩) N c, .int .i64 a, .int .i64 m, .int .i64 b, (cmpFT K)] w fun en w' => en = .returned (.tuple #[]) ∧ (∃ M' : List I, M'.Perm (U ++ [v]) ∧ UpT K M' ∧ DBx w' g (P ++ (M' ++ S))) ∧ GX g w w' := by
 have mixed : Tryz.prog.follows .mixedOrders = true := by kernel_rfl
 have hN' : N = a + U.length + 1 + S.length := by rw [hN, ha]; simp; omega
 have hbN : b ≤ N := by omega
 have d0 : ((m : Int) - (a : Int) == 1) = false := by simp; omega
 have d1 : ((b : Int) - (m : Int) == 1) = true := by simp; omega
 have ham : a < m := by omega
 have Hd := Lib.hid hd
 have HN := Lib.hid hN'
 have Ea := Lib.hid ha
 have Em := Lib.hid hm
 have Eb := Lib.hid hb
 have HG := Lib.hid hG
 have HU := Lib.hid hU
 have hmb : m < N := by omega
 have haN : a < N := by omega
 have HTg := Lib.hid hT
 clear hd hN hN' ha hm hb hG hU hT
 go_enter Tryz.func204, Tryz.ntmps204
 go_wp2
 go_loopw [14, 15] (fun si sj wr => ∃ (i j : Nat), si = .int .i64 (i : Int) ∧ sj = .int .i64 (j : Int) ∧ a ≤ i ∧ i ≤ j ∧ j ≤ m ∧ (∀ t x, U[t]? = some x → a + t < i → cmpT K x v ≤ 0) ∧ (∀ t x, U[t]? = some x → j ≤ a + t → cmpT K v x < 0) ∧ DBx wr g (P ++ (U ++ v :: S)) ∧ GX g w wr) (fun si sj _ => (intOf sj).toNat - (intOf si).toNat)
 case atStart => exact ⟨a, m, rfl, rfl, Nat.le_refl _, by omega, Nat.le_refl _, fun t v h1 h2 => by omega, fun t v h1 h2 => by have := (List.getElem?_eq_some_iff.1 h1).1; have := Em.out; omega, Hd.out, GX.refl _ _⟩
 case round =>
  obtain ⟨i, j, rfl, rfl, hmi, hij, hjb, hlo, hhi, hdb, hgx⟩ := hrel
  have Lo := Lib.hid hlo
  have Hi := Lib.hid hhi
  have Hdb := Lib.hid hdb
  have hgw := hg0.trans hgx
  clear hlo hhi hdb
  by_cases hlt : i < j
  ·have dl : decide ((i : Int) < (j : Int)) = true := by simp; omega
   obtain ⟨h, eh⟩ : ∃ h : Nat, h = (i + j) / 2 := ⟨_, rfl⟩
   have eh2 : ((i : Int) + (j : Int)) / 2 = (h : Int) := by omega
   have h1 : i ≤ h := by omega
   have h2 : h < j := by omega
   have hbig : (i : Int) + j ≤ 2000000 := by omega
   have hhN : h < N := by omega
   obtain ⟨x, hx⟩ : ∃ x, U[h - a]? = some x := ⟨_, List.getElem?_eq_getElem (by have := Em.out; omega)⟩
   have fv : (P ++ (U ++ v :: S))[m]? = some v := by
    rw [← List.append_assoc, show m = (P ++ U).length by simp; have := Ea.out; have := Em.out; omega]
    exact get_mid _ _ _
   have fx : (P ++ (U ++ v :: S))[h]? = some x := by
    rw [List.getElem?_append_right (by have := Ea.out; omega), List.getElem?_append_left (by have := Ea.out; have := Em.out; omega), show h - P.length = h - a by have := Ea.out; omega]
    exact hx
   have gv : GoodT K g w0 v := HG.out v (by simp)
   have gx : GoodT K g w0 x := HG.out x (by simp [List.mem_of_getElem? hx])
   have Fv := Lib.hid fv
   have Fx := Lib.hid fx
   have Hx := Lib.hid hx
   have Eh := Lib.hid eh
   clear fv fx hx eh
   obtain ⟨cr, hcr⟩ : ∃ q, cmpK K v x = q := ⟨_, rfl⟩
   have cc := fun W (h : GX g w0 W) => cmp_fnT K v x g w0 W gv gx h
   rw [hcr] at cc
   have htg : tg x v := HTg.out x (List.mem_of_getElem? Hx.out)
   have hlt9 := cmpK_lt gv gx htg
   rw [hcr] at hlt9
   have Hcr := Lib.hid hlt9
   clear hcr hlt9 htg
   go_upto_region 17 with fail
   apply wp_region_calm 12 (by kernel_rfl) (by kernel_rfl)
   case h' =>
    intro Q0 hQ0
    simp only [List.take_succ_cons, List.take_zero]
    repeat (
     first
      | (apply calm_p rfl; case h1 => (intro w1 hw1 hF K hK; obtain ⟨cx0, cx1⟩ := (Hdb.out.grow hw1).at Fv.out; obtain ⟨cy0, cy1⟩ := (Hdb.out.grow hw1).at Fx.out; go_simp; first | exact hK _ (Grow.refl _) | (go_at_call 151; ((with_reducible refine (cc _ (hgw.grow hw1)).mono ?_); rintro e w' ⟨rfl, hg⟩; exact ⟨_, rfl, hK _ hg⟩))))
      | (apply calm_y rfl rfl rfl; case h1 => (intro w1 hw1 hF K hK; obtain ⟨cx0, cx1⟩ := (Hdb.out.grow hw1).at Fv.out; obtain ⟨cy0, cy1⟩ := (Hdb.out.grow hw1).at Fx.out; go_simp; first | exact hK _ (Grow.refl _) | (go_at_call 151; ((with_reducible refine (cc _ (hgw.grow hw1)).mono ?_); rintro e w' ⟨rfl, hg⟩; exact ⟨_, rfl, hK _ hg⟩))))
      | apply calm_n rfl rfl rfl rfl
     intro K hK
     go_simp
     apply hK
     clear hK K)
    refine calm_nil ?_
    intro w1 hw1 hF
    apply hQ0
    clear hQ0
    simp only [List.drop_succ_cons, List.drop_zero]
    clear hF
    have Hdb3 := Lib.hid (Hdb.out.grow hw1)
    have GU : ∀ x ∈ U, GoodT K g w0 x := fun x hx => HG.out x (by simp [hx])
    by_cases hc : cr < 0
    ·have dc : decide (cr < 0) = true := by simpa using hc
     have hnew : ∀ t x', U[t]? = some x' → h ≤ a + t → cmpT K v x' < 0 := fun t x' ht hlt' => by
      have g' := GU x' (List.mem_of_getElem? ht)
      exact lt_leT gv gx g' (Hcr.out.2 hc) (up_getT HU.out GU Hx.out ht (by omega))
     have Hnew := Lib.hid hnew
     clear hnew hc
     simp only [dc, Bool.not_true]
     go_wp2
     go_roundw
     case rel => exact ⟨i, h, rfl, by go_num, hmi, h1, by omega, Lo.out, Hnew.out, Hdb3.out, hgx.grow hw1⟩
     case measure => simp [intOf]; omega
    ·have dc : decide (cr < 0) = false := by simpa using hc
     have hnew : ∀ t x', U[t]? = some x' → a + t < h + 1 → cmpT K x' v ≤ 0 := fun t x' ht hlt' => by
      have g' := GU x' (List.mem_of_getElem? ht)
      have h5 := up_getT HU.out GU ht Hx.out (by omega)
      have h6 := cmpT_swap gv gx
      have h9 := mt Hcr.out.1 hc
      exact cmpT_trans g' gx gv h5 (by omega)
     have Hnew := Lib.hid hnew
     clear hnew hc
     simp only [dc, Bool.not_false]
     go_wp2
     go_roundw
     case rel => exact ⟨h + 1, j, by go_num, rfl, by omega, by omega, hjb, Hnew.out, Hi.out, Hdb3.out, hgx.grow hw1⟩
     case measure => simp [intOf]; omega
   case hp' => trivial
  ·obtain rfl : i = j := by omega
   have dl : decide ((i : Int) < (i : Int)) = false := by simp
   clear hlt
   go_wp2
   go_loopw [17] (fun sk w3 => ∃ (k : Nat) (U1 U2 : List I), sk = .int .i64 (k : Int) ∧ U = U1 ++ U2 ∧ k = a + U1.length ∧ i ≤ k ∧ k ≤ m ∧ DBx w3 g (P ++ (U1 ++ v :: (U2 ++ S))) ∧ GX g w w3) (fun sk _ => (intOf sk).toNat)
   case atStart => exact ⟨m, U, [], rfl, by simp, Em.out, hjb, Nat.le_refl _, by have := Hdb.out; simpa using this, hgx⟩
   case round =>
    obtain ⟨k, U1, U2, rfl, e1, ek, hki, hkm, hdb2, hgx2⟩ := hrel
    have E1 := Lib.hid e1
    have Ek := Lib.hid ek
    have Hdb2 := Lib.hid hdb2
    have hak : a ≤ k := by omega
    clear e1 ek hdb2
    by_cases hk2 : i < k
    ·obtain ⟨L', y, hL⟩ : ∃ L' y, U1 = L' ++ [y] := by
      rcases List.eq_nil_or_concat U1 with hL | ⟨L', y, hL⟩
      ·exfalso; have := Ek.out; rw [hL] at this; simp at this; omega
      ·exact ⟨L', y, by simpa using hL⟩
     subst hL
     obtain ⟨jp, rfl⟩ : ∃ jp, k = jp + 1 := ⟨k - 1, by omega⟩
     have ejp : jp = a + L'.length := by have := Ek.out; simp at this; omega
     have Ejp := Lib.hid ejp
     have dk : decide ((i : Int) < (jp : Int) + 1) = true := by simp; omega
     have fx : (P ++ (L' ++ [y] ++ v :: (U2 ++ S)))[jp + 1]? = some v := by
      rw [show P ++ (L' ++ [y] ++ v :: (U2 ++ S)) = (P ++ (L' ++ [y])) ++ v :: (U2 ++ S) by simp, show jp + 1 = (P ++ (L' ++ [y])).length by simp; have := Ejp.out; have := Ea.out; omega]
      exact get_mid _ _ _
     have fy : (P ++ (L' ++ [y] ++ v :: (U2 ++ S)))[jp]? = some y := by
      rw [show P ++ (L' ++ [y] ++ v :: (U2 ++ S)) = (P ++ L') ++ y :: (v :: (U2 ++ S)) by simp, show jp = (P ++ L').length by simp; have := Ejp.out; have := Ea.out; omega]
      exact get_mid _ _ _
     have Fx := Lib.hid fx
     have Fy := Lib.hid fy
     clear fx fy ejp
     obtain ⟨cx0, cx1⟩ := Hdb2.out.at Fx.out
     obtain ⟨cy0, cy1⟩ := Hdb2.out.at Fy.out
     have fr := Hdb2.out.frozen
     have p0 : (0 : Int) ≤ (jp : Int) + 1 := by omega
     have e0 : ((jp : Int) + 1).toNat = jp + 1 := by omega
     have jz : (jp : Int) + 1 < (N : Int) := by omega
     have jz1 : (jp : Int) < (N : Int) := by omega
     have hwp : IntKind.i64.wrap (jp : Int) = (jp : Int) := by rw [IntKind.wrap_i64]; omega
     have jz2 : jp + 1 < N := by omega
     have jz3 : jp < N := by omega
     have ne0 : (jp + 1) * 2 ≠ jp * 2 := by omega
     have ne1 : (jp + 1) * 2 + 1 ≠ jp * 2 := by omega
     go_wp2
     go_big_region_o
     all_goals go_wp2
     refine ⟨⟨jp, L', y :: U2, rfl, by rw [E1.out]; simp, Ejp.out, by omega, by omega, ?_, GX.drew ((hgx2.put _ _ _ _).put _ _ _ _)⟩, by simp [intOf]⟩
     have h1 := (Hdb2.out.put (List.getElem?_eq_some_iff.1 Fx.out).1 y).put (i := jp) (by rw [List.length_set]; exact (List.getElem?_eq_some_iff.1 Fy.out).1) v
     have e := swap_adj (P ++ L') (U2 ++ S) v y
     rw [show (P ++ L').length = jp by simp; have := Ejp.out; have := Ea.out; omega] at e
     rw [show P ++ (L' ++ [y] ++ v :: (U2 ++ S)) = P ++ L' ++ y :: v :: (U2 ++ S) by simp, e] at h1
     rw [show P ++ (L' ++ v :: (y :: U2 ++ S)) = P ++ L' ++ v :: y :: (U2 ++ S) by simp]
     exact h1
    ·obtain rfl : i = k := by omega
     have dk : decide ((i : Int) < (i : Int)) = false := by simp
     have hfin : ∃ M' : List I, M'.Perm (U ++ [v]) ∧ UpT K M' ∧ DBx wr g (P ++ (M' ++ S)) := by
      refine ⟨U1 ++ v :: U2, by rw [E1.out]; simpa using List.Perm.append_left U1 (List.perm_append_comm (l₁ := [v]) (l₂ := U2)), up_insertT2 (by rw [← E1.out]; exact HU.out) (fun y hy => ?_) (fun y hy => ?_), by have := Hdb2.out; simpa using this⟩
      ·obtain ⟨t, ht, rfl⟩ := List.getElem_of_mem hy
       exact Lo.out t U1[t] (by rw [E1.out, List.getElem?_append_left ht]; exact List.getElem?_eq_getElem ht) (by have := Ek.out; omega)
      ·obtain ⟨t, ht, rfl⟩ := List.getElem_of_mem hy
       have := Hi.out (U1.length + t) U2[t] (by rw [E1.out, List.getElem?_append_right (by omega), Nat.add_sub_cancel_left]; exact List.getElem?_eq_getElem ht) (by have := Ek.out; omega)
       omega
     have Hfin := Lib.hid hfin
     clear hfin
     go_wp2
     exact bodyPost_ret (by simp [results, Tryz.results204, go_sem]) rfl ⟨rfl, Hfin.out, hgx2⟩
end Go.Proofs.YtifpomonpneanaaGreat
