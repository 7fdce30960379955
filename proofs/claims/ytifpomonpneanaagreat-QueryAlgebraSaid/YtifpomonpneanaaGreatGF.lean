/-
 Joined texts of this claim: Srt7, Srt8. What each proves its own head says; no condition beside those that each theorem names.
-/
import Derived.Test.YtifpomonpneanaaGreatGE
import Derived.Deep.DeepCutAuto
namespace Go.Proofs.YtifpomonpneanaaGreat
open Go.RowKit Go.Calm
set_option linter.unusedSimpArgs false
set_option linter.unusedVariables false
theorem up_last {g : Nat} {w0 : World} {L : List I} (hu : Up L) (hG : ∀ x ∈ L, Good g w0 x) {x z : I} (hx : x ∈ L) (hz : L.getLast? = some z) : cmpR x z ≤ 0 := by
 obtain ⟨t, ht, rfl⟩ := List.getElem_of_mem hx
 rw [List.getLast?_eq_getElem?] at hz
 exact up_get hu hG (List.getElem?_eq_getElem ht) hz (by omega)
theorem up_head {g : Nat} {w0 : World} {L : List I} (hu : Up L) (hG : ∀ x ∈ L, Good g w0 x) {x z : I} (hx : x ∈ L) (hz : L[0]? = some z) : cmpR z x ≤ 0 := by
 obtain ⟨t, ht, rfl⟩ := List.getElem_of_mem hx
 exact up_get hu hG hz (List.getElem?_eq_getElem ht) (by omega)
theorem cross {g : Nat} {w0 : World} {U1 U2 V1 V2 : List I} (gU1 : ∀ x ∈ U1, Good g w0 x) (gU2 : ∀ x ∈ U2, Good g w0 x) (gV1 : ∀ x ∈ V1, Good g w0 x) (gV2 : ∀ x ∈ V2, Good g w0 x) (hU : Up (U1 ++ U2)) (hV : Up (V1 ++ V2))
  (h1 : ∀ x y, U1.getLast? = some x → V2[0]? = some y → cmpR x y ≤ 0) (h2 : ∀ x y, V1.getLast? = some y → U2[0]? = some x → cmpR y x ≤ 0) : ∀ x ∈ U1 ++ V1, ∀ y ∈ U2 ++ V2, cmpR x y ≤ 0 := by
 unfold Up at hU hV
 rw [List.pairwise_append] at hU hV
 obtain ⟨u1, u2, u3⟩ := hU
 obtain ⟨v1, v2, v3⟩ := hV
 have last : ∀ {L : List I} {x : I}, x ∈ L → ∃ z, L.getLast? = some z ∧ z ∈ L := fun {L x} hx => by
  have hne : L ≠ [] := by rintro rfl; simp at hx
  exact ⟨L.getLast hne, List.getLast?_eq_some_getLast hne, List.getLast_mem hne⟩
 have first : ∀ {L : List I} {x : I}, x ∈ L → ∃ z, L[0]? = some z ∧ z ∈ L := fun {L x} hx => by
  match L, hx with
  | z :: L, _ => exact ⟨z, rfl, by simp⟩
 intro x hx y hy
 rcases List.mem_append.1 hx with hx | hx <;> rcases List.mem_append.1 hy with hy | hy
 ·exact u3 x hx y hy
 ·obtain ⟨p, hp, hp'⟩ := last hx
  obtain ⟨q, hq, hq'⟩ := first hy
  have a1 := up_last u1 gU1 hx hp
  have a2 := up_head v2 gV2 hy hq
  exact cmpR_trans (gU1 x hx) (gV2 q hq') (gV2 y hy) (cmpR_trans (gU1 x hx) (gU1 p hp') (gV2 q hq') a1 (h1 p q hp hq)) a2
 ·obtain ⟨p, hp, hp'⟩ := last hx
  obtain ⟨q, hq, hq'⟩ := first hy
  have a1 := up_last v1 gV1 hx hp
  have a2 := up_head u2 gU2 hy hq
  exact cmpR_trans (gV1 x hx) (gU2 q hq') (gU2 y hy) (cmpR_trans (gV1 x hx) (gV1 p hp') (gU2 q hq') a1 (h2 q p hp hq)) a2
 ·exact v3 x hx y hy
def SymC (w0 : World) (n : Nat) : Prop := ∀ (P U V S : List I) (a m b N c g : Nat) (w : World), U.length + V.length ≤ n → 1 ≤ U.length → 1 ≤ V.length → a = P.length → m = a + U.length → b = m + V.length → N = (P ++ (U ++ (V ++ S))).length → N ≤ 1000000 →
 (∀ x ∈ U ++ V, Good g w0 x) → GX g w0 w → Up U → Up V → DB w g (P ++ (U ++ (V ++ S))) →
 Calls Tryz.prog 204 #[.slice (some ⟨g, 0, none⟩) N c, .int .i64 a, .int .i64 m, .int .i64 b, cmpF] w fun en w' => en = .returned (.tuple #[]) ∧ (∃ M' : List I, M'.Perm (U ++ V) ∧ Up M' ∧ DB w' g (P ++ (M' ++ S))) ∧ GX g w w'
theorem merged {U1 V1 U2 V2 M1 M2 : List I} (p1 : M1.Perm (U1 ++ V1)) (p2 : M2.Perm (U2 ++ V2)) : (M1 ++ M2).Perm (U1 ++ U2 ++ (V1 ++ V2)) := by
 refine (p1.append p2).trans ?_
 simp only [List.append_assoc]
 refine List.Perm.append_left U1 ?_
 rw [← List.append_assoc, ← List.append_assoc U2]
 exact List.Perm.append_right V2 List.perm_append_comm
theorem merged_up {U1 V1 U2 V2 M1 M2 : List I} (u1 : Up M1) (u2 : Up M2) (p1 : M1.Perm (U1 ++ V1)) (p2 : M2.Perm (U2 ++ V2)) (hc : ∀ x ∈ U1 ++ V1, ∀ y ∈ U2 ++ V2, cmpR x y ≤ 0) : Up (M1 ++ M2) :=
 List.pairwise_append.2 ⟨u1, u2, fun x hx y hy => hc x (p1.mem_iff.1 hx) y (p2.mem_iff.1 hy)⟩
set_option maxRecDepth 100000 in
set_option maxHeartbeats 16000000 in
theorem sym_step (w0 : World) (n : Nat) (ih : SymC w0 n) (P U V S : List I) (a m b N c g : Nat) (w : World) (hn : U.length + V.length ≤ n + 1) (hU2 : 2 ≤ U.length) (hV2 : 2 ≤ V.length) (ha : a = P.length) (hm : m = a + U.length) (hb : b = m + V.length) (hN : N = (P ++ (U ++ (V ++ S))).length) (hmax : N ≤ 1000000)
  (hG : ∀ x ∈ U ++ V, Good g w0 x) (hg0 : GX g w0 w) (hU : Up U) (hV : Up V) (hd : DB w g (P ++ (U ++ (V ++ S)))) :
  Calls Tryz.prog 204 #[.slice (some ⟨g, 0, none⟩) N c, .int .i64 a, .int .i64 m, .int .i64 b, cmpF] w fun en w' => en = .returned (.tuple #[]) ∧ (∃ M' : List I, M'.Perm (U ++ V) ∧ Up M' ∧ DB w' g (P ++ (M' ++ S))) ∧ GX g w w' := by
 have hN' : N = a + U.length + V.length + S.length := by rw [hN, ha]; simp; omega
 have hbN : b ≤ N := by omega
 have d0 : ((m : Int) - (a : Int) == 1) = false := by simp; omega
 have d1 : ((b : Int) - (m : Int) == 1) = false := by simp; omega
 have ham : a + 2 ≤ m := by omega
 have hmb : m + 2 ≤ b := by omega
 obtain ⟨mid, emid⟩ : ∃ mid : Nat, mid = (a + b) / 2 := ⟨_, rfl⟩
 have emid2 : ((a : Int) + (b : Int)) / 2 = (mid : Int) := by omega
 obtain ⟨nN, enn⟩ : ∃ nN : Nat, nN = mid + m := ⟨_, rfl⟩
 have enn2 : (mid : Int) + (m : Int) = (nN : Int) := by omega
 obtain ⟨pN, epn⟩ : ∃ pN : Nat, pN = nN - 1 := ⟨_, rfl⟩
 have epn2 : (nN : Int) - 1 = (pN : Int) := by omega
 obtain ⟨lo, elo⟩ : ∃ lo : Nat, lo = if mid < m then nN - b else a := ⟨_, rfl⟩
 obtain ⟨hi, ehi⟩ : ∃ hi : Nat, hi = if mid < m then mid else m := ⟨_, rfl⟩
 have Hd := Lib.hid hd
 have HN := Lib.hid hN'
 have Ea := Lib.hid ha
 have Em := Lib.hid hm
 have Eb := Lib.hid hb
 have HG := Lib.hid hG
 have HU := Lib.hid hU
 have HV := Lib.hid hV
 have Hn := Lib.hid hn
 have Emid := Lib.hid emid
 have Enn := Lib.hid enn
 have Epn := Lib.hid epn
 have IH := Lib.hid ih
 have mid1 : a < mid := by omega
 have mid2 : mid < b := by omega
 have loa : a ≤ lo := by rw [elo]; split <;> omega
 have lohi : lo ≤ hi := by rw [elo, ehi]; split <;> omega
 have him : hi ≤ m := by rw [ehi]; split <;> omega
 have himid : hi ≤ mid := by rw [ehi]; split <;> omega
 have lon : nN ≤ lo + b := by rw [elo]; split <;> omega
 have lo1 : lo = a ∨ lo + b = nN := by rw [elo]; split <;> omega
 have hi1 : hi = m ∨ hi = mid := by rw [ehi]; split <;> omega
 have bd1 : nN ≤ 2000000 := by omega
 have bd2 : pN + 1 = nN := by omega
 have Elo := Lib.hid elo
 have Ehi := Lib.hid ehi
 have Lo1 := Lib.hid lo1
 have Hi1 := Lib.hid hi1
 clear hd hN hN' ha hm hb hG hU hV hn emid enn epn ih elo ehi lo1 hi1
 go_enter Tryz.func204, Tryz.ntmps204
 have dm : (decide ((mid : Int) < (m : Int)) = true ∧ ((nN : Int) - (b : Int) = (lo : Int)) ∧ hi = mid) ∨ (decide ((mid : Int) < (m : Int)) = false ∧ lo = a ∧ hi = m) := by
  by_cases h : mid < m
  ·left
   have h1 := Elo.out
   have h2 := Ehi.out
   rw [if_pos h] at h1 h2
   exact ⟨by simp; omega, by omega, h2⟩
  ·right
   have h1 := Elo.out
   have h2 := Ehi.out
   rw [if_neg h] at h1 h2
   exact ⟨by simp; omega, h1, h2⟩
 have Dm := Lib.hid dm
 clear dm
 go_upto_if 140 with fail
 go_cut [20, 21] (fun x y wx => x = .int .i64 (lo : Int) ∧ y = .int .i64 (hi : Int) ∧ wx = w)
 case first => as_aux_lemma =>
  rcases Dm.out with ⟨q1, q2, q3⟩ | ⟨q1, q2, q3⟩
  ·have q1n : mid < m := by simpa using q1
   have Q3 := Lib.hid q3
   clear q3
   go_wp2
   go_meet
   exact ⟨by first | rfl | simp [q2], by rw [Q3.out], rfl⟩
  ·have q1n : ¬ mid < m := by simpa using q1
   have Q := Lib.hid (And.intro q2 q3)
   clear q2 q3
   go_wp2
   go_meet
   exact ⟨by rw [Q.out.1], by rw [Q.out.2], rfl⟩
 case rest =>
 obtain ⟨rfl, rfl, hwc⟩ := hcut
 subst wc
 clear Dm
 go_wp2
 go_loopw [20, 21] (fun ss sr wr => ∃ (s r : Nat), ss = .int .i64 (s : Int) ∧ sr = .int .i64 (r : Int) ∧ lo ≤ s ∧ s ≤ r ∧ r ≤ hi ∧ (s = lo ∨ ∀ x y, U[s - 1 - a]? = some x → V[pN - (s - 1) - m]? = some y → cmpR x y ≤ 0) ∧ (r = hi ∨ ∀ x y, U[r - a]? = some x → V[pN - r - m]? = some y → cmpR y x < 0) ∧ DB wr g (P ++ (U ++ (V ++ S))) ∧ GX g w wr) (fun ss sr _ => (intOf sr).toNat - (intOf ss).toNat)
 case atStart => exact ⟨lo, hi, rfl, rfl, Nat.le_refl _, lohi, Nat.le_refl _, .inl rfl, .inl rfl, Hd.out, GX.refl _ _⟩
 case round =>
  obtain ⟨s, r, rfl, rfl, hls, hsr, hrh, hlo, hhi, hdb, hgx⟩ := hrel
  have Lo := Lib.hid hlo
  have Hi := Lib.hid hhi
  have Hdb := Lib.hid hdb
  have hgw := hg0.trans hgx
  clear hlo hhi hdb
  by_cases hlt : s < r
  ·have dl : decide ((s : Int) < (r : Int)) = true := by simp; omega
   obtain ⟨cm, ecm⟩ : ∃ cm : Nat, cm = (s + r) / 2 := ⟨_, rfl⟩
   have ecm2 : ((s : Int) + (r : Int)) / 2 = (cm : Int) := by omega
   have k1 : s ≤ cm := by omega
   have k2 : cm < r := by omega
   obtain ⟨pc, epc⟩ : ∃ pc : Nat, pc = pN - cm := ⟨_, rfl⟩
   have epc2 : IntKind.i64.wrap ((pN : Int) - (cm : Int)) = (pc : Int) := by rw [IntKind.wrap_i64]; omega
   have k3 : m ≤ pc := by have := Enn.out; omega
   have k4 : pc < b := by have := Enn.out; omega
   have hbig : (s : Int) + r ≤ 2000000 := by omega
   have cmN : cm < N := by omega
   have pcN : pc < N := by omega
   obtain ⟨x, hx⟩ : ∃ x, U[cm - a]? = some x := ⟨_, List.getElem?_eq_getElem (by have := Em.out; omega)⟩
   obtain ⟨y, hy⟩ : ∃ y, V[pc - m]? = some y := ⟨_, List.getElem?_eq_getElem (by have := Eb.out; omega)⟩
   have fx : (P ++ (U ++ (V ++ S)))[cm]? = some x := by
    rw [List.getElem?_append_right (by have := Ea.out; omega), List.getElem?_append_left (by have := Ea.out; have := Em.out; omega), show cm - P.length = cm - a by have := Ea.out; omega]
    exact hx
   have fy : (P ++ (U ++ (V ++ S)))[pc]? = some y := by
    rw [List.getElem?_append_right (by have := Ea.out; omega), List.getElem?_append_right (by have := Ea.out; have := Em.out; omega), List.getElem?_append_left (by have := Ea.out; have := Em.out; have := Eb.out; omega), show pc - P.length - U.length = pc - m by have := Ea.out; have := Em.out; omega]
    exact hy
   have gx : Good g w0 x := HG.out x (by simp [List.mem_of_getElem? hx])
   have gy : Good g w0 y := HG.out y (by simp [List.mem_of_getElem? hy])
   have Fx := Lib.hid fx
   have Fy := Lib.hid fy
   have Hx := Lib.hid hx
   have Hy := Lib.hid hy
   have Ecm := Lib.hid ecm
   have Epc := Lib.hid epc
   clear fx fy hx hy ecm epc
   obtain ⟨cr, hcr⟩ : ∃ q, cmpR y x = q := ⟨_, rfl⟩
   have cc := fun W (h : GX g w0 W) => cmp_fn y x g w0 W gy gx h
   rw [hcr] at cc
   have Hcr := Lib.hid hcr
   clear hcr
   go_upto_region 35 with fail
   apply wp_region_calm 14 (by kernel_rfl) (by kernel_rfl)
   case h' =>
    intro Q0 hQ0
    simp only [List.take_succ_cons, List.take_zero]
    repeat (
     first
      | (apply calm_p rfl; case h1 => (intro w1 hw1 hF K hK; obtain ⟨cx0, cx1⟩ := (Hdb.out.grow hw1).at Fx.out; obtain ⟨cy0, cy1⟩ := (Hdb.out.grow hw1).at Fy.out; go_simp; first | exact hK _ (Grow.refl _) | (go_at_call 134; ((with_reducible refine (cc _ (hgw.grow hw1)).mono ?_); rintro e w' ⟨rfl, hg⟩; exact ⟨_, rfl, hK _ hg⟩))))
      | (apply calm_y rfl rfl rfl; case h1 => (intro w1 hw1 hF K hK; obtain ⟨cx0, cx1⟩ := (Hdb.out.grow hw1).at Fx.out; obtain ⟨cy0, cy1⟩ := (Hdb.out.grow hw1).at Fy.out; go_simp; first | exact hK _ (Grow.refl _) | (go_at_call 134; ((with_reducible refine (cc _ (hgw.grow hw1)).mono ?_); rintro e w' ⟨rfl, hg⟩; exact ⟨_, rfl, hK _ hg⟩))))
      | apply calm_n rfl rfl rfl rfl
     intro K hK
     go_simp
     apply hK
     clear hK K)
    refine calm_nil ?_
    intro w1 hw1 hF
    apply hQ0
    clear hQ0
    simp only [List.drop_succ_cons, List.drop_zero]
    clear hF
    have Hdb3 := Lib.hid (Hdb.out.grow hw1)
    by_cases hc : cr < 0
    ·have dc : decide (cr < 0) = true := by simpa using hc
     have hnew : cm = hi ∨ ∀ x' y', U[cm - a]? = some x' → V[pN - cm - m]? = some y' → cmpR y' x' < 0 := .inr fun x' y' h1 h2 => by
      rw [Hx.out] at h1
      rw [← Epc.out, Hy.out] at h2
      cases h1; cases h2
      rw [Hcr.out]; exact hc
     have Hnew := Lib.hid hnew
     clear hnew hc
     simp only [dc, Bool.not_true]
     go_wp2
     go_roundw
     case rel => exact ⟨s, cm, rfl, by go_num, hls, k1, by omega, Lo.out, Hnew.out, Hdb3.out, hgx.grow hw1⟩
     case measure => simp [intOf]; omega
    ·have dc : decide (cr < 0) = false := by simpa using hc
     have hnew : cm + 1 = lo ∨ ∀ x' y', U[cm + 1 - 1 - a]? = some x' → V[pN - (cm + 1 - 1) - m]? = some y' → cmpR x' y' ≤ 0 := .inr fun x' y' h1 h2 => by
      rw [Nat.add_sub_cancel] at h1 h2
      rw [Hx.out] at h1
      rw [← Epc.out, Hy.out] at h2
      cases h1; cases h2
      have := cmpR_swap gy gx
      rw [Hcr.out] at this
      omega
     have Hnew := Lib.hid hnew
     clear hnew hc
     simp only [dc, Bool.not_false]
     go_wp2
     go_roundw
     case rel => exact ⟨cm + 1, r, by go_num, rfl, by omega, by omega, hrh, Hnew.out, Hi.out, Hdb3.out, hgx.grow hw1⟩
     case measure => simp [intOf]; omega
   case hp' => trivial
  ·obtain rfl : s = r := by omega
   have dl : decide ((s : Int) < (s : Int)) = false := by simp
   clear hlt
   obtain ⟨eN, een⟩ : ∃ eN : Nat, eN = nN - s := ⟨_, rfl⟩
   have een2 : (nN : Int) - (s : Int) = (eN : Int) := by omega
   have e1 : m ≤ eN := by have := Enn.out; omega
   have e2 : eN ≤ b := by omega
   have e3 : mid ≤ eN := by have := Enn.out; omega
   obtain ⟨U1, U2, rfl, lU1⟩ : ∃ U1 U2, U = U1 ++ U2 ∧ U1.length = s - a := ⟨U.take (s - a), U.drop (s - a), by simp, by have := Em.out; simp; omega⟩
   obtain ⟨V1, V2, rfl, lV1⟩ : ∃ V1 V2, V = V1 ++ V2 ∧ V1.length = eN - m := ⟨V.take (eN - m), V.drop (eN - m), by simp, by have := Eb.out; simp; omega⟩
   have lU2 : U2.length = m - s := by have := Em.out; simp at this; omega
   have lV2 : V2.length = b - eN := by have := Eb.out; simp at this; omega
   have LU1 := Lib.hid lU1
   have LU2 := Lib.hid lU2
   have LV1 := Lib.hid lV1
   have LV2 := Lib.hid lV2
   have gU1 : ∀ x ∈ U1, Good g w0 x := fun x hx => HG.out x (by simp [hx])
   have gU2 : ∀ x ∈ U2, Good g w0 x := fun x hx => HG.out x (by simp [hx])
   have gV1 : ∀ x ∈ V1, Good g w0 x := fun x hx => HG.out x (by simp [hx])
   have gV2 : ∀ x ∈ V2, Good g w0 x := fun x hx => HG.out x (by simp [hx])
   have hcross : ∀ x ∈ U1 ++ V1, ∀ y ∈ U2 ++ V2, cmpR x y ≤ 0 := by
    refine cross gU1 gU2 gV1 gV2 HU.out HV.out (fun x y h1 h2 => ?_) (fun x y h1 h2 => ?_)
    ·rw [List.getLast?_eq_getElem?] at h1
     have hb1 := (List.getElem?_eq_some_iff.1 h1).1
     have hb2 := (List.getElem?_eq_some_iff.1 h2).1
     rcases Lo.out with h | h
     ·exfalso
      rcases Lo1.out with h3 | h3 <;> omega
     ·refine h x y ?_ ?_
      ·rw [List.getElem?_append_left (by omega), ← h1]; congr 1; omega
      ·rw [List.getElem?_append_right (by have := Enn.out; omega), ← h2]; congr 1; have := Enn.out; omega
    ·rw [List.getLast?_eq_getElem?] at h1
     have hb1 := (List.getElem?_eq_some_iff.1 h1).1
     have hb2 := (List.getElem?_eq_some_iff.1 h2).1
     rcases Hi.out with h | h
     ·exfalso
      rcases Hi1.out with h3 | h3 <;> (have := Enn.out; omega)
     ·have := h x y (by rw [List.getElem?_append_right (by omega), ← h2]; congr 1; omega) (by rw [List.getElem?_append_left (by have := Enn.out; omega), ← h1]; congr 1; have := Enn.out; omega)
      omega
   have uU1 : Up U1 := (List.pairwise_append.1 HU.out).1
   have uU2 : Up U2 := (List.pairwise_append.1 HU.out).2.1
   have uV1 : Up V1 := (List.pairwise_append.1 HV.out).1
   have uV2 : Up V2 := (List.pairwise_append.1 HV.out).2.1
   have Cross := Lib.hid hcross
   have UU1 := Lib.hid uU1
   have UU2 := Lib.hid uU2
   have UV1 := Lib.hid uV1
   have UV2 := Lib.hid uV2
   have GU1 := Lib.hid gU1
   have GU2 := Lib.hid gU2
   have GV1 := Lib.hid gV1
   have GV2 := Lib.hid gV2
   have Een := Lib.hid een
   clear lU1 lU2 lV1 lV2 hcross uU1 uU2 uV1 uV2 gU1 gU2 gV1 gV2 een
   have KK := Lib.hid (show U1.length = s - a ∧ U2.length = m - s ∧ V1.length = eN - m ∧ V2.length = b - eN ∧ nN = mid + m ∧ eN = nN - s from ⟨LU1.out, LU2.out, LV1.out, LV2.out, Enn.out, Een.out⟩)
   obtain ⟨z1, hz⟩ : ∃ z, decide (s < m ∧ m < eN) = z := ⟨_, rfl⟩
   have HZ1 := Lib.hid hz
   clear hz
   go_upto_region 39 with fail
   go_cut [185] (fun q wx => q = .bool z1 ∧ wx = wr)
   case first => as_aux_lemma =>
    by_cases h1 : s < m
    ·have f1 : decide ((s : Int) < (m : Int)) = true := by simp; omega
     by_cases h2 : m < eN
     ·have f2 : decide ((m : Int) < (eN : Int)) = true := by simp; omega
      go_wp2
      go_meet
      exact ⟨by rw [← HZ1.out, decide_eq_true ⟨h1, h2⟩], rfl⟩
     ·have f2 : decide ((m : Int) < (eN : Int)) = false := by simp; omega
      go_wp2
      go_meet
      exact ⟨by rw [← HZ1.out, decide_eq_false (fun h => h2 h.2)], rfl⟩
    ·have f1 : decide ((s : Int) < (m : Int)) = false := by simp; omega
     go_wp2
     go_meet
     exact ⟨by rw [← HZ1.out, decide_eq_false (fun h => h1 h.1)], rfl⟩
   case rest =>
   obtain ⟨rfl, hwc⟩ := hcut
   subst wc
   go_upto_if 185 with fail
   go_cut [] (fun wx => DB wx g (P ++ (U1 ++ (V1 ++ (U2 ++ (V2 ++ S))))) ∧ GX g w wx)
   case first => as_aux_lemma =>
    cases z1 with
    | true =>
     have hrot := of_decide_eq_true HZ1.out
     have cs := rotate (P ++ U1) U2 V1 (V2 ++ S) s m eN N c (by have := Ea.out; have := LU1.out; simp; omega) (by have := Ea.out; have := LU1.out; have := LU2.out; simp; omega) (by have := Ea.out; have := LU1.out; have := LU2.out; have := LV1.out; simp; omega) (by have := LU2.out; omega) (by have := LV1.out; omega) (by have h1 := HN.out; have h3 := Ea.out; simp only [List.length_append] at h1 ⊢; omega) hmax g cmpF wr (by have := Hdb.out; simpa using this)
     clear hrot
     go_wp2_with (go_at_call 221; ((with_reducible refine cs.mono ?_); rintro en w2 ⟨rfl, hd2, hg2⟩))
     go_meet
     exact ⟨by simpa using hd2, hgx.trans hg2⟩
    | false =>
     have hrot := of_decide_eq_false HZ1.out
     have hdR : DB wr g (P ++ (U1 ++ (V1 ++ (U2 ++ (V2 ++ S))))) := by
      have h0 : U2 = [] ∨ V1 = [] := by
       rw [← List.length_eq_zero_iff, ← List.length_eq_zero_iff]
       have kk := KK.out; omega
      have h1 := Hdb.out
      rcases h0 with h | h <;> rw [h] at h1 ⊢ <;> simpa using h1
     have HdR := Lib.hid hdR
     clear hrot hdR
     go_wp2
     go_meet
     exact ⟨HdR.out, hgx⟩
   case rest =>
   obtain ⟨hdR, gxR⟩ := hcut
   have HdR := Lib.hid hdR
   clear hdR
   rename World => wR
   obtain ⟨z2, hz⟩ : ∃ z, decide (a < s ∧ s < mid) = z := ⟨_, rfl⟩
   have HZ2 := Lib.hid hz
   clear hz
   go_upto_region 41 with fail
   go_cut [199] (fun q wx => q = .bool z2 ∧ wx = wR)
   case first => as_aux_lemma =>
    by_cases h1 : a < s
    ·have f1 : decide ((a : Int) < (s : Int)) = true := by simp; omega
     by_cases h2 : s < mid
     ·have f2 : decide ((s : Int) < (mid : Int)) = true := by simp; omega
      go_wp2
      go_meet
      exact ⟨by rw [← HZ2.out, decide_eq_true ⟨h1, h2⟩], rfl⟩
     ·have f2 : decide ((s : Int) < (mid : Int)) = false := by simp; omega
      go_wp2
      go_meet
      exact ⟨by rw [← HZ2.out, decide_eq_false (fun h => h2 h.2)], rfl⟩
    ·have f1 : decide ((a : Int) < (s : Int)) = false := by simp; omega
     go_wp2
     go_meet
     exact ⟨by rw [← HZ2.out, decide_eq_false (fun h => h1 h.1)], rfl⟩
   case rest =>
   obtain ⟨rfl, hwc⟩ := hcut
   subst wc
   go_upto_if 199 with fail
   go_cut [] (fun wx => ∃ M1 : List I, M1.Perm (U1 ++ V1) ∧ Up M1 ∧ DB wx g (P ++ (M1 ++ (U2 ++ (V2 ++ S)))) ∧ GX g w wx)
   case first => as_aux_lemma =>
    cases z2 with
    | true =>
     have hr1 := of_decide_eq_true HZ2.out
     have cs := IH.out P U1 V1 (U2 ++ (V2 ++ S)) a s mid N c g wR (by have := Hn.out; simp at this; (have kk := KK.out; omega)) (by (have kk := KK.out; omega)) (by (have kk := KK.out; omega)) Ea.out (by (have kk := KK.out; omega)) (by (have kk := KK.out; omega)) (by have h1 := HN.out; have h3 := Ea.out; simp only [List.length_append] at h1 ⊢; (have kk := KK.out; omega)) hmax (fun x hx => by
      rcases List.mem_append.1 hx with h | h
      ·exact GU1.out x h
      ·exact GV1.out x h) (hg0.trans gxR) UU1.out UV1.out HdR.out
     clear hr1
     go_wp2_with (go_at_call 204; ((with_reducible refine cs.mono ?_); rintro en w4 ⟨rfl, hd4, hg4⟩))
     go_meet
     obtain ⟨M1, p1, u1, db1⟩ := hd4
     exact ⟨M1, p1, u1, db1, gxR.trans hg4⟩
    | false =>
     have hr1 := of_decide_eq_false HZ2.out
     have hM1 : Up (U1 ++ V1) := by
      by_cases h : U1 = []
      ·rw [h]; simpa using UV1.out
      ·have h1 : V1 = [] := by
        apply List.length_eq_zero_iff.1
        have : U1.length ≠ 0 := fun h0 => h (List.length_eq_zero_iff.1 h0)
        (have kk := KK.out; omega)
       rw [h1]; simpa using UU1.out
     have HM1 := Lib.hid hM1
     clear hr1 hM1
     go_wp2
     go_meet
     exact ⟨U1 ++ V1, List.Perm.refl _, HM1.out, by have := HdR.out; simpa using this, gxR⟩
   case rest =>
   obtain ⟨M1, p1, u1, db1, gx4⟩ := hcut
   have HM1 := Lib.hid (And.intro p1 u1)
   have HdM := Lib.hid db1
   clear p1 u1 db1
   rename World => wM
   obtain ⟨z3, hz⟩ : ∃ z, decide (mid < eN ∧ eN < b) = z := ⟨_, rfl⟩
   have HZ3 := Lib.hid hz
   clear hz
   go_upto_region 43 with fail
   go_cut [213] (fun q wx => q = .bool z3 ∧ wx = wM)
   case first => as_aux_lemma =>
    by_cases h1 : mid < eN
    ·have f1 : decide ((mid : Int) < (eN : Int)) = true := by simp; omega
     by_cases h2 : eN < b
     ·have f2 : decide ((eN : Int) < (b : Int)) = true := by simp; omega
      go_wp2
      go_meet
      exact ⟨by rw [← HZ3.out, decide_eq_true ⟨h1, h2⟩], rfl⟩
     ·have f2 : decide ((eN : Int) < (b : Int)) = false := by simp; omega
      go_wp2
      go_meet
      exact ⟨by rw [← HZ3.out, decide_eq_false (fun h => h2 h.2)], rfl⟩
    ·have f1 : decide ((mid : Int) < (eN : Int)) = false := by simp; omega
     go_wp2
     go_meet
     exact ⟨by rw [← HZ3.out, decide_eq_false (fun h => h1 h.1)], rfl⟩
   case rest =>
   obtain ⟨rfl, hwc⟩ := hcut
   subst wc
   go_upto_if 213 with fail
   cases z3 with
   | true =>
    have hr2 := of_decide_eq_true HZ3.out
    have cs := IH.out (P ++ M1) U2 V2 S mid eN b N c g wM (by have := Hn.out; simp at this; (have kk := KK.out; omega)) (by (have kk := KK.out; omega)) (by (have kk := KK.out; omega)) (by have := Ea.out; have := HM1.out.1.length_eq; simp at this ⊢; (have kk := KK.out; omega)) (by (have kk := KK.out; omega)) (by (have kk := KK.out; omega)) (by have h1 := HN.out; have h2 := HM1.out.1.length_eq; have h3 := Ea.out; simp only [List.length_append] at h1 h2 ⊢; (have kk := KK.out; omega)) hmax (fun x hx => by
     rcases List.mem_append.1 hx with h | h
     ·exact GU2.out x h
     ·exact GV2.out x h) (hg0.trans gx4) UU2.out UV2.out (by have := HdM.out; simpa using this)
    clear hr2
    go_wp2_with (go_at_call 204; ((with_reducible refine cs.mono ?_); rintro en w5 ⟨rfl, hd5, hg5⟩))
    have Hd5 := Lib.hid hd5
    clear hd5
    go_end0
    obtain ⟨M2, p2, u2, db2⟩ := Hd5.out
    exact ⟨rfl, ⟨M1 ++ M2, merged HM1.out.1 p2, merged_up HM1.out.2 u2 HM1.out.1 p2 Cross.out, by simpa using db2⟩, gx4.trans hg5⟩
   | false =>
    have hr2 := of_decide_eq_false HZ3.out
    have hM2 : Up (U2 ++ V2) := by
     by_cases h : U2 = []
     ·rw [h]; simpa using UV2.out
     ·have h1 : V2 = [] := by
       apply List.length_eq_zero_iff.1
       have : U2.length ≠ 0 := fun h0 => h (List.length_eq_zero_iff.1 h0)
       (have kk := KK.out; omega)
      rw [h1]; simpa using UU2.out
    have HM2 := Lib.hid hM2
    clear hr2 hM2
    go_wp2
    go_end0
    exact ⟨rfl, ⟨M1 ++ (U2 ++ V2), merged HM1.out.1 (List.Perm.refl _), merged_up HM1.out.2 HM2.out HM1.out.1 (List.Perm.refl _) Cross.out, by have := HdM.out; simpa using this⟩, gx4⟩
theorem sym_any (w0 : World) : ∀ n, SymC w0 n := by
 intro n
 induction n with
 | zero => intro P U V S a m b N c g w hn hU; omega
 | succ n ih =>
  intro P U V S a m b N c g w hn hU1 hV1 ha hm hb hN hmax hG hg0 hU hV hd
  by_cases h1 : U.length = 1
  ·obtain ⟨u, rfl⟩ : ∃ u, U = [u] := by
    match U, h1 with
    | [u], _ => exact ⟨u, rfl⟩
   exact sym_left P V S u a m b N c ha hm hb (by simpa using hN) hmax g w0 w (by simpa using hG) hg0 hV (by simpa using hd)
  ·by_cases h2 : V.length = 1
   ·obtain ⟨v, rfl⟩ : ∃ v, V = [v] := by
     match V, h2 with
     | [v], _ => exact ⟨v, rfl⟩
    exact sym_right P U S v a m b N c ha hm (by omega) hb (by simpa using hN) hmax g w0 w hG hg0 hU (by simpa using hd)
   ·exact sym_step w0 n ih P U V S a m b N c g w hn (by omega) (by omega) ha hm hb hN hmax hG hg0 hU hV hd
def Blks (k : Nat) (Bs : List (List I)) : Prop := ∀ B ∈ Bs, B.length = k ∧ Up B
theorem blks_len {k : Nat} : ∀ {Bs : List (List I)}, Blks k Bs → Bs.flatten.length = Bs.length * k
 | [], _ => by simp
 | B :: Bs, h => by
  have h1 := blks_len (Bs := Bs) (fun x hx => h x (by simp [hx]))
  have h2 := (h B (by simp)).1
  simp only [List.flatten_cons, List.length_append, List.length_cons, h1, h2]
  rw [Nat.add_mul]; omega
theorem Blks.snoc {k : Nat} {Bs : List (List I)} {B : List I} (h : Blks k Bs) (h1 : B.length = k) (h2 : Up B) : Blks k (Bs ++ [B]) := fun x hx => by
 rcases List.mem_append.1 hx with hx | hx
 ·exact h x hx
 ·simp at hx; subst hx; exact ⟨h1, h2⟩
set_option maxRecDepth 100000 in
set_option maxHeartbeats 16000000 in
theorem stable (L : List I) (N c g : Nat) (w0 w : World) (hN : N = L.length) (hmax : N ≤ 500000) (hG : ∀ x ∈ L, Good g w0 x) (hg0 : GX g w0 w) (hd : DB w g L) :
  Calls Tryz.prog 172 #[.slice (some ⟨g, 0, none⟩) N c, .int .i64 (N : Int), cmpF] w fun en w' => en = .returned (.tuple #[]) ∧ (∃ M' : List I, M'.Perm L ∧ Up M' ∧ DB w' g M') ∧ GX g w w' := by
 have HN := Lib.hid hN
 have HG := Lib.hid hG
 have Hd := Lib.hid hd
 have hmax2 : N ≤ 1000000 := by omega
 clear hN hG hd
 go_enter Tryz.func172, Tryz.ntmps172
 go_wp2
 go_loopw [7, 8] (fun sa sb wr => ∃ (a : Nat) (Bs : List (List I)) (R : List I), sa = .int .i64 (a : Int) ∧ sb = .int .i64 ((a : Int) + 20) ∧ a ≤ N ∧ a = Bs.length * 20 ∧ Blks 20 Bs ∧ (Bs.flatten ++ R).Perm L ∧ DB wr g (Bs.flatten ++ R) ∧ GX g w wr) (fun sa _ _ => N - (intOf sa).toNat)
 case atStart => exact ⟨0, [], L, rfl, by go_num, Nat.zero_le _, rfl, fun B hB => by simp at hB, List.Perm.refl _, Hd.out, GX.refl _ _⟩
 case round =>
  obtain ⟨a, Bs, R, rfl, rfl, haN, ha, hB, hp, hdb, hgx⟩ := hrel
  have Ha := Lib.hid ha
  have HB := Lib.hid hB
  have HP := Lib.hid hp
  have Hdb := Lib.hid hdb
  clear ha hB hp hdb
  have hlen : a + R.length = N := by
   have h1 := HP.out.length_eq
   have h2 := blks_len HB.out
   have h3 := HN.out
   have h4 := Ha.out
   simp only [List.length_append] at h1
   omega
  have Hlen := Lib.hid hlen
  have GR : ∀ x ∈ R, Good g w0 x := fun x hx => HG.out x (HP.out.mem_iff.1 (by simp [hx]))
  have HGR := Lib.hid GR
  have GB : ∀ B ∈ Bs, ∀ x ∈ B, Good g w0 x := fun B hB x hx => HG.out x (HP.out.mem_iff.1 (by simp; exact .inl ⟨B, hB, hx⟩))
  have HGB := Lib.hid GB
  clear hlen GR GB
  by_cases hlt : a + 20 ≤ N
  ·have d0 : decide ((a : Int) + 20 ≤ (N : Int)) = true := by simp; omega
   have cs := ins_sort Bs.flatten (R.take 20) (R.drop 20) (a : Int) ((a : Int) + 20) N c (by have := blks_len HB.out; have := Ha.out; omega) (by have := blks_len HB.out; have := Ha.out; have := Hlen.out; rw [List.length_take]; omega) (by rw [List.take_append_drop]; exact HN.out.trans HP.out.length_eq.symm) hmax2 g w0 wr (fun x hx => HGR.out x (List.mem_of_mem_take hx)) (hg0.trans hgx) (by have := Hdb.out; simpa using this)
   go_wp2_with (go_at_call 203; ((with_reducible refine cs.mono ?_); rintro en w2 ⟨rfl, hd2, hg2⟩))
   have Hd2 := Lib.hid hd2
   clear hd2 cs
   go_roundw
   case rel =>
    obtain ⟨M, p, u, db⟩ := Hd2.out
    have lM : M.length = 20 := by
     have h1 := p.length_eq
     rw [List.length_take] at h1
     have h2 := Hlen.out
     omega
    refine ⟨a + 20, Bs ++ [M], R.drop 20, by go_num, by go_num, by omega, by have := Ha.out; simp; omega, HB.out.snoc lM u, ?_, by simpa using db, hgx.trans hg2⟩
    refine List.Perm.trans ?_ HP.out
    simp only [List.flatten_append, List.flatten_cons, List.flatten_nil, List.append_nil, List.append_assoc]
    refine List.Perm.append_left _ ?_
    have := p.append_right (R.drop 20)
    rwa [List.take_append_drop] at this
   case measure => simp [intOf]; omega
  ·have d0 : decide ((a : Int) + 20 ≤ (N : Int)) = false := by simp; omega
   have hlt' : ¬ a + 20 ≤ N := hlt
   have cs := ins_sort Bs.flatten R [] (a : Int) (N : Int) N c (by have := blks_len HB.out; have := Ha.out; omega) (by have := blks_len HB.out; have := Ha.out; have := Hlen.out; omega) (by rw [List.append_nil]; exact HN.out.trans HP.out.length_eq.symm) hmax2 g w0 wr HGR.out (hg0.trans hgx) (by have := Hdb.out; simpa using this)
   go_wp2_with (go_at_call 203; ((with_reducible refine cs.mono ?_); rintro en w2 ⟨rfl, hd2, hg2⟩))
   obtain ⟨M0, p0, u0, db0⟩ := hd2
   have HM0 := Lib.hid (show M0.Perm R ∧ Up M0 ∧ DB w2 g (Bs.flatten ++ M0) from ⟨p0, u0, by simpa using db0⟩)
   have hgx2 := hgx.trans hg2
   clear p0 u0 db0 cs hg2
   go_loopw [6] (fun sk w3 => ∃ (k : Nat) (Cs : List (List I)) (T : List I), sk = .int .i64 (k : Int) ∧ 20 ≤ k ∧ k ≤ 2 * N + 20 ∧ Blks k Cs ∧ T.length < k ∧ Up T ∧ (Cs.flatten ++ T).Perm L ∧ DB w3 g (Cs.flatten ++ T) ∧ GX g w w3) (fun sk _ => N - (intOf sk).toNat)
   case atStart => exact ⟨20, Bs, M0, by go_num, Nat.le_refl _, by omega, HB.out, by have := HM0.out.1.length_eq; have := Hlen.out; omega, HM0.out.2.1, (HM0.out.1.append_left _).trans HP.out, HM0.out.2.2, hgx2⟩
   case round =>
    obtain ⟨k, Cs, T, rfl, hk, hk2, hC, hT, uT, hpC, hdC, hgC⟩ := hrel
    have HC := Lib.hid hC
    have UT := Lib.hid uT
    have HPC := Lib.hid hpC
    have HdC := Lib.hid hdC
    have HT := Lib.hid hT
    clear hC uT hpC hdC hT
    have hlenC : Cs.length * k + T.length = N := by
     have h1 := HPC.out.length_eq
     have h2 := blks_len HC.out
     have h3 := HN.out
     simp only [List.length_append] at h1
     omega
    have HlenC := Lib.hid hlenC
    clear hlenC
    by_cases hkN : k < N
    ·have dk : decide ((k : Int) < (N : Int)) = true := by simp; omega
     go_wp2
     go_loopw [7, 8] (fun sa sb w4 => ∃ (a' : Nat) (Ds Es : List (List I)), sa = .int .i64 (a' : Int) ∧ sb = .int .i64 ((a' : Int) + 2 * (k : Int)) ∧ a' = Ds.length * (2 * k) ∧ Blks (2 * k) Ds ∧ Blks k Es ∧ a' + Es.length * k + T.length = N ∧ (Ds.flatten ++ (Es.flatten ++ T)).Perm L ∧ DB w4 g (Ds.flatten ++ (Es.flatten ++ T)) ∧ GX g w w4) (fun sa _ _ => N - (intOf sa).toNat)
     case atStart => exact ⟨0, [], Cs, by go_num, by go_num, by simp, fun B hB => by simp at hB, HC.out, by have := HlenC.out; omega, HPC.out, HdC.out, hgC⟩
     case round =>
      obtain ⟨a', Ds, Es, rfl, rfl, ha', hD, hE, hl', hp', hd', hg'⟩ := hrel
      have Ha' := Lib.hid ha'
      have HD := Lib.hid hD
      have HE := Lib.hid hE
      have Hl' := Lib.hid hl'
      have HP' := Lib.hid hp'
      have Hd' := Lib.hid hd'
      clear ha' hD hE hl' hp' hd'
      have ha'N : a' ≤ N := by have := Hl'.out; omega
      have lD : Ds.flatten.length = a' := by rw [blks_len HD.out]; exact Ha'.out.symm
      have LD := Lib.hid lD
      clear lD
      by_cases hb' : a' + 2 * k ≤ N
      ·have db' : decide ((a' : Int) + 2 * (k : Int) ≤ (N : Int)) = true := by simp; omega
       obtain ⟨B1, B2, Fs, rfl⟩ : ∃ B1 B2 Fs, Es = B1 :: B2 :: Fs := by
        have h1 := Hl'.out
        have h2 := HT.out
        match Es, h1 with
        | [], h1 => exfalso; simp at h1; omega
        | [B], h1 => exfalso; simp at h1; omega
        | B1 :: B2 :: Fs, _ => exact ⟨B1, B2, Fs, rfl⟩
       have b1 := HE.out B1 (by simp)
       have b2 := HE.out B2 (by simp)
       have hGood : ∀ x ∈ B1 ++ B2, Good g w0 x := fun x hx => HG.out x (HP'.out.mem_iff.1 (by simp at hx ⊢; rcases hx with h | h <;> simp [h]))
       have cs := sym_any w0 (B1.length + B2.length) Ds.flatten B1 B2 (Fs.flatten ++ T) a' (a' + k) (a' + 2 * k) N c g wr (Nat.le_refl _) (by omega) (by omega) LD.out.symm (by omega) (by omega) (by have := HP'.out.length_eq; have := HN.out; simp at *; omega) hmax2 hGood (hg0.trans hg') b1.2 b2.2 (by have := Hd'.out; simpa using this)
       rw [show ((a' + k : Nat) : Int) = (a' : Int) + (k : Int) by simp, show ((a' + 2 * k : Nat) : Int) = (a' : Int) + 2 * (k : Int) by simp] at cs
       have B12 := Lib.hid (And.intro b1 b2)
       clear b1 b2 hGood
       go_wp2_with (go_at_call 204; ((with_reducible refine cs.mono ?_); rintro en w5 ⟨rfl, hd5, hg5⟩))
       have Hd5 := Lib.hid hd5
       clear hd5 cs
       go_roundw
       case rel =>
        obtain ⟨M, p, u, db⟩ := Hd5.out
        have h1 := B12.out.1.1
        have h2 := B12.out.2.1
        have lM : M.length = 2 * k := by have := p.length_eq; simp at this; omega
        refine ⟨a' + 2 * k, Ds ++ [M], Fs, by go_num, by go_num, by have := Ha'.out; simp [Nat.add_mul]; omega, HD.out.snoc lM u, fun B hB => HE.out B (by simp [hB]), by have := Hl'.out; simp [Nat.add_mul] at this; omega, ?_, by simpa using db, hg'.trans hg5⟩
        refine List.Perm.trans ?_ HP'.out
        simp only [List.flatten_append, List.flatten_cons, List.flatten_nil, List.append_nil, List.append_assoc]
        refine List.Perm.append_left _ ?_
        have := p.append_right (Fs.flatten ++ T)
        simpa using this
       case measure => simp [intOf]; omega
      ·have db' : decide ((a' : Int) + 2 * (k : Int) ≤ (N : Int)) = false := by simp; omega
       by_cases hm : a' + k < N
       ·have dm : decide ((a' : Int) + (k : Int) < (N : Int)) = true := by simp; omega
        obtain ⟨B1, rfl⟩ : ∃ B1, Es = [B1] := by
         have h1 := Hl'.out
         have h2 := HT.out
         match Es, h1 with
         | [], h1 => exfalso; simp at h1; omega
         | [B], _ => exact ⟨B, rfl⟩
         | B1 :: B2 :: Fs, h1 => exfalso; simp [Nat.add_mul] at h1; omega
        have b1 := HE.out B1 (by simp)
        have hGood : ∀ x ∈ B1 ++ T, Good g w0 x := fun x hx => HG.out x (HP'.out.mem_iff.1 (by simp at hx ⊢; rcases hx with h | h <;> simp [h]))
        have cs := sym_any w0 (B1.length + T.length) Ds.flatten B1 T [] a' (a' + k) N N c g wr (Nat.le_refl _) (by omega) (by have := Hl'.out; simp at this; omega) LD.out.symm (by omega) (by have := Hl'.out; simp at this; omega) (by have := HP'.out.length_eq; have := HN.out; simp at *; omega) hmax2 hGood (hg0.trans hg') b1.2 UT.out (by have := Hd'.out; simpa using this)
        rw [show ((a' + k : Nat) : Int) = (a' : Int) + (k : Int) by simp] at cs
        have B1' := Lib.hid b1
        clear b1 hGood
        go_wp2_with (go_at_call 204; ((with_reducible refine cs.mono ?_); rintro en w5 ⟨rfl, hd5, hg5⟩))
        have Hd5 := Lib.hid hd5
        clear hd5 cs
        go_roundw
        case rel =>
         obtain ⟨M, p, u, db⟩ := Hd5.out
         have h1 := B1'.out.1
         have h2 := HT.out
         have lM : M.length < 2 * k := by have := p.length_eq; simp at this; omega
         refine ⟨2 * k, Ds, M, by go_num, by omega, by omega, HD.out, lM, u, ?_, by simpa using db, hg'.trans hg5⟩
         refine List.Perm.trans ?_ HP'.out
         refine List.Perm.append_left _ ?_
         simpa using p
        case measure => simp [intOf]; omega
       ·have dm : decide ((a' : Int) + (k : Int) < (N : Int)) = false := by simp; omega
        have hfin : ∃ T' : List I, T'.length < 2 * k ∧ Up T' ∧ Es.flatten ++ T = T' := by
         have h1 := Hl'.out
         have h2 := HT.out
         match Es, h1, HE with
         | [], h1, _ => exact ⟨T, by omega, UT.out, rfl⟩
         | [B], h1, HE =>
          have b := HE.out B (by simp)
          have hT0 : T = [] := List.length_eq_zero_iff.1 (by simp at h1; omega)
          exact ⟨B, by omega, b.2, by rw [hT0]; simp⟩
         | B1 :: B2 :: Fs, h1, _ => exfalso; simp [Nat.add_mul] at h1; omega
        have Hfin := Lib.hid hfin
        clear hfin
        go_wp2
        go_roundw
        case rel =>
         obtain ⟨T', l1, u1, e1⟩ := Hfin.out
         exact ⟨2 * k, Ds, T', by go_num, by omega, by omega, HD.out, l1, u1, by rw [← e1]; exact HP'.out, by rw [← e1]; exact Hd'.out, hg'⟩
        case measure => simp [intOf]; omega
    ·have dk : decide ((k : Int) < (N : Int)) = false := by simp; omega
     have hfin : ∃ M' : List I, M'.Perm L ∧ Up M' ∧ DB wr g M' := by
      have h1 := HlenC.out
      match Cs, h1, HC, HPC, HdC with
      | [], h1, _, HPC, HdC => exact ⟨T, by simpa using HPC.out, UT.out, by simpa using HdC.out⟩
      | [B], h1, HC, HPC, HdC =>
       have hT0 : T = [] := List.length_eq_zero_iff.1 (by simp at h1; omega)
       have e : [B].flatten ++ T = B := by rw [hT0]; simp
       exact ⟨B, by rw [← e]; exact HPC.out, (HC.out B (by simp)).2, by rw [← e]; exact HdC.out⟩
      | B1 :: B2 :: Fs, h1, _, _, _ => exfalso; simp [Nat.add_mul] at h1; omega
     have Hfin := Lib.hid hfin
     clear hfin
     go_wp2
     go_end0
     exact ⟨rfl, Hfin.out, hgC⟩
set_option maxRecDepth 100000 in
theorem sort_stable (L : List I) (N c g : Nat) (w0 w : World) (hN : N = L.length) (hmax : N ≤ 500000) (hG : ∀ x ∈ L, Good g w0 x) (hg0 : GX g w0 w) (hd : DB w g L) :
  Calls Tryz.prog 133 #[.slice (some ⟨g, 0, none⟩) N c, cmpF] w fun en w' => en = .returned (.tuple #[]) ∧ (∃ M' : List I, M'.Perm L ∧ Up M' ∧ DB w' g M') ∧ GX g w w' := by
 have cs := stable L N c g w0 w hN hmax hG hg0 hd
 clear hd hG hN
 go_enter Tryz.func133, Tryz.ntmps133
 go_wp2_with (go_at_call 172; ((with_reducible refine cs.mono ?_); rintro en w2 ⟨rfl, hd2, hg2⟩))
 have Hd2 := Lib.hid hd2
 clear hd2
 go_end0
 exact ⟨rfl, Hd2.out, hg2⟩
end Go.Proofs.YtifpomonpneanaaGreat
