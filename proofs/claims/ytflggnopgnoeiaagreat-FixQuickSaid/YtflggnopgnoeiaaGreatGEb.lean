/- Parts of a proof. No condition. -/
import Derived.Test.YtflggnopgnoeiaaGreatGEa
set_option maxRecDepth 100000
set_option maxRecDepth 100000
set_option linter.unusedSimpArgs false
set_option linter.unusedVariables false
namespace Go
variable {p : Prop}
theorem os_ (h : p := by have := Hn.out; simp at this; (have kk := KK.out; omega)) : p := h
theorem v9_ (h : p := by (have kk := KK.out; omega)) : p := h
end Go
namespace Go.Proofs.YtflggnopgnoeiaaGreat
open Go.RowKit Go.Calm
section
variable {ck : Ck} {α : Type} {C : Cm ck α} {rs : List Value}
theorem Um {g : Nat} {w0 : World} {L : List α} (hu : C.Up L) (hG : ∀ x ∈ L, C.good g w0 x) {x z : α} (hx : x ∈ L) (hz : L.getLast? = some z) : C.cmp x z <= 0 := by
 obtain ⟨t, ht, rfl⟩ := List.getElem_of_mem hx; rw [List.getLast?_eq_getElem?] at hz; exact Wj hu hG (qQ_ ht) hz uX_
theorem Ul {g : Nat} {w0 : World} {L : List α} (hu : C.Up L) (hG : ∀ x ∈ L, C.good g w0 x) {x z : α} (hx : x ∈ L) (hz : L[0]? = some z) : C.cmp z x <= 0 := by
 obtain ⟨t, ht, rfl⟩ := List.getElem_of_mem hx; exact Wj hu hG hz (qQ_ ht) uX_
theorem zbY {g : Nat} {w0 : World} {U1 U2 V1 V2 : List α} (gU1 : ∀ x ∈ U1, C.good g w0 x) (gU2 : ∀ x ∈ U2, C.good g w0 x) (gV1 : ∀ x ∈ V1, C.good g w0 x) (gV2 : ∀ x ∈ V2, C.good g w0 x) (hU : C.Up (U1 ++ U2)) (hV : C.Up (V1 ++ V2))
  (h1 : ∀ x y, U1.getLast? = some x -> V2[0]? = some y -> C.cmp x y <= 0) (h2 : ∀ x y, V1.getLast? = some y -> U2[0]? = some x -> C.cmp y x <= 0) : ∀ x ∈ U1 ++ V1, ∀ y ∈ U2 ++ V2, C.cmp x y <= 0 := by
 unfold Cm.Up at hU hV; rw [List.pairwise_append] at hU hV; obtain ⟨u1, u2, u3⟩ := hU; obtain ⟨v1, v2, v3⟩ := hV
 have last : ∀ {L : List α} {x : α}, x ∈ L -> ∃ z, L.getLast? = some z /\ z ∈ L := fun {L x} hx => by
  have hne : L ≠ [] := by rintro rfl; simp at hx
  exact ⟨L.getLast hne, List.getLast?_eq_some_getLast hne, List.getLast_mem hne⟩
 have first : ∀ {L : List α} {x : α}, x ∈ L -> ∃ z, L[0]? = some z /\ z ∈ L := fun {L x} hx => by
  match L, hx with
  | z :: L, _ => exact ⟨z, rfl, by simp⟩
 intro x hx y hy; rcases List.mem_append.1 hx with hx | hx <;> rcases List.mem_append.1 hy with hy | hy
 ·exact u3 x hx y hy
 ·obtain ⟨p, hp, hp'⟩ := last hx; obtain ⟨q, hq, hq'⟩ := first hy
  have a1 := Um u1 gU1 hx hp; have a2 := Ul v2 gV2 hy hq; exact C.trans (gU1 x hx) (gV2 q hq') (gV2 y hy) (C.trans (gU1 x hx) (gU1 p hp') (gV2 q hq') a1 (h1 p q hp hq)) a2
 ·obtain ⟨p, hp, hp'⟩ := last hx; obtain ⟨q, hq, hq'⟩ := first hy
  have a1 := Um v1 gV1 hx hp; have a2 := Ul u2 gU2 hy hq; exact C.trans (gV1 x hx) (gU2 q hq') (gU2 y hy) (C.trans (gV1 x hx) (gV1 p hp') (gU2 q hq') a1 (h2 q p hp hq)) a2
 ·exact v3 x hx y hy
def Cm.SymC (C : Cm ck α) (rs : List Value) (w0 : World) (n : Nat) : Prop := ∀ (P U V S : List α) (a m b N c g : Nat) (w : World), U.length + V.length <= n -> 1 <= U.length -> 1 <= V.length -> a = P.length -> m = a + U.length -> b = m + V.length -> N = (P ++ (U ++ (V ++ S))).length -> N <= 1000000 ->
 (∀ x ∈ U, ∀ y ∈ V, C.tg x y) -> (∀ x ∈ U ++ V, C.good g w0 x) -> GX g w0 w -> C.Up U -> C.Up V -> DY C rs w g (P ++ (U ++ (V ++ S))) ->
 Calls Tryz.prog ck.sym #[.slice (some ⟨g, 0, none⟩) N c, .int .i64 a, .int .i64 m, .int .i64 b, ck.F] w fun en w' => en = .returned (.tuple #[]) /\ (∃ M' : List α, M'.Perm (U ++ V) /\ C.Up M' /\ DY C rs w' g (P ++ (M' ++ S))) /\ GX g w w'
theorem Mh {U1 V1 U2 V2 M1 M2 : List α} (u1 : C.Up M1) (u2 : C.Up M2) (p1 : M1.Perm (U1 ++ V1)) (p2 : M2.Perm (U2 ++ V2)) (hc : ∀ x ∈ U1 ++ V1, ∀ y ∈ U2 ++ V2, C.cmp x y <= 0) : C.Up (M1 ++ M2) :=
 List.pairwise_append.2 ⟨u1, u2, fun x hx y hy => hc x (p1.mem_iff.1 hx) y (p2.mem_iff.1 hy)⟩
theorem NS {p : Prop} (h : p := by
 as_aux_lemma =>
  dsimp only [Ck.swp, Ck.rot, Ck.ins, Ck.sym, Ck.stb, Ck.srt, Ck.F]; have hN' : N = a + U.length + V.length + S.length := by rw [hN, ha]; simp; omega
  have hbN : b <= N := by omega
  have d0 : ((m : Int) - (a : Int) == 1) = false := by simp; omega
  have d1 : ((b : Int) - (m : Int) == 1) = false := by simp; omega
  have ham : a + 2 <= m := by omega
  have hmb : m + 2 <= b := by omega
  obtain ⟨mid, emid⟩ : ∃ mid : Nat, mid = (a + b) / 2 := ⟨_, rfl⟩
  have emid2 : ((a : Int) + (b : Int)) / 2 = (mid : Int) := by omega
  obtain ⟨nN, enn⟩ : ∃ nN : Nat, nN = mid + m := ⟨_, rfl⟩
  have enn2 : (mid : Int) + (m : Int) = (nN : Int) := by omega
  obtain ⟨pN, epn⟩ : ∃ pN : Nat, pN = nN - 1 := ⟨_, rfl⟩
  have epn2 : (nN : Int) - 1 = (pN : Int) := by omega
  obtain ⟨lo, elo⟩ : ∃ lo : Nat, lo = if mid < m then nN - b else a := ⟨_, rfl⟩
  obtain ⟨hi, ehi⟩ : ∃ hi : Nat, hi = if mid < m then mid else m := ⟨_, rfl⟩
  have Hd := hh_ hd; have HN := hh_ hN'; have Ea := hh_ ha; have Em := hh_ hm; have Eb := hh_ hb; have HG := hh_ hG; have HU := hh_ hU; have HV := hh_ hV; have Hn := hh_ hn; have Emid := hh_ emid; have Enn := hh_ enn; have Epn := hh_ epn; have IH := hh_ ih; have mid1 : a < mid := by omega
  have mid2 : mid < b := by omega
  have loa : a <= lo := by rw [elo]; split <;> omega
  have lohi : lo <= hi := by rw [elo, ehi]; split <;> omega
  have him : hi <= m := by rw [ehi]; split <;> omega
  have himid : hi <= mid := by rw [ehi]; split <;> omega
  have lon : nN <= lo + b := by rw [elo]; split <;> omega
  have lo1 : lo = a \/ lo + b = nN := by rw [elo]; split <;> omega
  have hi1 : hi = m \/ hi = mid := by rw [ehi]; split <;> omega
  have bd1 : nN <= 2000000 := by omega
  have bd2 : pN + 1 = nN := by omega
  have Elo := hh_ elo; have Ehi := hh_ ehi; have Lo1 := hh_ lo1; have Hi1 := hh_ hi1; have HTg := hh_ hT; clear hT hd hN hN' ha hm hb hG hU hV hn emid enn epn ih elo ehi lo1 hi1
  first | go_enter Tryz.func188, Tryz.ntmps188 | go_enter Tryz.func222, Tryz.ntmps222 | go_enter Tryz.func125, Tryz.ntmps125
  have dm : (decide ((mid : Int) < (m : Int)) = true /\ ((nN : Int) - (b : Int) = (lo : Int)) /\ hi = mid) \/ (decide ((mid : Int) < (m : Int)) = false /\ lo = a /\ hi = m) := by
   by_cases h : mid < m
   ·left; have h1 := Elo.out; have h2 := Ehi.out; rw [if_pos h] at h1 h2; exact ⟨by simp; omega, by omega, h2⟩
   ·right; have h1 := Elo.out; have h2 := Ehi.out; rw [if_neg h] at h1 h2; exact ⟨by simp; omega, h1, h2⟩
  have Dm := hh_ dm; clear dm; go_upto_if 140 with fail
  go_cut [20, 21] (fun x y wx => x = .int .i64 (lo : Int) /\ y = .int .i64 (hi : Int) /\ wx = w)
  case first => as_aux_lemma =>
   rcases Dm.out with ⟨q1, q2, q3⟩ | ⟨q1, q2, q3⟩
   ·have q1n : mid < m := by simpa using q1
    have Q3 := hh_ q3; clear q3; go_wp2; go_meet; exact ⟨by first | rfl | simp [q2], by rw [Q3.out], rfl⟩
   ·have q1n : ¬ mid < m := by simpa using q1
    have Q := hh_ (And.intro q2 q3); clear q2 q3; go_wp2; go_meet; exact ⟨by rw [Q.out.1], by rw [Q.out.2], rfl⟩
  case rest =>
  obtain ⟨rfl, rfl, hwc⟩ := hcut; subst wc; clear Dm; go_wp2
  go_loopw [20, 21] (fun ss sr wr => ∃ (s r : Nat), ss = .int .i64 (s : Int) /\ sr = .int .i64 (r : Int) /\ lo <= s /\ s <= r /\ r <= hi /\ (s = lo \/ ∀ x y, U[s - 1 - a]? = some x -> V[pN - (s - 1) - m]? = some y -> C.cmp x y <= 0) /\ (r = hi \/ ∀ x y, U[r - a]? = some x -> V[pN - r - m]? = some y -> C.cmp y x < 0) /\ DY C rs wr g (P ++ (U ++ (V ++ S))) /\ GX g w wr) (fun ss sr _ => (intOf sr).toNat - (intOf ss).toNat)
  case atStart => exact ⟨lo, hi, rfl, rfl, Nat.le_refl _, lohi, Nat.le_refl _, .inl rfl, .inl rfl, Hd.out, GX.refl _ _⟩
  case round =>
   obtain ⟨s, r, rfl, rfl, hls, hsr, hrh, hlo, hhi, hdb, hgx⟩ := hrel; have Lo := hh_ hlo; have Hi := hh_ hhi; have Hdb := hh_ hdb; have hgw := hg0.trans hgx; clear hlo hhi hdb
   by_cases hlt : s < r
   ·as_aux_lemma =>
    have dl : decide ((s : Int) < (r : Int)) = true := by simp; omega
    obtain ⟨cm, ecm⟩ : ∃ cm : Nat, cm = (s + r) / 2 := ⟨_, rfl⟩
    have ecm2 : ((s : Int) + (r : Int)) / 2 = (cm : Int) := by omega
    have k1 : s <= cm := by omega
    have k2 : cm < r := by omega
    obtain ⟨pc, epc⟩ : ∃ pc : Nat, pc = pN - cm := ⟨_, rfl⟩
    have epc2 : IntKind.i64.wrap ((pN : Int) - (cm : Int)) = (pc : Int) := by rw [IntKind.wrap_i64]; omega
    have k3 : m <= pc := by have := Enn.out; omega
    have k4 : pc < b := by have := Enn.out; omega
    have hbig : (s : Int) + r <= 2000000 := by omega
    have cmN : cm < N := by omega
    have pcN : pc < N := by omega
    obtain ⟨x, hx⟩ : ∃ x, U[cm - a]? = some x := ⟨_, qQ_ (by have := Em.out; omega)⟩
    obtain ⟨y, hy⟩ : ∃ y, V[pc - m]? = some y := ⟨_, qQ_ (by have := Eb.out; omega)⟩
    have fx : (P ++ (U ++ (V ++ S)))[cm]? = some x := by
     rw [List.getElem?_append_right ue_, List.getElem?_append_left vQ_, show cm - P.length = cm - a by have := Ea.out; omega]; exact hx
    have fy : (P ++ (U ++ (V ++ S)))[pc]? = some y := by
     rw [List.getElem?_append_right ue_, List.getElem?_append_right vQ_, List.getElem?_append_left (by have := Ea.out; have := Em.out; have := Eb.out; omega), show pc - P.length - U.length = pc - m by have := Ea.out; have := Em.out; omega]; exact hy
    have gx : C.good g w0 x := HG.out x v2_; have gy : C.good g w0 y := HG.out y (by simp [qZ_ hy]); have Fx := hh_ fx; have Fy := hh_ fy; have Hx := hh_ hx; have Hy := hh_ hy; have Ecm := hh_ ecm; have Epc := hh_ epc; clear fx fy hx hy ecm epc; obtain ⟨cr, hcr⟩ : ∃ q, C.ans y x = q := ⟨_, rfl⟩
    have cc := fun W (h : GX g w0 W) => C.call y x g w0 W gy gx h
    rw [hcr] at cc; dsimp only [Ck.fn, Ck.args, Ck.v, Ck.c0, Ck.c1] at cc; have htg : C.tg x y := HTg.out x (qZ_ Hx.out) y (qZ_ Hy.out); have hlt9 := C.lt gy gx htg; rw [hcr] at hlt9; have Hcr := hh_ hlt9; clear hcr hlt9 htg; go_upto_region 35 with fail
    apply wp_region_calm 14 uQ_ uQ_
    case h' =>
     intro Q0 hQ0; simp only [List.take_succ_cons, List.take_zero]
     repeat ((first | ((first | apply calm_p rfl | apply zu rfl rfl rfl); case h1 => (intro w1 hw1 hF K hK; obtain ⟨cx0, cx1⟩ := (Hdb.out.grow hw1).at Fx.out; dsimp only [Ck.c0, Ck.c1] at cx0 cx1; obtain ⟨cy0, cy1⟩ := (Hdb.out.grow hw1).at Fy.out; dsimp only [Ck.c0, Ck.c1] at cy0 cy1; go_simp; first | exact hK _ (za.refl _) | ((first | go_at_call 134 | go_at_call 201 | go_at_call 213 | go_at_call 26); ((with_reducible refine (cc _ (hgw.grow hw1)).mono ?_); rintro e w' ⟨rfl, hg⟩; exact ⟨_, rfl, hK _ hg⟩)))) | apply zw rfl rfl rfl rfl); intro K hK; go_simp; apply hK; clear hK K)
     refine calm_nil ?_; intro w1 hw1 hF; apply hQ0; clear hQ0; simp only [List.drop_succ_cons, List.drop_zero]; clear hF; have Hdb3 := hh_ (Hdb.out.grow hw1)
     by_cases hc : cr < 0
     ·have dc : decide (cr < 0) = true := by simpa using hc
      have hnew : cm = hi \/ ∀ x' y', U[cm - a]? = some x' -> V[pN - cm - m]? = some y' -> C.cmp y' x' < 0 := .inr fun x' y' h1 h2 => by
       rw [Hx.out] at h1; rw [<- Epc.out, Hy.out] at h2; cases h1; cases h2; exact Hcr.out.2 hc
      have Hnew := hh_ hnew; clear hnew hc; simp only [dc, Bool.not_true]; go_wp2; go_roundw
      case rel => exact ⟨s, cm, rfl, by go_num, hls, k1, by omega, Lo.out, Hnew.out, Hdb3.out, hgx.grow hw1⟩
      case measure => exact u1_
     ·have dc : decide (cr < 0) = false := by simpa using hc
      have hnew : cm + 1 = lo \/ ∀ x' y', U[cm + 1 - 1 - a]? = some x' -> V[pN - (cm + 1 - 1) - m]? = some y' -> C.cmp x' y' <= 0 := .inr fun x' y' h1 h2 => by
       rw [Nat.add_sub_cancel] at h1 h2; rw [Hx.out] at h1; rw [<- Epc.out, Hy.out] at h2; cases h1; cases h2; have := C.swap gy gx; have h9 := mt Hcr.out.1 hc; omega
      have Hnew := hh_ hnew; clear hnew hc; simp only [dc, Bool.not_false]; go_wp2; go_roundw
      case rel => exact ⟨cm + 1, r, by go_num, rfl, by omega, by omega, hrh, Hnew.out, Hi.out, Hdb3.out, hgx.grow hw1⟩
      case measure => exact u1_
    case hp' => trivial
   ·obtain rfl : s = r := by omega
    have dl : decide ((s : Int) < (s : Int)) = false := by simp
    clear hlt; obtain ⟨eN, een⟩ : ∃ eN : Nat, eN = nN - s := ⟨_, rfl⟩
    have een2 : (nN : Int) - (s : Int) = (eN : Int) := by omega
    have e1 : m <= eN := by have := Enn.out; omega
    have e2 : eN <= b := by omega
    have e3 : mid <= eN := by have := Enn.out; omega
    obtain ⟨U1, U2, rfl, lU1⟩ : ∃ U1 U2, U = U1 ++ U2 /\ U1.length = s - a := ⟨U.take (s - a), U.drop (s - a), by simp, by have := Em.out; simp; omega⟩
    obtain ⟨V1, V2, rfl, lV1⟩ : ∃ V1 V2, V = V1 ++ V2 /\ V1.length = eN - m := ⟨V.take (eN - m), V.drop (eN - m), by simp, by have := Eb.out; simp; omega⟩
    have lU2 : U2.length = m - s := by have := Em.out; simp at this; omega
    have lV2 : V2.length = b - eN := by have := Eb.out; simp at this; omega
    have LU1 := hh_ lU1; have LU2 := hh_ lU2; have LV1 := hh_ lV1; have LV2 := hh_ lV2; have gU1 : ∀ x ∈ U1, C.good g w0 x := fun x hx => HG.out x uR_
    have gU2 : ∀ x ∈ U2, C.good g w0 x := fun x hx => HG.out x uR_
    have gV1 : ∀ x ∈ V1, C.good g w0 x := fun x hx => HG.out x uR_
    have gV2 : ∀ x ∈ V2, C.good g w0 x := fun x hx => HG.out x uR_
    have hcross : ∀ x ∈ U1 ++ V1, ∀ y ∈ U2 ++ V2, C.cmp x y <= 0 := by
     refine zbY gU1 gU2 gV1 gV2 HU.out HV.out (fun x y h1 h2 => ?_) (fun x y h1 h2 => ?_)
     ·rw [List.getLast?_eq_getElem?] at h1; have hb1 := (qQ9.1 h1).1; have hb2 := (qQ9.1 h2).1; rcases Lo.out with h | h
      ·exfalso; rcases Lo1.out with h3 | h3 <;> omega
      ·refine h x y ?_ ?_
       ·rw [List.getElem?_append_left uX_, <- h1]; congr 1; omega
       ·rw [List.getElem?_append_right (by have := Enn.out; omega), <- h2]; congr 1; have := Enn.out; omega
     ·rw [List.getLast?_eq_getElem?] at h1; have hb1 := (qQ9.1 h1).1; have hb2 := (qQ9.1 h2).1; rcases Hi.out with h | h
      ·exfalso; rcases Hi1.out with h3 | h3 <;> (have := Enn.out; omega)
      ·have := h x y (by rw [List.getElem?_append_right uX_, <- h2]; congr 1; omega) (by rw [List.getElem?_append_left (by have := Enn.out; omega), <- h1]; congr 1; have := Enn.out; omega); omega
    have uU1 : C.Up U1 := (List.pairwise_append.1 HU.out).1; have uU2 : C.Up U2 := (List.pairwise_append.1 HU.out).2.1; have uV1 : C.Up V1 := (List.pairwise_append.1 HV.out).1; have uV2 : C.Up V2 := (List.pairwise_append.1 HV.out).2.1; have Cross := hh_ hcross; have UU1 := hh_ uU1; have UU2 := hh_ uU2; have UV1 := hh_ uV1; have UV2 := hh_ uV2; have GU1 := hh_ gU1; have GU2 := hh_ gU2; have GV1 := hh_ gV1; have GV2 := hh_ gV2; have Een := hh_ een; clear lU1 lU2 lV1 lV2 hcross uU1 uU2 uV1 uV2 gU1 gU2 gV1 gV2 een; have KK := hh_ (show U1.length = s - a /\ U2.length = m - s /\ V1.length = eN - m /\ V2.length = b - eN /\ nN = mid + m /\ eN = nN - s from ⟨LU1.out, LU2.out, LV1.out, LV2.out, Enn.out, Een.out⟩); obtain ⟨z1, hz⟩ : ∃ z, decide (s < m /\ m < eN) = z := ⟨_, rfl⟩
    have HZ1 := hh_ hz; clear hz; go_upto_region 39 with fail
    go_cut [185] (fun q wx => q = .bool z1 /\ wx = wr)
    case first => as_aux_lemma =>
     by_cases h1 : s < m
     ·have f1 : decide ((s : Int) < (m : Int)) = true := by simp; omega
      by_cases h2 : m < eN
      ·have f2 : decide ((m : Int) < (eN : Int)) = true := by simp; omega
       go_wp2; go_meet; exact ⟨by rw [<- HZ1.out, decide_eq_true ⟨h1, h2⟩], rfl⟩
      ·have f2 : decide ((m : Int) < (eN : Int)) = false := by simp; omega
       go_wp2; go_meet; exact ⟨by rw [<- HZ1.out, decide_eq_false (fun h => h2 h.2)], rfl⟩
     ·have f1 : decide ((s : Int) < (m : Int)) = false := by simp; omega
      go_wp2; go_meet; exact ⟨by rw [<- HZ1.out, decide_eq_false (fun h => h1 h.1)], rfl⟩
    case rest =>
    obtain ⟨rfl, hwc⟩ := hcut; subst wc; go_upto_if 185 with fail
    go_cut [] (fun wx => DY C rs wx g (P ++ (U1 ++ (V1 ++ (U2 ++ (V2 ++ S))))) /\ GX g w wx)
    case first => as_aux_lemma =>
     cases z1 with
     | true =>
      have hrot := of_decide_eq_true HZ1.out; have cs := fun F => zbG (C := C) (rs := rs) (P ++ U1) U2 V1 (V2 ++ S) s m eN N c (by have := Ea.out; have := LU1.out; simp; omega) (by have := Ea.out; have := LU1.out; have := LU2.out; simp; omega) (by have := Ea.out; have := LU1.out; have := LU2.out; have := LV1.out; simp; omega) (by have := LU2.out; omega) (by have := LV1.out; omega) (by have h1 := HN.out; have h3 := Ea.out; simp only [List.length_append] at h1 ⊢; omega) hmax g F wr vX_
      clear hrot
      go_wp2_with ((first | go_at_call 207 | go_at_call 223 | go_at_call 154); ((with_reducible refine (cs _).mono ?_); rintro en w2 ⟨rfl, hd2, hg2⟩))
      go_meet; exact ⟨by simpa using hd2, hgx.trans hg2⟩
     | false =>
      have hrot := of_decide_eq_false HZ1.out
      have hdR : DY C rs wr g (P ++ (U1 ++ (V1 ++ (U2 ++ (V2 ++ S))))) := by
       have h0 : U2 = [] \/ V1 = [] := by
        rw [<- List.length_eq_zero_iff, <- List.length_eq_zero_iff]; have kk := KK.out; omega
       have h1 := Hdb.out; rcases h0 with h | h <;> rw [h] at h1 ⊢ <;> simpa using h1
      have HdR := hh_ hdR; clear hrot hdR; go_wp2; go_meet; exact ⟨HdR.out, hgx⟩
    case rest =>
    obtain ⟨hdR, gxR⟩ := hcut; have HdR := hh_ hdR; clear hdR; rename World => wR
    obtain ⟨z2, hz⟩ : ∃ z, decide (a < s /\ s < mid) = z := ⟨_, rfl⟩
    have HZ2 := hh_ hz; clear hz; go_upto_region 41 with fail
    go_cut [199] (fun q wx => q = .bool z2 /\ wx = wR)
    case first => as_aux_lemma =>
     by_cases h1 : a < s
     ·have f1 : decide ((a : Int) < (s : Int)) = true := by simp; omega
      by_cases h2 : s < mid
      ·have f2 : decide ((s : Int) < (mid : Int)) = true := by simp; omega
       go_wp2; go_meet; exact ⟨by rw [<- HZ2.out, decide_eq_true ⟨h1, h2⟩], rfl⟩
      ·have f2 : decide ((s : Int) < (mid : Int)) = false := by simp; omega
       go_wp2; go_meet; exact ⟨by rw [<- HZ2.out, decide_eq_false (fun h => h2 h.2)], rfl⟩
     ·have f1 : decide ((a : Int) < (s : Int)) = false := by simp; omega
      go_wp2; go_meet; exact ⟨by rw [<- HZ2.out, decide_eq_false (fun h => h1 h.1)], rfl⟩
    case rest =>
    obtain ⟨rfl, hwc⟩ := hcut; subst wc; go_upto_if 199 with fail
    go_cut [] (fun wx => ∃ M1 : List α, M1.Perm (U1 ++ V1) /\ C.Up M1 /\ DY C rs wx g (P ++ (M1 ++ (U2 ++ (V2 ++ S)))) /\ GX g w wx)
    case first => as_aux_lemma =>
     cases z2 with
     | true =>
      have hr1 := of_decide_eq_true HZ2.out
      have cs := IH.out P U1 V1 (U2 ++ (V2 ++ S)) a s mid N c g wR os_ v9_ v9_ Ea.out v9_ v9_ (by have h1 := HN.out; have h3 := Ea.out; simp only [List.length_append] at h1 ⊢; (have kk := KK.out; omega)) hmax (fun x hx y hy => HTg.out x uR_ y uS_) (fun x hx => by
       rcases List.mem_append.1 hx with h | h
       ·exact GU1.out x h
       ·exact GV1.out x h) (hg0.trans gxR) UU1.out UV1.out HdR.out
      clear hr1
      go_wp2_with ((first | go_at_call 188 | go_at_call 222 | go_at_call 125); ((with_reducible refine cs.mono ?_); rintro en w4 ⟨rfl, hd4, hg4⟩))
      go_meet; obtain ⟨M1, p1, u1, db1⟩ := hd4; exact ⟨M1, p1, u1, db1, gxR.trans hg4⟩
     | false =>
      have hr1 := of_decide_eq_false HZ2.out
      have hM1 : C.Up (U1 ++ V1) := by
       by_cases h : U1 = []
       ·rw [h]; simpa using UV1.out
       ·have h1 : V1 = [] := by
         apply List.length_eq_zero_iff.1; have : U1.length ≠ 0 := fun h0 => h (List.length_eq_zero_iff.1 h0)
         (have kk := KK.out; omega)
        rw [h1]; simpa using UU1.out
      have HM1 := hh_ hM1; clear hr1 hM1; go_wp2; go_meet; exact ⟨U1 ++ V1, List.Perm.refl _, HM1.out, by have := HdR.out; simpa using this, gxR⟩
    case rest =>
    obtain ⟨M1, p1, u1, db1, gx4⟩ := hcut; have HM1 := hh_ (And.intro p1 u1); have HdM := hh_ db1; clear p1 u1 db1; rename World => wM
    obtain ⟨z3, hz⟩ : ∃ z, decide (mid < eN /\ eN < b) = z := ⟨_, rfl⟩
    have HZ3 := hh_ hz; clear hz; go_upto_region 43 with fail
    go_cut [213] (fun q wx => q = .bool z3 /\ wx = wM)
    case first => as_aux_lemma =>
     by_cases h1 : mid < eN
     ·have f1 : decide ((mid : Int) < (eN : Int)) = true := by simp; omega
      by_cases h2 : eN < b
      ·have f2 : decide ((eN : Int) < (b : Int)) = true := by simp; omega
       go_wp2; go_meet; exact ⟨by rw [<- HZ3.out, decide_eq_true ⟨h1, h2⟩], rfl⟩
      ·have f2 : decide ((eN : Int) < (b : Int)) = false := by simp; omega
       go_wp2; go_meet; exact ⟨by rw [<- HZ3.out, decide_eq_false (fun h => h2 h.2)], rfl⟩
     ·have f1 : decide ((mid : Int) < (eN : Int)) = false := by simp; omega
      go_wp2; go_meet; exact ⟨by rw [<- HZ3.out, decide_eq_false (fun h => h1 h.1)], rfl⟩
    case rest =>
    obtain ⟨rfl, hwc⟩ := hcut; subst wc; go_upto_if 213 with fail
    cases z3 with
    | true => as_aux_lemma =>
     have hr2 := of_decide_eq_true HZ3.out
     have cs := IH.out (P ++ M1) U2 V2 S mid eN b N c g wM os_ v9_ v9_ (by have := Ea.out; have := HM1.out.1.length_eq; simp at this ⊢; (have kk := KK.out; omega)) v9_ v9_ (by have h1 := HN.out; have h2 := HM1.out.1.length_eq; have h3 := Ea.out; simp only [List.length_append] at h1 h2 ⊢; (have kk := KK.out; omega)) hmax (fun x hx y hy => HTg.out x uR_ y uS_) (fun x hx => by
      rcases List.mem_append.1 hx with h | h
      ·exact GU2.out x h
      ·exact GV2.out x h) (hg0.trans gx4) UU2.out UV2.out (by have := HdM.out; simpa using this)
     clear hr2
     go_wp2_with ((first | go_at_call 188 | go_at_call 222 | go_at_call 125); ((with_reducible refine cs.mono ?_); rintro en w5 ⟨rfl, hd5, hg5⟩))
     have Hd5 := hh_ hd5; clear hd5; go_end0; obtain ⟨M2, p2, u2, db2⟩ := Hd5.out; exact ⟨rfl, ⟨M1 ++ M2, DW HM1.out.1 p2, Mh HM1.out.2 u2 HM1.out.1 p2 Cross.out, by simpa using db2⟩, gx4.trans hg5⟩
    | false => as_aux_lemma =>
     have hr2 := of_decide_eq_false HZ3.out
     have hM2 : C.Up (U2 ++ V2) := by
      by_cases h : U2 = []
      ·rw [h]; simpa using UV2.out
      ·have h1 : V2 = [] := by
        apply List.length_eq_zero_iff.1; have : U2.length ≠ 0 := fun h0 => h (List.length_eq_zero_iff.1 h0)
        (have kk := KK.out; omega)
       rw [h1]; simpa using UU2.out
     have HM2 := hh_ hM2; clear hr2 hM2; go_wp2; go_end0
     exact ⟨rfl, ⟨M1 ++ (U2 ++ V2), DW HM1.out.1 (List.Perm.refl _), Mh HM1.out.2 HM2.out HM1.out.1 (List.Perm.refl _) Cross.out, by have := HdM.out; simpa using this⟩, gx4⟩) : p := h
end
