/- Parts of a proof. No condition. -/
import Derived.Test.YtflggnopgnoeiaaGreatGWa
import Derived.Test.YtflggnopgnoeiaaGreatGAb
import Derived.Test.YtflggnopgnoeiaaGreatGZb
set_option maxRecDepth 100000
set_option maxHeartbeats 8000000
set_option maxRecDepth 100000
set_option linter.unusedSimpArgs false
set_option linter.unusedVariables false
namespace Go
variable {p : Prop}
theorem oS_ (h : p := by simp [results, Tryz.results145, go_sem] <;> rfl) : p := h
theorem oT_ (h : p := by simp [results, Tryz.results101, go_sem] <;> rfl) : p := h
theorem o3_ (h : p := by simp [results, Tryz.results46, go_sem] <;> rfl) : p := h
theorem uc_ (h : p := by have := G8.size; omega) : p := h
theorem w4_ (h : p := by
 go_enter Tryz.func101, Tryz.ntmps101; go_wp2; refine qX_ oT_ rfl ?_; exact ⟨⟨_, rfl, fun h => by simp at h⟩, (hb.set 1 _).al _, ((GX.refl g w).set 1 _).al _⟩) : p := h
theorem xK_ (h : p := by
 exact ⟨k + 1, l, by omega, by go_num, Own.out, Keep.out, fun j hj => Hz2.out j uX_, xP.out, hg.drewN _⟩) : p := h
end Go
namespace Go.Proofs.YtflggnopgnoeiaaGreat
open Go.RowKit Go.Calm
theorem ZH (k : Int) (w : World) : Calls Tryz.prog 143 #[.int .i64 k] w fun e w' => e = .returned (.int .i64 (zJ k)) /\ za w w' := by
 by_cases h : 1 <= k /\ k <= 13
 ·obtain ⟨h1, h2⟩ := h; have : k = 1 \/ k = 2 \/ k = 3 \/ k = 4 \/ k = 5 \/ k = 6 \/ k = 7 \/ k = 8 \/ k = 9 \/ k = 10 \/ k = 11 \/ k = 12 \/ k = 13 := by omega
  clear h1 h2; rcases this with rfl | rfl | rfl | rfl | rfl | rfl | rfl | rfl | rfl | rfl | rfl | rfl | rfl
  all_goals
   go_enter Tryz.func143, Tryz.ntmps143; go_wp2; go_ret; refine zk ?_ ze; rfl
 ·have e : zJ k = -1 := by
   unfold zJ
   repeat' split
   all_goals omega
  rw [e]; clear e; have h' : k < 1 \/ 13 < k := by omega
  clear h; rcases h' with h' | h'
  ·go_enter Tryz.func143, Tryz.ntmps143; go_wp2; go_ret; exact ⟨rfl, ze⟩
  ·have hd : decide (k < 1) = false := by simp; omega
   go_enter Tryz.func143, Tryz.ntmps143; go_wp2; go_ret; exact ⟨rfl, ze⟩
theorem D7 {x y : Int} (h : x = 1) : xm x y = y := by
 unfold xm
 by_cases h' : y = 1
 ·simp [h, h']
 ·rw [if_neg uX_, if_pos h]
theorem Ei {w : World} {base g n c : Nat} {l : List Int} (h : w.ownsRow base 3 1 (.slice (some ⟨g, 0, none⟩) n c) n (yH l)) (k : Nat) (y : Int) : (w.setCell ⟨g, k, none⟩ (.int .i64 y)).ownsRow base 3 1 (.slice (some ⟨g, 0, none⟩) n c) n (yH (l.set k y)) := by
 have hl := h.1; rcases h.2 with ⟨e, _⟩ | ⟨g', cap, cur, e, hB, hgb, hle, hmx, hcs, htk⟩
 ·simp at e
 ·simp at e; obtain ⟨rfl, rfl⟩ := e; refine ⟨by simpa [yH] using hl, .inr ⟨g, c, cur.setIfInBounds k (.int .i64 y), rfl, hB, zb.set (w := w) hgb _ _, hle, hmx, by simpa using hcs, ?_⟩⟩; have e : yH (l.set k y) = (yH l).set k (.int .i64 y) := by simp [yH, List.map_set]
  rw [e, <- htk, Array.toList_setIfInBounds, List.take_set]
theorem ZB (w : World) : (w.alloc (.cells #[] 3)).ownsRow w.heap.size 3 1 (.slice (some ⟨w.heap.size, 0, none⟩) 0 0) 0 (yH []) := ⟨rfl, .inr ⟨w.heap.size, 0, #[], rfl, Nat.le_refl _, heap_alloc_new w _, Nat.le_refl _, by unfold maxLen; omega, rfl, rfl⟩⟩
theorem VF {w : World} {base n c : Nat} {B : Option Addr} {l : List Int} (h : w.ownsRow base 3 1 (.slice B n c) n (yH l)) (hn : 0 < n) : ∃ g, B = some ⟨g, 0, none⟩ /\ base <= g /\ (∃ cur, zb w g 3 cur) /\ ∀ i x, l[i]? = some x -> w.cell? ⟨g, i, none⟩ = some (.int .i64 x) := by
 rcases h.2 with ⟨_, h0⟩ | ⟨g, cap, cur, e, hB, hgb, _⟩
 ·omega
 ·simp at e; obtain ⟨rfl, rfl⟩ := e; refine ⟨g, rfl, hB, ⟨cur, hgb⟩, fun i x hx => ?_⟩; have := h.cells (g := g) rfl i (.int .i64 x) (by simp [yH, hx]); rw [zQ] at this; simpa using this
theorem V8 (a b : List Int) (A B : Option Addr) (c d : Nat) (w : World) (hl : a.length <= 100) (hlb : b.length <= 100) (ha : yU w A a) (hb : yU w B b) :
  Calls Tryz.prog 145 #[.slice A a.length c, .slice B b.length d] w fun en w' => X0 w w' en (xK a b) := by
 have Ha := hh_ ha; have Hb := hh_ hb; clear ha hb; obtain ⟨R, hR⟩ : ∃ R, xK a b = R := ⟨_, rfl⟩
 rw [hR]; have HR := hh_ hR; clear hR; go_enter Tryz.func145, Tryz.ntmps145
 by_cases h0 : a.length = b.length
 ·have d0 : ((a.length : Int) != (b.length : Int)) = false := by simp; omega
  have H0 := hh_ h0; clear h0; have e : R = if (a.zip b).all (fun p => yk p.1 p.2) = true then ((a.zip b).map (fun p => xm p.1 p.2), 0) else ([], 9) := by rw [<- HR.out]; unfold xK; rw [if_neg (by simpa using H0.out)]
  have Re := hh_ e; have BU := hh_ (XQ (c := c) (Ha.out.grow ((za.refl w).al (.cells #[] 3)))); have OE := hh_ (ZB w); clear e HR; go_upto_region 4 with (at_builtin; refine zm rfl _ _ rfl w.heap.size _ _ _ rfl OE.out _ a rfl BU.out uX_ uY_ ?_; intro v7 w7 own7 gr7)
  have G7 : za w w7 := za.own ((za.refl w).al _) gr7 (fun i hi => by
   rcases Nat.lt_or_ge i w.heap.size with h | h
   ·exact absurd hi.symm (jh OE.out h)
   ·exact h)
  obtain ⟨B7, cap7, rfl⟩ := yV own7; have Own7 := hh_ (show w7.ownsRow w.heap.size 3 1 (.slice B7 a.length cap7) a.length (yH a) by simpa using own7); clear own7 gr7 OE BU; simp only [Nat.zero_add]; go_wp2
  go_loopw [18] (fun i wr => ∃ (k : Nat) (l : List Int), k <= a.length /\ i = .int .i64 k /\ wr.ownsRow w.heap.size 3 1 (.slice B7 a.length cap7) a.length (yH l) /\ (∀ j, j < k -> l[j]? = ((a.zip b).map (fun p => xm p.1 p.2))[j]?) /\ (∀ j, k <= j -> l[j]? = a[j]?) /\ ((a.zip b).take k).all (fun p => yk p.1 p.2) = true /\ za w wr) (fun i _ => a.length - (intOf i).toNat)
  case atStart => exact ⟨0, a, Nat.zero_le _, rfl, Own7.out, (fun j hj => by omega), (fun j hj => rfl), rfl, G7⟩
  case round =>
   obtain ⟨k, l, hk, rfl, hown, hz1, hz2, hz, hg⟩ := hrel; have Own := hh_ hown; have Hz := hh_ hz; have Hz1 := hh_ hz1; have Hz2 := hh_ hz2; clear hown hz hz1 hz2
   by_cases hlt : k < a.length
   ·obtain ⟨x, hxk⟩ : ∃ x, a[k]? = some x := ⟨_, qQ_ hlt⟩
    obtain ⟨y, hyk⟩ : ∃ y, b[k]? = some y := ⟨_, qQ_ (by have := H0.out; omega)⟩
    obtain ⟨gx, ox, rfl, cx⟩ := (Ha.out.grow hg) k x hxk; obtain ⟨gy, oy, rfl, cy⟩ := (Hb.out.grow hg) k y hyk; obtain ⟨g7, rfl, hb7, ⟨cur7, blk7⟩, hc7⟩ := VF Own.out uX_; have Zk := hh_ (FS hxk hyk); have co := hc7 k x (by rw [Hz2.out k (Nat.le_refl _)]; exact hxk); have kb : (k : Int) < (b.length : Int) := by have := H0.out; omega
    have kb' : k < b.length := by omega
    have ll : l.length = a.length := by have := Own.out.1; simpa [yH] using this
    have hzk : ((a.zip b).map (fun p => xm p.1 p.2))[k]? = some (xm x y) := by rw [List.getElem?_map, Zk.out]; rfl
    have XK := hh_ hxk; have ZM := hh_ hzk; have LL := hh_ ll; clear hxk hyk hzk hc7 ll; have good : yk x y = true -> ((a.zip b).take (k + 1)).all (fun p => yk p.1 p.2) = true := fun h => ku _ _ k _ Zk.out Hz.out h
    by_cases h3 : x = 1
    ·have d3 : (x == 1) = true := by simpa using h3
     have xP := hh_ (good (by simp [yk, h3])); have ET := hh_ (D7 (y := y) h3); obtain ⟨r7, f7⟩ := blk7.rules; clear good r7; go_wp2; go_roundw
     case rel =>
      refine ⟨k + 1, l.set k y, by omega, by go_num, Ei Own.out k y, fun j hj => ?_, fun j hj => ?_, xP.out, hg.set hb7 _⟩
      ·by_cases hjk : j = k
       ·subst hjk; rw [List.getElem?_set_self (by have := LL.out; omega), ZM.out, ET.out]
       ·rw [List.getElem?_set_ne (Ne.symm hjk)]; exact Hz1.out j uX_
      ·rw [List.getElem?_set_ne uX_]; exact Hz2.out j uX_
     case measure => exact u1_
    ·have d3 : (x == 1) = false := by simpa using h3
     have keep : xm x y = x -> ∀ j, j < k + 1 -> l[j]? = ((a.zip b).map (fun p => xm p.1 p.2))[j]? := fun h j hj => by
      by_cases hjk : j = k
      ·subst hjk; rw [ZM.out, h, Hz2.out j (Nat.le_refl _), XK.out]
      ·exact Hz1.out j uX_
     by_cases h2 : y = 1
     ·have d2 : (y != 1) = false := by simpa using h2
      have xP := hh_ (good (by simp [yk, h2])); have Keep := hh_ (keep (by simp [xm, h2])); clear good keep h2 h3; go_wp2
      go_quiet (fail)
      go_wp2; go_roundw
      case rel => exact xK_
      case measure => exact u1_
     ·have d2 : (y != 1) = true := by simpa using h2
      by_cases h1 : x = y
      ·have d1 : (y != x) = false := by simpa using h1.symm
       have xP := hh_ (good (by simp [yk, h1])); have Keep := hh_ (keep (by simp [xm, h1])); clear good keep h1 h2 h3; go_wp2
       go_quiet (fail)
       go_wp2; go_roundw
       case rel => exact xK_
       case measure => exact u1_
      ·have d1 : (y != x) = true := by simpa using Ne.symm h1
       have e : R = ([], 9) := by rw [Re.out, if_neg ou_]
       subst e; clear good keep h1 h2 h3; go_wp2
       go_quiet (fail)
       go_wp2; refine qX_ oS_ rfl ?_; exact X0.bad (hg.drewN _)
   ·obtain rfl : k = a.length := by omega
    have hzl : (a.zip b).length = a.length := by simp; have := H0.out; omega
    have ll : l.length = a.length := by have := Own.out.1; simpa [yH] using this
    have e2 : l = (a.zip b).map (fun p => xm p.1 p.2) := by
     apply List.ext_getElem?; intro j; rcases Nat.lt_or_ge j a.length with h | h
     ·exact Hz1.out j h
     ·rw [List.getElem?_eq_none uX_, List.getElem?_eq_none uN_]
    have e : R = (l, 0) := by
     have h1 := Hz.out; rw [List.take_of_length_le uX_] at h1; rw [Re.out, if_pos h1, <- e2]
    subst e; have LL := hh_ ll; clear hzl e2 ll; go_wp2; refine qX_ oS_ rfl ?_; exact ⟨B7, cap7, by simp [LL.out], qI (by rw [LL.out]; exact Own.out) rfl, x8 Own.out, hg⟩
 ·have d0 : ((a.length : Int) != (b.length : Int)) = true := by simp; omega
  have e : R = ([], 8) := by rw [<- HR.out]; unfold xK; rw [if_pos h0]
  subst e; go_wp2; refine qX_ oS_ rfl ?_; exact X0.bad (za.refl _)
def zaD (ts : List (L2 Int)) (At : Option Addr) (nt : Nat) (p : PL) : Prop := ∀ (g : Nat) (deep m : Int) (w0 w : World), PX w0 p -> WO w0 At ts -> za w0 w -> w0.heap.size <= g ->
 zb w g 136 #[.slice At ts.length nt, .int .i64 m] -> 0 <= m -> m <= 60 -> 1 <= deep -> deep <= 16 ->
 Calls Tryz.prog 101 #[.pointer (some ⟨g, 0, none⟩), p.val, .int .i64 deep] w fun en w' =>
  N6 g w w' en ((zU (zg ts) p deep m).1, (zU (zg ts) p deep m).2.1) /\ zb w' g 136 #[.slice At ts.length nt, .int .i64 (zU (zg ts) p deep m).2.2] /\ GX g w w'
theorem Mu (ts : List (L2 Int)) (At : Option Addr) (nt : Nat) (p : PL) (g : Nat) (deep m : Int) (w : World) (hb : zb w g 136 #[.slice At ts.length nt, .int .i64 m]) (h0 : 0 <= m) (h1 : m <= 60) (h : 60 < m + 1 \/ 15 < deep) :
 Calls Tryz.prog 101 #[.pointer (some ⟨g, 0, none⟩), p.val, .int .i64 deep] w fun en w' =>
  N6 g w w' en ([], 4) /\ zb w' g 136 #[.slice At ts.length nt, .int .i64 (m + 1)] /\ GX g w w' := by
 have hgN := hb.lt; have hgn : g ≠ w.heap.size := by omega
 obtain ⟨c, f⟩ := hb.rules
 have d : (decide (60 < m + 1) = true) \/ (decide (60 < m + 1) = false /\ decide (15 < deep) = true) := wD_
 clear h; unfold PL.val; rcases d with d1 | ⟨d1, d2⟩
 ·exact w4_
 ·exact w4_
theorem Mt (ts : List (L2 Int)) (At : Option Addr) (nt : Nat) (p : PL) (g : Nat) (deep m : Int) (w : World) (hb : zb w g 136 #[.slice At ts.length nt, .int .i64 m]) (hm : p.m <= zp) (h0 : 0 <= m) (d1 : decide (60 < m + 1) = false) (d2 : decide (15 < deep) = false) (h : zJ p.k < 0 \/ ¬ zJ p.k < 0 /\ (p.m : Int) ≠ zJ p.k) :
 Calls Tryz.prog 101 #[.pointer (some ⟨g, 0, none⟩), p.val, .int .i64 deep] w fun en w' =>
  N6 g w w' en ([], if zJ p.k < 0 then 1 else 5) /\ zb w' g 136 #[.slice At ts.length nt, .int .i64 (m + 1)] /\ GX g w w' := by
 have hgN := hb.lt; have hgn : g ≠ w.heap.size := by omega
 obtain ⟨c, f⟩ := hb.rules; have hm60 : m + 1 <= 60 := by simp at d1; omega
 have hm' : p.m <= 140737488355328 := hm
 have d : (decide (zJ p.k < 0) = true) \/ (decide (zJ p.k < 0) = false /\ (zJ p.k != (p.m : Int)) = true) := wW_
 clear h; unfold PL.val; rcases d with d3 | ⟨d3, d4⟩
 ·rw [if_pos uy_]; go_enter Tryz.func101, Tryz.ntmps101
  go_wp2_with ((go_at_call 143; ((with_reducible refine (ZH _ _).mono ?_); rintro e w' ⟨rfl, hg⟩; obtain ⟨hc, hf, hz⟩ := hg.rules)))
  refine qX_ oT_ rfl ?_; exact ⟨⟨_, rfl, fun h => by simp at h⟩, ((hb.set 1 _).al _).grow hg, (((GX.refl g w).set 1 _).al _).grow hg⟩
 ·rw [if_neg uy_]; go_enter Tryz.func101, Tryz.ntmps101
  go_wp2_with ((go_at_call 143; ((with_reducible refine (ZH _ _).mono ?_); rintro e w' ⟨rfl, hg⟩; obtain ⟨hc, hf, hz⟩ := hg.rules)))
  refine qX_ oT_ rfl ?_; exact ⟨⟨_, rfl, fun h => by simp at h⟩, ((hb.set 1 _).al _).grow hg, (((GX.refl g w).set 1 _).al _).grow hg⟩
abbrev Lc : L2 Int := ⟨none, [], 0⟩
theorem C7 (ts : List (List Int)) (k n : Int) (x : E) (xs : List E) (ag : List Ag) (cs : List (List Int)) : zH ts k n x xs ag cs = zH ts k n x xs ag [cs.getD 0 [], cs.getD 1 []] := by
 unfold zH; simp only [List.getD_cons_zero, List.getD_cons_succ]
theorem TK (cs : List (L2 Int)) (i : Nat) : (cs.map L2.xs).getD i [] = (cs.getD i Lc).xs := by
 rw [List.getD_eq_getElem?_getD, List.getD_eq_getElem?_getD, List.getElem?_map]; cases cs[i]? <;> rfl
theorem Cs.get {w : World} {g : Nat} {cs : List (L2 Int)} (h : Cs w g cs) (h8 : ∀ c ∈ cs, c.xs.length <= 8) (i : Nat) : (yU w (cs.getD i Lc).A (cs.getD i Lc).xs /\ Wl g (cs.getD i Lc).A (cs.getD i Lc).xs) /\ (cs.getD i Lc).xs.length <= 8 := by
 rw [List.getD_eq_getElem?_getD]; cases hi : cs[i]? with
 | none => exact ⟨⟨jX _ _, fun h => absurd rfl h⟩, Nat.zero_le _⟩
 | some c => exact ⟨h.i c (qZ_ hi), h8 c (qZ_ hi)⟩
theorem zb.gx {w w' : World} {g q : Nat} {t : TypeId} {cs : Array Value} (h : zb w q t cs) (hg : GX g w w') (hne : q ≠ g) : zb w' q t cs := by
 unfold zb at h ⊢; rw [hg.block q (zb.lt h) us_]; exact h
theorem VU (ts : List (L2 Int)) (At : Option Addr) (nt : Nat) (ht8 : ∀ t ∈ zg ts, t.length <= 8) (hnt : ts.length <= 8) (k n : Int) (x : E) (xs : X5) (ag : XY) (A : Option Addr) (mm cap : Nat) (kid : Nat -> PL) (ih : ∀ i, zaD ts At nt (kid i))
  (g : Nat) (deep m : Int) (w0 w : World) (hE : PX w0 (.mk k n x xs ag A mm cap kid)) (hts : WO w0 At ts) (hg0 : za w0 w) (hlt : w0.heap.size <= g)
  (hb : zb w g 136 #[.slice At ts.length nt, .int .i64 m]) (h0 : 0 <= m) (d1 : decide (60 < m + 1) = false) (d2 : decide (15 < deep) = false) (hd0 : 1 <= deep) (hkn : 0 <= zJ k) (hn : (mm : Int) = zJ k)
  (C : List Int) (ER M : Int) (hT : qw (zg ts) k n x xs.l ag.l (zS (fun i m' => zU (zg ts) (kid i) (deep + 1) m') mm 0 (m + 1) []) = (C, ER, M)) :
 Calls Tryz.prog 101 #[.pointer (some ⟨g, 0, none⟩), (PL.mk k n x xs ag A mm cap kid).val, .int .i64 deep] w fun en w' =>
  N6 g w w' en (C, ER) /\ zb w' g 136 #[.slice At ts.length nt, .int .i64 M] /\ GX g w w' := by
 have Hb := hh_ hb; have HT := hh_ hT; have Hn := hh_ hn; have Hts := hh_ hts; have HE := hh_ hE; have H8 := hh_ ht8; have d3 : decide (zJ k < 0) = false := by simp; omega
 have d4 : (zJ k != (mm : Int)) = false := by simpa using hn.symm
 obtain ⟨cb, fb⟩ := hb.rules; have hgN : g < w.heap.size := hb.lt; have hgn : g ≠ w.heap.size := by omega
 have hn2 : mm <= 2 := by have := PK k; omega
 have hm : m + 1 <= 60 := by simp at d1; omega
 have hd : deep <= 15 := by simp at d2; omega
 clear hT hn hb hts hE ht8; unfold PL.val; simp only [PL.k, PL.n, PL.x, PL.xs, PL.ag, PL.A, PL.m, PL.cap]; go_enter Tryz.func101, Tryz.ntmps101
 go_wp2_with ((go_at_call 143; ((with_reducible refine (ZH _ _).mono ?_); rintro e w' ⟨rfl, hg⟩; obtain ⟨hc, hf, hz⟩ := hg.rules)))
 refine zc (fun X => zb X w.heap.size 39 #[.int .i64 k, .int .i64 n, .int .i64 x.kind, .int .i64 x.v.k, .int .i64 x.v.n, .string x.v.s, .int .i64 x.col, .slice x.A x.n x.cap, .slice xs.A xs.l.length xs.c, .slice ag.A ag.l.length ag.c, .slice A mm cap] /\ zb X g 136 #[.slice At ts.length nt, .int .i64 (m + 1)] /\ GX g w X) ⟨(zb.new' _ _ _ uY_).grow hg, ((Hb.out.set 1 _).al _).grow hg, (((GX.refl g w).set 1 _).al _).grow hg⟩ ?_; rintro X ⟨BX, bX, gX⟩; have BP := hh_ BX; have bX' := hh_ bX; have hpX := BX.lt; have gp := hgn; clear cb fb hg hc hf hz BX bX; generalize w.heap.size = gq at *; have hgX : g < X.heap.size := bX'.out.lt; have hg0X : GX g w X := gX
 go_loopw [9, 10, 51] (fun va vb i wr => ∃ (j : Nat) (m' : Int) (cs : List (L2 Int)), j <= mm /\ i = .int .i64 j /\ va = vL (cs.getD 0 Lc) /\ vb = vL (cs.getD 1 Lc) /\ zb wr gq 39 #[.int .i64 k, .int .i64 n, .int .i64 x.kind, .int .i64 x.v.k, .int .i64 x.v.n, .string x.v.s, .int .i64 x.col, .slice x.A x.n x.cap, .slice xs.A xs.l.length xs.c, .slice ag.A ag.l.length ag.c, .slice A mm cap] /\ zb wr g 136 #[.slice At ts.length nt, .int .i64 m'] /\ GX g X wr /\ 0 <= m' /\ m' <= 60 /\ cs.length = j /\ Cs wr g cs /\ (∀ c ∈ cs, c.xs.length <= 8) /\
   zS (fun i m' => zU (zg ts) (kid i) (deep + 1) m') (mm - j) j m' (cs.map L2.xs) = zS (fun i m' => zU (zg ts) (kid i) (deep + 1) m') mm 0 (m + 1) []) (fun _ _ i _ => mm - (intOf i).toNat)
 case atStart => exact ⟨0, m + 1, [], Nat.zero_le _, rfl, rfl, rfl, BP.out, bX'.out, GX.refl g X, by omega, by omega, rfl, ⟨fun c hc => by simp at hc⟩, (fun c hc => by simp at hc), rfl⟩
 case round =>
  obtain ⟨j, m', cs, hj, rfl, rfl, rfl, hbp, hbr, hgx0, hm0, hm1, hcl, hcs, hc8, hR⟩ := hrel; have hgx := hg0X.trans hgx0; have hgw := GX.base hg0 hlt hgx; have HR := hh_ hR; have hbs := hh_ hbr; have BPr := hh_ hbp; have HC := hh_ hcs; have HC8 := hh_ hc8; obtain ⟨bp, fp⟩ := hbp.rules; have lwr := hbr.lt; clear hR hbr hcs hc8 hbp
  by_cases hltj : j < mm
  ·obtain ⟨gk, ok, hA, hck, hEk⟩ : ∃ gk ok, A = some ⟨gk, ok, none⟩ /\ yt w0 gk (ok + j * 11) (kid j) /\ PX w0 (kid j) := by
    cases HE.out with
    | mk hm' hc hk =>
     obtain ⟨gk, ok, h1, h2⟩ := hc j hltj; exact ⟨gk, ok, h1, h2, hk j hltj⟩
   subst hA; obtain ⟨c0, c1, c2, c3, c4, c5, c6, c7, c8, c9, c10⟩ := hck.grow hgw; obtain ⟨q1, q2, q3, hq⟩ : ∃ q1 q2 q3, zU (zg ts) (kid j) (deep + 1) m' = (q1, q2, q3) := ⟨_, _, _, rfl⟩
   have hbd := W4 (zg ts) (kid j) (deep + 1) m' hm1; have hln := Yf H8.out (kid j) (deep + 1) m'; have ihj := fun W (h : za wr W) (hb : zb W g 136 #[.slice At ts.length nt, .int .i64 m']) => ih j g (deep + 1) m' w0 W hEk Hts.out (hgw.trans h) hlt hb hm0 hm1 uX_ uX_
   rw [hq] at hbd ihj hln; simp only at hbd ihj hln; unfold PL.val at ihj; have Hq := hh_ hq; have IH := hh_ ihj; clear hq hck hEk ihj; go_upto_region 13 with fail
   refine zc (fun W => zb W wr.heap.size 39 #[.int .i64 (kid j).k, .int .i64 (kid j).n, .int .i64 (kid j).x.kind, .int .i64 (kid j).x.v.k, .int .i64 (kid j).x.v.n, .string (kid j).x.v.s, .int .i64 (kid j).x.col, .slice (kid j).x.A (kid j).x.n (kid j).x.cap, .slice (kid j).xs.A (kid j).xs.l.length (kid j).xs.c, .slice (kid j).ag.A (kid j).ag.l.length (kid j).ag.c, .slice (kid j).A (kid j).m (kid j).cap] /\ za wr W) ⟨zb.new _ _ _, (za.refl wr).al _⟩ ?_; rintro W ⟨BW, gW⟩; obtain ⟨bk, fk⟩ := BW.rules; have lBW := BW.lt; have hbW := hh_ (hbs.out.grow gW); have ihj := IH.out W gW hbW.out; clear c0 c1 c2 c3 c4 c5 c6 c7 c8 c9 c10 bp fp IH
   by_cases h2 : q2 = 0
   ·subst h2; have hj2 : j = 0 \/ j = 1 := by omega
    have Fin := hh_ (Mf (F := fun i m' => zU (zg ts) (kid i) (deep + 1) m') (ts := cs.map L2.xs) hltj Hq.out); rcases hj2 with rfl | rfl
    ·obtain rfl := List.length_eq_zero_iff.1 hcl
     go_wp2_with (go_at_call 101; ((with_reducible refine ihj.mono ?_); rintro e w2 ⟨⟨vk, rfl, hv2⟩, hb2, hg2⟩; obtain ⟨BK, capK, rfl, hik, hnk⟩ := hv2 rfl))
     have HC3 := hh_ (((HC.out.grow gW).gx hg2).snoc (c := ⟨BK, q1, capK⟩) hik hnk); have hbp3 := zb.gx (BPr.out.grow gW) hg2 (Ne.symm gp); go_roundw
     case rel => exact ⟨0 + 1, q3, [] ++ [⟨BK, q1, capK⟩], by omega, by go_num, rfl, rfl, hbp3, hb2, (hgx0.grow gW).trans hg2, by have := hbd.1; omega, by simpa using hbd.2.2, by simp, HC3.out, (fun c hc => by
      rcases List.mem_append.1 hc with hc | hc
      ·exact HC8.out c hc
      ·simp at hc; subst hc; exact hln trivial), by rw [<- HR.out, Fin.out]; simp⟩
     case measure => exact u1_
    ·obtain ⟨a1, rfl⟩ := List.length_eq_one_iff.1 hcl
     go_wp2_with (go_at_call 101; ((with_reducible refine ihj.mono ?_); rintro e w2 ⟨⟨vk, rfl, hv2⟩, hb2, hg2⟩; obtain ⟨BK, capK, rfl, hik, hnk⟩ := hv2 rfl))
     have HC3 := hh_ (((HC.out.grow gW).gx hg2).snoc (c := ⟨BK, q1, capK⟩) hik hnk); have hbp3 := zb.gx (BPr.out.grow gW) hg2 (Ne.symm gp); go_roundw
     case rel => exact ⟨1 + 1, q3, [a1] ++ [⟨BK, q1, capK⟩], by omega, by go_num, rfl, rfl, hbp3, hb2, (hgx0.grow gW).trans hg2, by have := hbd.1; omega, by simpa using hbd.2.2, by simp, HC3.out, (fun c hc => by
      rcases List.mem_append.1 hc with hc | hc
      ·exact HC8.out c hc
      ·simp at hc; subst hc; exact hln trivial), by rw [<- HR.out, Fin.out]; simp⟩
     case measure => exact u1_
   ·have dq : (q2 != 0) = true := by simpa using h2
    have fin : qw (zg ts) k n x xs.l ag.l (zS (fun i m' => zU (zg ts) (kid i) (deep + 1) m') mm 0 (m + 1) []) = ([], q2, q3) := xW_
    obtain ⟨rfl, rfl, rfl⟩ : C = [] /\ ER = q2 /\ M = q3 := by simpa using HT.out.symm.trans fin
    clear fin
    go_wp2_with (go_at_call 101; ((with_reducible refine ihj.mono ?_); rintro e w2 ⟨⟨vk, rfl, hv2⟩, hb2, hg2⟩))
    refine qX_ oT_ rfl ?_; exact ⟨⟨_, rfl, fun h => absurd h h2⟩, hb2, (hgx.grow gW).trans hg2⟩
  ·obtain rfl : j = mm := by omega
   have fin : qw (zg ts) k n x xs.l ag.l (0, m', cs.map L2.xs) = (C, ER, M) := xG_
   obtain ⟨a, ha⟩ : ∃ a, cs.getD 0 Lc = a := ⟨_, rfl⟩
   obtain ⟨b, hb⟩ : ∃ b, cs.getD 1 Lc = b := ⟨_, rfl⟩
   obtain ⟨ia, la⟩ := HC.out.get HC8.out 0; obtain ⟨ib, lb⟩ := HC.out.get HC8.out 1; rw [ha] at ia la; rw [hb] at ib lb
   have e2 : zH (zg ts) k n x xs.l ag.l (cs.map L2.xs) = zH (zg ts) k n x xs.l ag.l [a.xs, b.xs] := by
    rw [C7, TK, TK, ha, hb]
   obtain ⟨rfl, rfl, rfl⟩ : C = (zH (zg ts) k n x xs.l ag.l [a.xs, b.xs]).1 /\ ER = (zH (zg ts) k n x xs.l ag.l [a.xs, b.xs]).2 /\ M = m' := by
    have : qw (zg ts) k n x xs.l ag.l (0, m', cs.map L2.xs) = ((zH (zg ts) k n x xs.l ag.l [a.xs, b.xs]).1, (zH (zg ts) k n x xs.l ag.l [a.xs, b.xs]).2, m') := by simp [qw, e2]
    simpa using fin.symm.trans this
   rw [ha, hb]; clear fin HR HT ih e2
   obtain ⟨hEx, hES, hAG, hlens, hnI⟩ : EX w0 x /\ WW w0 xs.A xs.l /\ XZ w0 ag.A ag.l /\ (xs.l.length <= zp /\ ag.l.length <= zp) /\ x7 n := yh_
   have kk : k = 1 \/ k = 2 \/ k = 3 \/ k = 4 \/ k = 5 \/ k = 6 \/ k = 7 \/ k = 8 \/ k = 9 \/ k = 10 \/ k = 11 \/ k = 12 \/ k = 13 := by
    clear Hn HC HC8 HE Hts H8 BPr hbs; unfold zJ at hkn
    repeat' split at hkn
    all_goals omega
   have OE := hh_ (ZB wr); have Sa := hh_ (XQ (c := a.cap) (ia.1.grow ((za.refl wr).al (.cells #[] 3))))
   go_upto_region 21 with (first
    | (at_builtin; refine zm rfl _ _ rfl wr.heap.size _ _ _ rfl Own7.out _ b.xs rfl (XQ (c := b.cap) (ib.1.grow G7)) uX_ (by have := G7.size; omega) ?_; intro v8 w8 own8 gr8)
    | (at_builtin; refine zm rfl _ _ rfl wr.heap.size _ _ _ rfl OE.out _ a.xs rfl Sa.out uX_ uY_ ?_; intro v7 w7 own7 gr7; have G7 : za wr w7 := za.own ((za.refl wr).al _) gr7 (fun i hi => (Nat.lt_or_ge i wr.heap.size).elim (fun h => absurd hi.symm (jh OE.out h)) id); have Own7 := hh_ own7; clear own7 gr7))
   have G8 : za wr w8 := za.own G7 gr8 (fun i hi => (Nat.lt_or_ge i wr.heap.size).elim (fun h => absurd hi.symm (jh Own7.out h)) id); obtain ⟨BL, capL, rfl⟩ := yV own8; obtain ⟨LR, hLR⟩ : ∃ LR, a.xs ++ b.xs = LR := ⟨_, rfl⟩
   have llr : LR.length = a.xs.length + b.xs.length := by rw [<- hLR]; simp
   have hiL := qI (ys := LR) (by simpa [<- QR, hLR, llr] using own8) uX_; have hnL : Ya wr BL := x8 own8; have e9 : 0 + a.xs.length + b.xs.length = LR.length := by omega
   rw [e9]; have l16 : LR.length <= 16 := by omega
   have IL := hh_ hiL; have Ia := hh_ (And.intro (ia.1.grow G8) ia.2); have Ib := hh_ (And.intro (ib.1.grow G8) ib.2); have HLR := hh_ hLR; have Bp8 := hh_ (BPr.out.grow G8); have bs8 := hh_ (hbs.out.grow G8); have hgx8 := hgx.grow G8; have hgw8 := hgw.trans G8; have hg8 : g < wr.heap.size := lwr; clear own8 gr8 hiL ia ib ha hb hLR OE Sa Own7 HC HC8 BPr hbs hgx hgw hgx0 hg0X bp fp e9 llr Hn HE hkn; obtain ⟨bp, fp⟩ := Bp8.out.rules; have cq := fun (u : L2 Int) W (h : za w8 W) (hi : yU w8 u.A u.xs) (hl : u.xs.length <= 100) => VV u.xs u.A u.cap x W uX_ (hi.grow h) (hEx.grow (hgw8.trans h))
   have cty := fun W (h : za w8 W) => Rh a.xs a.A a.cap xs.l xs.A xs.c W uX_ vy_ (Ia.out.1.grow h) (hES.grow (hgw8.trans h))
   have cag := fun W (h : za w8 W) (h8 : ag.l.length <= 8) => Ki a.xs a.A a.cap ag.l ag.A ag.c W uX_ h8 (Ia.out.1.grow h) (hAG.grow (hgw8.trans h))
   have csd := fun W (h : za w8 W) => V8 a.xs b.xs a.A b.A a.cap b.cap W uX_ uX_ (Ia.out.1.grow h) (Ib.out.1.grow h)
   unfold E.val at cq; have cq2 := cq ⟨BL, LR, capL⟩; simp only at cq2; clear hES hAG hEx; rcases kk with rfl | rfl | rfl | rfl | rfl | rfl | rfl | rfl | rfl | rfl | rfl | rfl | rfl
   ·clear cq cq2 cty cag csd
    by_cases hn0 : n < 0
    ·have dn : decide (n < 0) = true := decide_eq_true hn0; go_wp2
     go_quiet (fail)
     go_wp2; refine qX_ oT_ rfl ?_; rw [show zH (zg ts) 1 n x xs.l ag.l [a.xs, b.xs] = ([], 7) from by simp [zH, hn0]]; exact ⟨⟨_, rfl, fun h => by simp at h⟩, bs8.out, hgx8.drewN _⟩
    ·have dn : decide (n < 0) = false := decide_eq_false hn0; obtain ⟨nn, rfl⟩ : ∃ nn : Nat, n = (nn : Int) := ⟨n.toNat, by omega⟩
     obtain ⟨b0, f0⟩ := bs8.out.rules
     by_cases hn1 : ts.length <= nn
     ·have dn1 : decide ((ts.length : Int) <= (nn : Int)) = true := decide_eq_true uX_; go_wp2
      go_quiet (fail)
      go_wp2; refine qX_ oT_ rfl ?_; rw [show zH (zg ts) 1 (nn : Int) x xs.l ag.l [a.xs, b.xs] = ([], 7) from by simp [zH]; omega]; exact ⟨⟨_, rfl, fun h => by simp at h⟩, bs8.out, hgx8.drewN _⟩
     ·have dn1 : decide ((ts.length : Int) <= (nn : Int)) = false := decide_eq_false uX_; obtain ⟨t, htk⟩ : ∃ t, ts[nn]? = some t := ⟨_, qQ_ uX_⟩
      obtain ⟨gt, ot, rfl, ct, hit⟩ := Hts.out nn t htk; have ct1 := hgw8.cell ct; have hib := hh_ (And.intro (hit.grow hgw8) (Wl.old hit hlt)); have k1 : (0 : Int) <= (nn : Int) := by omega
      have k2 : (nn : Int) < (ts.length : Int) := by omega
      have k3 : nn < ts.length := by omega
      have eT := hh_ (show zH (zg ts) 1 (nn : Int) x xs.l ag.l [a.xs, b.xs] = (t.xs, 0) from by
       simp only [zH, if_true]; rw [if_neg uN_]
       simp [zg, htk])
      clear htk ct hit; go_wp2
      go_quiet (fail)
      go_wp2
      go_quiet (fail)
      go_wp2; refine qX_ oT_ rfl ?_; rw [eT.out]; exact ⟨⟨_, rfl, fun _ => ⟨t.A, t.cap, rfl, hib.out.1, hib.out.2⟩⟩, bs8.out, (hgx8.drewN _).drewN _⟩
   ·clear cq2 cty cag csd
    go_wp2_with (go_at_call 144; ((with_reducible refine (cq a _ (za.refl _) Ia.out.1 uX_).mono ?_); rintro e w9 ⟨rfl, hg9⟩))
    refine qX_ oT_ rfl ?_; rw [show zH (zg ts) 2 n x xs.l ag.l [a.xs, b.xs] = (a.xs, yG a.xs x) from by simp [zH]]; exact ⟨⟨_, rfl, fun _ => ⟨a.A, a.cap, rfl, Ia.out.1.grow hg9, Ia.out.2⟩⟩, bs8.out.grow hg9, hgx8.grow hg9⟩
   ·clear cq cq2 cag csd
    go_wp2_with (go_at_call 30; ((with_reducible refine (cty _ (za.refl _)).mono ?_); rintro e w9 ⟨B, cap, rfl, hi, _, hnn, hg9⟩))
    refine qX_ oT_ rfl ?_; rw [show zH (zg ts) 3 n x xs.l ag.l [a.xs, b.xs] = zB a.xs xs.l from by simp [zH]]; exact ⟨⟨_, rfl, fun _ => ⟨B, cap, rfl, hi, Wl.new hnn uc_⟩⟩, bs8.out.grow hg9, hgx8.grow hg9⟩
   ·clear cq cty cag csd
    by_cases h8 : 8 < LR.length
    ·have d8 : decide ((8 : Int) < (LR.length : Int)) = true := decide_eq_true uX_; go_wp2; refine qX_ oT_ rfl ?_; rw [show zH (zg ts) 4 n x xs.l ag.l [a.xs, b.xs] = ([], 5) from by simp only [zH, List.getD_cons_zero, List.getD_cons_succ, HLR.out, h8]; simp]; exact ⟨⟨_, rfl, fun h => by simp at h⟩, bs8.out, hgx8⟩
    ·have d8 : decide ((8 : Int) < (LR.length : Int)) = false := decide_eq_false uX_
     go_wp2_with (go_at_call 144; ((with_reducible refine (cq2 _ (za.refl _) IL.out uX_).mono ?_); rintro e w9 ⟨rfl, hg9⟩; have bp := (Bp8.out.grow hg9).rules.1))
     refine qX_ oT_ rfl ?_; rw [show zH (zg ts) 4 n x xs.l ag.l [a.xs, b.xs] = (LR, yG LR x) from by simp only [zH, List.getD_cons_zero, List.getD_cons_succ, HLR.out, h8]; simp]; exact ⟨⟨_, rfl, fun _ => ⟨BL, capL, rfl, IL.out.grow hg9, Wl.new hnL hg8⟩⟩, bs8.out.grow hg9, hgx8.grow hg9⟩
   ·clear cq cty cag csd
    by_cases h8 : 8 < LR.length
    ·have d8 : decide ((8 : Int) < (LR.length : Int)) = true := decide_eq_true uX_; go_wp2; refine qX_ oT_ rfl ?_; rw [show zH (zg ts) 5 n x xs.l ag.l [a.xs, b.xs] = ([], 5) from by simp only [zH, List.getD_cons_zero, List.getD_cons_succ, HLR.out, h8]; simp]; exact ⟨⟨_, rfl, fun h => by simp at h⟩, bs8.out, hgx8⟩
    ·have d8 : decide ((8 : Int) < (LR.length : Int)) = false := decide_eq_false uX_
     go_wp2_with (go_at_call 144; ((with_reducible refine (cq2 _ (za.refl _) IL.out uX_).mono ?_); rintro e w9 ⟨rfl, hg9⟩; have bp := (Bp8.out.grow hg9).rules.1))
     refine qX_ oT_ rfl ?_; rw [show zH (zg ts) 5 n x xs.l ag.l [a.xs, b.xs] = (a.xs, yG LR x) from by simp only [zH, List.getD_cons_zero, List.getD_cons_succ, HLR.out, h8]; simp]; exact ⟨⟨_, rfl, fun _ => ⟨a.A, a.cap, rfl, Ia.out.1.grow hg9, Ia.out.2⟩⟩, bs8.out.grow hg9, hgx8.grow hg9⟩
   ·clear cq cty cag csd
    by_cases h8 : 8 < LR.length
    ·have d8 : decide ((8 : Int) < (LR.length : Int)) = true := decide_eq_true uX_; go_wp2; refine qX_ oT_ rfl ?_; rw [show zH (zg ts) 6 n x xs.l ag.l [a.xs, b.xs] = ([], 5) from by simp only [zH, List.getD_cons_zero, List.getD_cons_succ, HLR.out, h8]; simp]; exact ⟨⟨_, rfl, fun h => by simp at h⟩, bs8.out, hgx8⟩
    ·have d8 : decide ((8 : Int) < (LR.length : Int)) = false := decide_eq_false uX_
     go_wp2_with (go_at_call 144; ((with_reducible refine (cq2 _ (za.refl _) IL.out uX_).mono ?_); rintro e w9 ⟨rfl, hg9⟩; have bp := (Bp8.out.grow hg9).rules.1))
     refine qX_ oT_ rfl ?_; rw [show zH (zg ts) 6 n x xs.l ag.l [a.xs, b.xs] = (a.xs, yG LR x) from by simp only [zH, List.getD_cons_zero, List.getD_cons_succ, HLR.out, h8]; simp]; exact ⟨⟨_, rfl, fun _ => ⟨a.A, a.cap, rfl, Ia.out.1.grow hg9, Ia.out.2⟩⟩, bs8.out.grow hg9, hgx8.grow hg9⟩
   ·clear cq cty cag csd
    by_cases h8 : 8 < LR.length
    ·have d8 : decide ((8 : Int) < (LR.length : Int)) = true := decide_eq_true uX_; go_wp2; refine qX_ oT_ rfl ?_; rw [show zH (zg ts) 7 n x xs.l ag.l [a.xs, b.xs] = ([], 5) from by simp only [zH, List.getD_cons_zero, List.getD_cons_succ, HLR.out, h8]; simp]; exact ⟨⟨_, rfl, fun h => by simp at h⟩, bs8.out, hgx8⟩
    ·have d8 : decide ((8 : Int) < (LR.length : Int)) = false := decide_eq_false uX_
     go_wp2_with (go_at_call 144; ((with_reducible refine (cq2 _ (za.refl _) IL.out uX_).mono ?_); rintro e w9 ⟨rfl, hg9⟩; have bp := (Bp8.out.grow hg9).rules.1))
     refine qX_ oT_ rfl ?_; rw [show zH (zg ts) 7 n x xs.l ag.l [a.xs, b.xs] = (LR, yG LR x) from by simp only [zH, List.getD_cons_zero, List.getD_cons_succ, HLR.out, h8]; simp]; exact ⟨⟨_, rfl, fun _ => ⟨BL, capL, rfl, IL.out.grow hg9, Wl.new hnL hg8⟩⟩, bs8.out.grow hg9, hgx8.grow hg9⟩
   ·clear cq cq2 cty cag
    go_wp2_with (go_at_call 145; ((with_reducible refine (csd _ (za.refl _)).mono ?_); rintro e w9 ⟨B, cap, rfl, hi, hnn, hg9⟩))
    refine qX_ oT_ rfl ?_; rw [show zH (zg ts) 8 n x xs.l ag.l [a.xs, b.xs] = xK a.xs b.xs from by simp [zH]]; exact ⟨⟨_, rfl, fun _ => ⟨B, cap, rfl, hi, Wl.new hnn uc_⟩⟩, bs8.out.grow hg9, hgx8.grow hg9⟩
   ·clear cq cq2 cty cag
    go_wp2_with (go_at_call 145; ((with_reducible refine (csd _ (za.refl _)).mono ?_); rintro e w9 ⟨B, cap, rfl, hi, hnn, hg9⟩))
    refine qX_ oT_ rfl ?_; rw [show zH (zg ts) 9 n x xs.l ag.l [a.xs, b.xs] = xK a.xs b.xs from by simp [zH]]; exact ⟨⟨_, rfl, fun _ => ⟨B, cap, rfl, hi, Wl.new hnn uc_⟩⟩, bs8.out.grow hg9, hgx8.grow hg9⟩
   ·clear cq cq2 cty cag csd; go_wp2; refine qX_ oT_ rfl ?_; rw [show zH (zg ts) 10 n x xs.l ag.l [a.xs, b.xs] = (a.xs, 0) from by simp [zH]]; exact ⟨⟨_, rfl, fun _ => ⟨a.A, a.cap, rfl, Ia.out.1, Ia.out.2⟩⟩, bs8.out, hgx8⟩
   ·clear cq cq2 cty cag csd; go_wp2; refine qX_ oT_ rfl ?_; rw [show zH (zg ts) 11 n x xs.l ag.l [a.xs, b.xs] = (a.xs, 0) from by simp [zH]]; exact ⟨⟨_, rfl, fun _ => ⟨a.A, a.cap, rfl, Ia.out.1, Ia.out.2⟩⟩, bs8.out, hgx8⟩
   ·clear cq cq2 csd; obtain ⟨TS, TE, hTE⟩ : ∃ TS TE, zB a.xs xs.l = (TS, TE) := ⟨_, _, rfl⟩
    obtain ⟨AE, hAE⟩ : ∃ AE, kK a.xs ag.l = AE := ⟨_, rfl⟩
    obtain ⟨AT, hAT⟩ : ∃ AT, (if AE = 0 then ag.l.map (Xz a.xs) else []) = AT := ⟨_, rfl⟩
    have fin : y8 12 n xs.l ag.l a.xs = if 8 < xs.l.length + ag.l.length then ([], 5) else if TE ≠ 0 then ([], TE) else (TS ++ AT, AE) := by
     rw [<- hAT]; unfold y8; rw [hTE, hAE]; simp
    have tl := (XR a.xs xs.l).1; have alen : AT.length <= ag.l.length := by rw [<- hAT]; split <;> simp
    rw [hTE] at cty tl; unfold ZT at cag; rw [hAE, hAT] at cag; simp only at cty tl; have Fin := hh_ fin; have TL := hh_ tl; have AL := hh_ alen; have hl1 : xs.l.length <= 140737488355328 := hlens.1; have hl2 : ag.l.length <= 140737488355328 := hlens.2; clear hTE hAE hAT fin tl alen
    by_cases h8 : 8 < xs.l.length + ag.l.length
    ·have d8 : decide ((8 : Int) < (xs.l.length : Int) + (ag.l.length : Int)) = true := decide_eq_true uX_; go_wp2; refine qX_ oT_ rfl ?_; rw [show zH (zg ts) 12 n x xs.l ag.l [a.xs, b.xs] = ([], 5) from by simp only [zH]; simp [Fin.out, h8]]; exact ⟨⟨_, rfl, fun h => by simp at h⟩, bs8.out, hgx8⟩
    ·have d8 : decide ((8 : Int) < (xs.l.length : Int) + (ag.l.length : Int)) = false := decide_eq_false uX_
     by_cases h0 : TE = 0
     ·subst h0
      go_upto_region 50 with (first
       | (go_at_call 30; ((with_reducible refine (cty _ (za.refl _)).mono ?_); rintro e w9 ⟨BT, capT, rfl, hiT, _, hnT, hg9⟩; have bp := (Bp8.out.grow hg9).rules.1; have IT := hh_ hiT; clear hiT))
       | (go_at_call 146; ((with_reducible refine (cag _ hg9 uX_).mono ?_); rintro e wa ⟨BA, capA, rfl, hiA, hnA, hga⟩; have IA := hh_ hiA; clear hiA)))
      have OE := hh_ (ZB wa); have Sa := hh_ (XQ (c := capT) ((IT.out.grow hga).grow ((za.refl wa).al (.cells #[] 3)))); have at8 : AT.length <= 8 := by have := AL.out; omega
      have ts8 : TS.length <= 8 := TL.out
      go_wp2_with (first
       | (at_builtin; refine zm rfl _ _ rfl wa.heap.size _ _ _ rfl Owb.out _ AT rfl (XQ (c := capA) (IA.out.grow Gb)) uX_ (by have := Gb.size; omega) ?_; intro vc wc ownc grc; have Gc : za wa wc := za.own Gb grc (fun i hi => (Nat.lt_or_ge i wa.heap.size).elim (fun h => absurd hi.symm (jh Owb.out h)) id); obtain ⟨BC, capC, rfl⟩ := yV ownc; have Owc := hh_ ownc; clear ownc grc)
       | (at_builtin; refine zm rfl _ _ rfl wa.heap.size _ _ _ rfl OE.out _ TS rfl Sa.out uX_ uY_ ?_; intro vb wb ownb grb; have Gb : za wa wb := za.own ((za.refl wa).al _) grb (fun i hi => (Nat.lt_or_ge i wa.heap.size).elim (fun h => absurd hi.symm (jh OE.out h)) id); have Owb := hh_ ownb; clear ownb grb))
      refine qX_ oT_ rfl ?_; rw [show zH (zg ts) 12 n x xs.l ag.l [a.xs, b.xs] = (TS ++ AT, AE) from by simp only [zH]; simp [Fin.out, h8]]; have GG := hg9.trans (hga.trans Gc); refine ⟨⟨_, rfl, fun _ => ⟨BC, capC, by simp, qI (ys := TS ++ AT) (by simpa [<- QR] using Owc.out) uY_, Wl.new (w := wa) (x8 Owc.out) ?_⟩⟩, bs8.out.grow GG, hgx8.grow GG⟩; have := (hg9.trans hga).size; have := G8.size; omega
     ·have d0 : (TE != 0) = true := by simpa using h0
      go_wp2_with (go_at_call 30; ((with_reducible refine (cty _ (za.refl _)).mono ?_); rintro e w9 ⟨BT, capT, rfl, hiT, _, hnT, hg9⟩; have bp := (Bp8.out.grow hg9).rules.1; have IT := hh_ hiT; clear hiT))
      refine qX_ oT_ rfl ?_; rw [show zH (zg ts) 12 n x xs.l ag.l [a.xs, b.xs] = ([], TE) from by simp only [zH]; simp [Fin.out, h8, h0]]; exact ⟨⟨_, rfl, fun h => absurd h h0⟩, bs8.out.grow hg9, hgx8.grow hg9⟩
   ·clear cq cq2 csd cag; obtain ⟨TS, TE, hTE⟩ : ∃ TS TE, zB a.xs xs.l = (TS, TE) := ⟨_, _, rfl⟩
    have fin : y8 13 n xs.l ag.l a.xs = if TE ≠ 0 then ([], TE) else (if n < 0 \/ 50 < n then ([], 3) else (a.xs, 0)) := by
     unfold y8; rw [hTE]; simp
    rw [hTE] at cty; simp only at cty; have Fin := hh_ fin; clear hTE fin
    by_cases h0 : TE = 0
    ·subst h0
     by_cases n0 : n < 0
     ·have dn : decide (n < 0) = true := decide_eq_true n0
      go_wp2_with (go_at_call 30; ((with_reducible refine (cty _ (za.refl _)).mono ?_); rintro e w9 ⟨BT, capT, rfl, hiT, _, hnT, hg9⟩; have bp := (Bp8.out.grow hg9).rules.1; have IT := hh_ hiT; clear hiT))
      refine qX_ oT_ rfl ?_; rw [show zH (zg ts) 13 n x xs.l ag.l [a.xs, b.xs] = ([], 3) from by simp only [zH]; simp [Fin.out, n0]]; exact ⟨⟨_, rfl, fun h => by simp at h⟩, bs8.out.grow hg9, hgx8.grow hg9⟩
     ·have dn : decide (n < 0) = false := decide_eq_false n0
      by_cases n5 : 50 < n
      ·have dn5 : decide (50 < n) = true := decide_eq_true n5
       go_wp2_with (go_at_call 30; ((with_reducible refine (cty _ (za.refl _)).mono ?_); rintro e w9 ⟨BT, capT, rfl, hiT, _, hnT, hg9⟩; have bp := (Bp8.out.grow hg9).rules.1; have IT := hh_ hiT; clear hiT))
       refine qX_ oT_ rfl ?_; rw [show zH (zg ts) 13 n x xs.l ag.l [a.xs, b.xs] = ([], 3) from by simp only [zH]; simp [Fin.out, n5]]; exact ⟨⟨_, rfl, fun h => by simp at h⟩, bs8.out.grow hg9, hgx8.grow hg9⟩
      ·have dn5 : decide (50 < n) = false := decide_eq_false n5
       go_wp2_with (go_at_call 30; ((with_reducible refine (cty _ (za.refl _)).mono ?_); rintro e w9 ⟨BT, capT, rfl, hiT, _, hnT, hg9⟩; have bp := (Bp8.out.grow hg9).rules.1; have IT := hh_ hiT; clear hiT))
       refine qX_ oT_ rfl ?_; rw [show zH (zg ts) 13 n x xs.l ag.l [a.xs, b.xs] = (a.xs, 0) from by simp only [zH]; simp [Fin.out, n0, n5]]; exact ⟨⟨_, rfl, fun _ => ⟨a.A, a.cap, rfl, Ia.out.1.grow hg9, Ia.out.2⟩⟩, bs8.out.grow hg9, hgx8.grow hg9⟩
    ·have d0 : (TE != 0) = true := by simpa using h0
     go_wp2_with (go_at_call 30; ((with_reducible refine (cty _ (za.refl _)).mono ?_); rintro e w9 ⟨BT, capT, rfl, hiT, _, hnT, hg9⟩; have bp := (Bp8.out.grow hg9).rules.1; have IT := hh_ hiT; clear hiT))
     refine qX_ oT_ rfl ?_; rw [show zH (zg ts) 13 n x xs.l ag.l [a.xs, b.xs] = ([], TE) from by simp only [zH]; simp [Fin.out, h0]]; exact ⟨⟨_, rfl, fun h => absurd h h0⟩, bs8.out.grow hg9, hgx8.grow hg9⟩
theorem Lf (ts : List (L2 Int)) (At : Option Addr) (nt : Nat) (ht8 : ∀ t ∈ zg ts, t.length <= 8) (hnt : ts.length <= 8) (p : PL) : zaD ts At nt p := by
 induction p with
 | leaf =>
  intro g deep m w0 w hE hts hg0 hlt hb h0 h1 hd0 hd1; unfold zU
  by_cases hm : 60 < m + 1 \/ 15 < deep
  ·rw [if_pos hm]; exact Mu ts At nt .leaf g deep m w hb h0 h1 hm
  ·rw [if_neg hm]; exact Mt ts At nt .leaf g deep m w hb (Nat.zero_le _) h0 uN_ uN_ (.inl uW_)
 | mk k n x xs ag A mm cap kid ih =>
  intro g deep m w0 w hE hts hg0 hlt hb h0 h1 hd0 hd1; have hm9 : mm <= zp := by cases hE with | mk hm => exact hm
  by_cases hm : 60 < m + 1 \/ 15 < deep
  ·unfold zU; rw [if_pos hm]; exact Mu ts At nt (.mk k n x xs ag A mm cap kid) g deep m w hb h0 h1 hm
  ·have d1 : decide (60 < m + 1) = false := by simp; omega
   have d2 : decide (15 < deep) = false := by simp; omega
   by_cases hf : zJ k < 0 \/ ¬ zJ k < 0 /\ (mm : Int) ≠ zJ k
   ·have e : zU (zg ts) (.mk k n x xs ag A mm cap kid) deep m = ([], if zJ k < 0 then 1 else 5, m + 1) := by
     unfold zU; rw [if_neg hm]; rcases hf with hf | ⟨hf, hf2⟩
     ·exact yN_
     ·exact x4_
    rw [e]; exact Mt ts At nt (.mk k n x xs ag A mm cap kid) g deep m w hb hm9 h0 d1 d2 hf
   ·have hk0 : ¬ zJ k < 0 := fun h => hf (.inl h)
    have hnk : (mm : Int) = zJ k := Classical.byContradiction fun h => hf (.inr ⟨hk0, h⟩)
    rw [xW (zg ts) k n x xs ag A mm cap kid deep m hm uX_ hnk]; obtain ⟨C, ER, M, hT⟩ : ∃ C ER M, qw (zg ts) k n x xs.l ag.l (zS (fun i m' => zU (zg ts) (kid i) (deep + 1) m') mm 0 (m + 1) []) = (C, ER, M) := ⟨_, _, _, rfl⟩
    rw [hT]; exact VU ts At nt ht8 hnt k n x xs ag A mm cap kid ih g deep m w0 w hE hts hg0 hlt hb h0 d1 d2 hd0 uX_ hnk C ER M hT
def WL (w w' : World) (en : Ending) (r : List Int × Int) : Prop := ∃ (B : Option Addr) (cap : Nat), en = .returned (.tuple #[.slice B r.1.length cap, .int .i64 r.2]) /\ yU w' B r.1 /\ za w w'
theorem WL.bad {w w' : World} {e : Int} (hg : za w w') : WL w w' (.returned (.tuple #[.slice none 0 0, .int .i64 e])) ([], e) := ⟨none, 0, rfl, jX _ _, hg⟩
theorem WH (ts : List (L2 Int)) (At : Option Addr) (nt : Nat) (p : PL) (w : World) (hlt : ts.length <= zp) (hl : ∀ t ∈ ts, t.xs.length <= zp) (hts : WO w At ts) (hp : PX w p) :
  Calls Tryz.prog 46 #[.slice At ts.length nt, p.val] w fun en w' => WL w w' en (zn (zg ts) p) := by
 have Hts := hh_ hts; have HP := hh_ hp; have HL := hh_ hl; have hlt' : ts.length <= 140737488355328 := hlt; have tl : (zg ts).length = ts.length := by simp
 obtain ⟨R, hR⟩ : ∃ R, zn (zg ts) p = R := ⟨_, rfl⟩
 rw [hR]; have fin : R = if 8 < ts.length then ([], 5) else if Yz (zg ts) ≠ 0 then ([], Yz (zg ts)) else if (zU (zg ts) p 1 0).2.1 ≠ 0 then ([], (zU (zg ts) p 1 0).2.1) else ((zU (zg ts) p 1 0).1, 0) := by rw [<- hR]; unfold zn; rw [tl]
 have Fin := hh_ fin; clear hts hp hR hl hlt fin tl; unfold PL.val; go_enter Tryz.func46, Tryz.ntmps46
 by_cases h8 : 8 < ts.length
 ·have d8 : decide ((8 : Int) < (ts.length : Int)) = true := decide_eq_true uX_; have e : R = ([], 5) := by rw [Fin.out, if_pos h8]
  subst e; go_wp2; refine qX_ o3_ rfl ?_; exact WL.bad ze
 ·have d8 : decide ((8 : Int) < (ts.length : Int)) = false := decide_eq_false uX_; have e := Fin.out; rw [if_neg h8] at e; have Fin2 := hh_ e; clear e Fin; go_wp2; refine zc (fun W => zb W w.heap.size 39 #[.int .i64 p.k, .int .i64 p.n, .int .i64 p.x.kind, .int .i64 p.x.v.k, .int .i64 p.x.v.n, .string p.x.v.s, .int .i64 p.x.col, .slice p.x.A p.x.n p.x.cap, .slice p.xs.A p.xs.l.length p.xs.c, .slice p.ag.A p.ag.l.length p.ag.c, .slice p.A p.m p.cap] /\ za w W) ⟨zb.new _ _ _, ze⟩ ?_; rintro W ⟨Bp, G⟩; have BP := hh_ Bp; clear Bp
  go_loopw [17] (fun i wr => ∃ k : Nat, k <= ts.length /\ i = .int .i64 k /\ Yz (zg ts) = Yz ((zg ts).drop k) /\ wr = W) (fun i _ => ts.length - (intOf i).toNat)
  case atStart => exact wS_
  case round =>
   obtain ⟨k, hk, rfl, htE, rfl⟩ := hrel; rename World => W
   have TE := hh_ htE; clear htE
   by_cases hltk : k < ts.length
   ·obtain ⟨t, htk⟩ : ∃ t, ts[k]? = some t := ⟨_, qQ_ hltk⟩
    obtain ⟨gt, ot, rfl, ct, hit⟩ := (Hts.out.grow G) k t htk; have hat := Ue (ts := zg ts) (k := k) (t := t.xs) (by simp [htk]); have htl : t.xs.length <= 140737488355328 := HL.out t (qZ_ htk); have At := hh_ (TE.out.trans hat); have WZ := hh_ hit; clear htk hat hit TE
    by_cases ht8 : 8 < t.xs.length
    ·have dt : decide ((8 : Int) < (t.xs.length : Int)) = true := decide_eq_true uX_; have e : R = ([], 5) := by rw [Fin2.out, At.out, if_pos ht8]; simp
     subst e; go_wp2; refine qX_ o3_ rfl ?_; exact WL.bad G
    ·have dt : decide ((8 : Int) < (t.xs.length : Int)) = false := decide_eq_false uX_; go_wp2
     go_loopw [26] (fun i wr => ∃ j : Nat, j <= t.xs.length /\ i = .int .i64 j /\ (t.xs.take j).all xR = true /\ wr = W) (fun i _ => t.xs.length - (intOf i).toNat)
     case atStart => exact wS_
     case round =>
      obtain ⟨j, hj, rfl, hall, rfl⟩ := hrel; rename World => W
      have Hall := hh_ hall; clear hall
      by_cases hltj : j < t.xs.length
      ·obtain ⟨y, hyj⟩ : ∃ y, t.xs[j]? = some y := ⟨_, qQ_ hltj⟩
       obtain ⟨gy, oy, eA, cy⟩ := WZ.out j y hyj; have Hyj := hh_ hyj; obtain ⟨tA, txs, tc⟩ := t; simp only at *; subst eA; clear hyj; cases hr : xR y
       ·have e : R = ([], 1) := by rw [Fin2.out, At.out, if_neg ht8, if_pos (jr xR txs j y Hyj.out hr)]; simp
        subst e; rcases W2 hr with d2 | ⟨d2, d3⟩
        ·go_wp2; refine qX_ o3_ rfl ?_; exact WL.bad G
        ·go_wp2; refine qX_ o3_ rfl ?_; exact WL.bad G
       ·exact yX_
      ·exact yV_
   ·obtain rfl : k = ts.length := by omega
    have e0 : Yz (zg ts) = 0 := by rw [TE.out, List.drop_eq_nil_of_le uY_]; rfl
    have h8' := fun t ht => (Zc e0 t ht).1
    have e := Fin2.out; rw [e0, if_neg uY_] at e; obtain ⟨q1, q2, q3, hq⟩ : ∃ q1 q2 q3, zU (zg ts) p 1 0 = (q1, q2, q3) := ⟨_, _, _, rfl⟩
    have hln := Yf h8' p 1 0; have B := BP.out; have ct := fun W' (h1 : za W W') hb => Lf ts At nt h8' uX_ p W.heap.size 1 0 W W' (HP.out.grow G) (Hts.out.grow G) h1 (Nat.le_refl _) hb uX_ uX_ uX_ uX_
    rw [hq] at ct e hln; simp only at ct e hln; unfold PL.val at ct; have Gs := G.size; have CT := hh_ ct; have lB := B.lt; obtain ⟨bp, fp⟩ := B.rules; clear ct hq e0 h8' B TE Fin2
    by_cases h2 : q2 = 0
    ·subst h2; have e : R = (q1, 0) := by rw [e]; simp
     subst e
     go_wp2_with (go_at_call 101; ((refine (CT.out _ ((za.refl _).al _) (zb.new _ _ _)).mono ?_); rintro en w2 ⟨⟨v2, rfl, hv2⟩, hb2, hg2⟩; obtain ⟨B2, cap2, rfl, hi2, hn2⟩ := hv2 rfl; have I2 := hh_ hi2; clear hi2 hn2 hb2; have G2 := GX.base (G.al _) Gs hg2))
     refine qX_ o3_ rfl ?_; exact ⟨B2, cap2, rfl, I2.out, G2⟩
    ·have dq : (q2 != 0) = true := by simpa using h2
     have e : R = ([], q2) := by rw [e, if_pos h2]
     subst e
     go_wp2_with (go_at_call 101; ((refine (CT.out _ ((za.refl _).al _) (zb.new _ _ _)).mono ?_); rintro en w2 ⟨⟨v2, rfl, hv2⟩, hb2, hg2⟩; have G2 := GX.base (G.al _) Gs hg2))
     refine qX_ o3_ rfl ?_; exact WL.bad G2
