/- Parts of a proof. No condition. -/
import Derived.Test.YtflggnopgnoeiaaGreatGAa
import Derived.Test.YtflggnopgnoeiaaGreatGZ
set_option maxRecDepth 100000
set_option maxHeartbeats 4000000
set_option maxRecDepth 100000
set_option linter.unusedSimpArgs false
set_option linter.unusedVariables false
namespace Go
variable {p : Prop}
theorem oN_ (h : p := by simp [results, Tryz.results146, go_sem] <;> rfl) : p := h
end Go
namespace Go.Proofs.YtflggnopgnoeiaaGreat
open Go.RowKit Go.Calm
theorem Ki (cols : List Int) (Ac : Option Addr) (cc : Nat) (xs : List Ag) (A : Option Addr) (c : Nat) (w : World) (hlen : cols.length <= 9223372036854775807) (hl : xs.length <= 8) (hc : yU w Ac cols) (hx : XZ w A xs) :
  Calls Tryz.prog 146 #[.slice Ac cols.length cc, .slice A xs.length c] w fun en w' => ZT (kK cols xs) (xs.map (Xz cols)) w w' en := by
 have Hx := hh_ hx; have Hc := hh_ hc; have Ti := hh_ qV; clear hx hc; obtain ⟨R, hR⟩ : ∃ R, kK cols xs = R := ⟨_, rfl⟩
 rw [hR]; have Re := hh_ hR; clear hR; go_enter Tryz.func146, Tryz.ntmps146; go_wp2
 go_loopw [6, 13] (fun t i wr => ∃ (k : Nat) (ts : List Int), (ts.length = k /\ ts = (xs.take k).map (Xz cols)) /\ k <= xs.length /\ i = .int .i64 k /\ wr.ownsRow w.heap.size 3 1 t k (yH ts) /\ (∀ x ∈ xs.take k, Jk cols x = 0) /\ za w wr) (fun _ i _ => xs.length - (intOf i).toNat)
 case atStart => exact xB_
 case round =>
  obtain ⟨k, ts, ⟨hts, hTs⟩, hk, rfl, hown, hz, hg⟩ := hrel; have Own := hh_ hown; have HTs := hh_ hTs; clear hTs; have Hz := hh_ hz; clear hown hz
  by_cases hlt : k < xs.length
  ·obtain ⟨x, hxk⟩ : ∃ x, xs[k]? = some x := ⟨_, qQ_ hlt⟩
   obtain ⟨gx, ox, rfl, ⟨ck, c0, c1, c2, c3, c4, c5⟩, hex⟩ := (Hx.out.grow hg) k x hxk; obtain ⟨T, F, hTF⟩ : ∃ T F, zD cols x.x = (T, F) := ⟨_, _, rfl⟩
   have ct := fun W (h : za wr W) => ZN cols Ac cc x.x W hlen (Hc.out.grow (hg.trans h)) (hex.grow h)
   rw [hTF] at ct; simp only at ct; have Hxk := hh_ hxk; have bad : ∀ e : Int, e ≠ 0 -> Jk cols x = e -> R = e := fun e h1 h2 => by rw [<- Re.out, Jl cols xs k x Hxk.out Hz.out (by rw [h2]; exact h1), h2]
   have good : Jk cols x = 0 -> ∀ y ∈ xs.take (k + 1), Jk cols y = 0 := fun h y hy => wT_
   have at0 : Jk cols x = if x.k < 1 \/ 5 < x.k then 1 else if x.k = 1 then 0 else if F ≠ 0 then F else if x.k = 3 /\ T ≠ 3 /\ T ≠ 1 then 9 else 0 := by unfold Jk; rw [hTF]
   have aty : Xz cols x = if x.k <= 3 then 3 else T := by unfold Xz; rw [hTF]
   have ATy := hh_ aty; clear aty; have hl2 := Own.out.lt; have HL2 := hh_ hl2; have Bad := hh_ bad; have xP := hh_ good; have At := hh_ at0; clear hxk hex hTF hl2 bad good at0; obtain ⟨ti, hti, hz0, hz1, hz2⟩ := Ti.out; go_upto_region 5 with fail
   refine zc (fun X => zb X wr.heap.size 85 #[.int .i64 x.k, .int .i64 x.x.kind, .int .i64 x.x.v.k, .int .i64 x.x.v.n, .string x.x.v.s, .int .i64 x.x.col, .slice x.x.A x.x.n x.x.cap] /\ za wr X) ⟨zb.new _ _ _, (za.refl wr).al _⟩ ?_; rintro X ⟨Bx, Gx⟩; have BX := hh_ Bx; obtain ⟨bx, fx⟩ := Bx.rules; have Own1 := hh_ (zi Own.out Gx); have G1 := hg.trans Gx; clear ck c0 c1 c2 c3 c4 c5 Bx; unfold E.val at ct
   by_cases ha : x.k < 1
   ·have d1 : decide (x.k < 1) = true := decide_eq_true ha; have e : R = 1 := Bad.out _ uW_ vV_; subst e; go_wp2; refine qX_ oN_ rfl ?_; exact ZT.bad v8_ G1
   ·have d1 : decide (x.k < 1) = false := decide_eq_false ha
    by_cases hb : 5 < x.k
    ·have d2 : decide (5 < x.k) = true := decide_eq_true hb; have e : R = 1 := Bad.out _ uW_ vW_; subst e; go_wp2; refine qX_ oN_ rfl ?_; exact ZT.bad v8_ G1
    ·have d2 : decide (5 < x.k) = false := decide_eq_false hb; have n5 : ¬ (x.k < 1 \/ 5 < x.k) := by omega
     by_cases h1 : x.k = 1
     ·exact yT_
     ·have d3 : (x.k == 1) = false := by simpa using h1
      have d3' : (x.k != 1) = true := by simpa using h1
      by_cases h0 : F = 0
      ·have d0 : (F != 0) = false := by simpa using h0
       subst h0
       by_cases h3 : x.k = 3
       ·have d5 : (x.k == 3) = true := by simpa using h3
        have d4 : decide (4 <= x.k) = false := decide_eq_false uX_; have d2' : (x.k == 2) = false := by simp; omega
        by_cases t3 : T = 3
        ·have e3 : (T != 3) = false := by simpa using t3
         have e1 : (T != 1) = true := by simp; omega
         go_wp2_with (first | (go_at_call 76; ((with_reducible refine (ct _ Gx).mono ?_); rintro e w2 ⟨rfl, hg2⟩; obtain ⟨bx2, fx2⟩ := (BX.out.grow hg2).rules; have Own2 := hh_ (zi Own1.out hg2); have G2 := G1.trans hg2; clear hg2)) | (at_builtin; refine zm rfl _ _ rfl w.heap.size _ _ _ rfl (Own2.out.alloc _) _ [3] rfl (xH (zb.new _ _ _)) uN_ v6_ ?_; intro v7 w7 own7 gr7))
         have hg7 : za w w7 := zy (G2.al _) gr7 (Own2.out.alloc _); have Own7 := hh_ own7; clear own7 gr7; go_wp2; go_roundw
         case rel => exact u3_
         case measure => exact u1_
        ·have e3 : (T != 3) = true := by simpa using t3
         by_cases t1 : T = 1
         ·have e1 : (T != 1) = false := by simpa using t1
          go_wp2_with (first | (go_at_call 76; ((with_reducible refine (ct _ Gx).mono ?_); rintro e w2 ⟨rfl, hg2⟩; obtain ⟨bx2, fx2⟩ := (BX.out.grow hg2).rules; have Own2 := hh_ (zi Own1.out hg2); have G2 := G1.trans hg2; clear hg2)) | (at_builtin; refine zm rfl _ _ rfl w.heap.size _ _ _ rfl (Own2.out.alloc _) _ [3] rfl (xH (zb.new _ _ _)) uN_ v6_ ?_; intro v7 w7 own7 gr7))
          have hg7 : za w w7 := zy (G2.al _) gr7 (Own2.out.alloc _); have Own7 := hh_ own7; clear own7 gr7; go_wp2; go_roundw
          case rel => exact u3_
          case measure => exact u1_
         ·have e1 : (T != 1) = true := by simpa using t1
          have e : R = 9 := Bad.out _ uW_ oc_; subst e
          go_wp2_with (go_at_call 76; ((with_reducible refine (ct _ Gx).mono ?_); rintro e w2 ⟨rfl, hg2⟩; obtain ⟨bx2, fx2⟩ := (BX.out.grow hg2).rules; have Own2 := hh_ (zi Own1.out hg2); have G2 := G1.trans hg2; clear hg2))
          refine qX_ oN_ rfl ?_; exact ZT.bad v8_ G2
       ·have d5 : (x.k == 3) = false := by simpa using h3
        by_cases h2 : x.k = 2
        ·have d4 : decide (4 <= x.k) = false := decide_eq_false uX_; have d2' : (x.k == 2) = true := by simpa using h2
         go_wp2_with (first | (go_at_call 76; ((with_reducible refine (ct _ Gx).mono ?_); rintro e w2 ⟨rfl, hg2⟩; obtain ⟨bx2, fx2⟩ := (BX.out.grow hg2).rules; have Own2 := hh_ (zi Own1.out hg2); have G2 := G1.trans hg2; clear hg2)) | (at_builtin; refine zm rfl _ _ rfl w.heap.size _ _ _ rfl (Own2.out.alloc _) _ [3] rfl (xH (zb.new _ _ _)) uN_ v6_ ?_; intro v7 w7 own7 gr7))
         have hg7 : za w w7 := zy (G2.al _) gr7 (Own2.out.alloc _); have Own7 := hh_ own7; clear own7 gr7; go_wp2; go_roundw
         case rel => exact u3_
         case measure => exact u1_
        ·have d4 : decide (4 <= x.k) = true := decide_eq_true uX_; have d2' : (x.k == 2) = false := by simpa using h2
         go_wp2_with (first | (go_at_call 76; ((with_reducible refine (ct _ Gx).mono ?_); rintro e w2 ⟨rfl, hg2⟩; obtain ⟨bx2, fx2⟩ := (BX.out.grow hg2).rules; have Own2 := hh_ (zi Own1.out hg2); have G2 := G1.trans hg2; clear hg2)) | (at_builtin; refine zm rfl _ _ rfl w.heap.size _ _ _ rfl (Own2.out.alloc _) _ [T] rfl (xH (zb.new _ _ _)) uN_ v6_ ?_; intro v7 w7 own7 gr7))
         have hg7 : za w w7 := zy (G2.al _) gr7 (Own2.out.alloc _); have Own7 := hh_ own7; clear own7 gr7; go_wp2; go_roundw
         case rel => exact wO_
         case measure => exact u1_
      ·have d0 : (F != 0) = true := by simpa using h0
       have e : R = F := Bad.out _ h0 oz_; subst e
       go_wp2_with (go_at_call 76; ((with_reducible refine (ct _ Gx).mono ?_); rintro e w2 ⟨rfl, hg2⟩; obtain ⟨bx2, fx2⟩ := (BX.out.grow hg2).rules; have Own2 := hh_ (zi Own1.out hg2); have G2 := G1.trans hg2; clear hg2))
       refine qX_ oN_ rfl ?_; exact ZT.bad v8_ G2
  ·obtain rfl : k = xs.length := by omega
   have e9 : ts = xs.map (Xz cols) := by have := HTs.out; rwa [List.take_length] at this
   subst e9; obtain ⟨B9, cap9, rfl, hi9, _⟩ := Y5 (ys := xs.map (Xz cols)) (w := wr) Own.out; have Fin9 := hh_ (And.intro hi9 (x8 Own.out)); clear hi9; have e : R = 0 := by rw [<- Re.out, MX cols xs or_]
   subst e; go_wp2; refine qX_ oN_ rfl ?_; exact ⟨B9, cap9, by simp, by simpa using Fin9.out.1, Fin9.out.2, hg⟩
structure Uu (w : World) (gs gb : Nat) (a : Ag) (st : AS) (k : Nat) (t : TypeId) : Prop where
 sum : ∃ ds : List Int, ds.length = 9 /\ zb w gs t (ds.map (Value.int .i64)).toArray /\ zcj ds = st.s /\ BdD (999000000 * (k : Int)) ds
 best : ∃ L : V, zb w gb 33 #[.int .i64 L.k, .int .i64 L.n, .string L.s] /\ (st.known = false -> L = yj) /\ (st.known = true -> (a.k = 4 -> L = st.lo) /\ (a.k = 5 -> L = st.hi))
theorem Uu.grow {w w' : World} {gs gb : Nat} {a : Ag} {st : AS} {k : Nat} {t : TypeId} (h : Uu w gs gb a st k t) (hg : za w w') : Uu w' gs gb a st k t := by
 obtain ⟨⟨ds, h1, h2, h3, h4⟩, ⟨L, h5, h6⟩⟩ := h; exact ⟨⟨ds, h1, h2.grow hg, h3, h4⟩, ⟨L, h5.grow hg, h6⟩⟩
theorem Uu.same {w : World} {gs gb : Nat} {a : Ag} {st st' : AS} {k : Nat} {t : TypeId} (h : Uu w gs gb a st k t) (e1 : st'.s = st.s) (e2 : st'.known = st.known) (e3 : st'.lo = st.lo) (e4 : st'.hi = st.hi) : Uu w gs gb a st' (k + 1) t := by
 obtain ⟨⟨ds, h1, h2, h3, h4⟩, ⟨L, h5, h6⟩⟩ := h; exact ⟨⟨ds, h1, h2, by rw [e1]; exact h3, fun d hd => by have := h4 d hd; omega⟩, ⟨L, h5, by rw [e2, e3, e4]; exact h6⟩⟩
