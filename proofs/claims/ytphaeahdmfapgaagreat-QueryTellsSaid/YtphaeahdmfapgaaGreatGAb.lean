/- Parts of a proof. No condition. -/
import Derived.Test.YtphaeahdmfapgaaGreatGAa
import Derived.Test.YtphaeahdmfapgaaGreatGZ
set_option maxRecDepth 100000
set_option maxHeartbeats 16000000
set_option maxRecDepth 100000
set_option linter.unusedSimpArgs false
set_option linter.unusedVariables false
namespace Go
variable {p : Prop}
theorem ow_ (h : p := by simp [results, Tryz.results110, go_sem, b4, f4] <;> rfl) : p := h
theorem o3_ (h : p := by simp [results, Tryz.results27, go_sem] <;> rfl) : p := h
theorem wy_ (h : p := by
 exact ⟨k + 1, by omega, by go_num, by rw [E3.out], by rw [E3.out], F8.out, C8.out.1, C8.out.2, G8⟩) : p := h
theorem yu_ (h : p := by
 go_wp2; refine qX_ ow_ rfl ?_; exact ⟨rfl, qp hg SZ.out _ _ _⟩) : p := h
end Go
namespace Go.Proofs.YtphaeahdmfapgaaGreat
open Go.RowKit Go.Calm
theorem XT (cols : List Int) (Ac : Option Addr) (cc : Nat) (xs : List Ag) (A : Option Addr) (c : Nat) (w : World) (hlen : cols.length <= 9223372036854775807) (hl : xs.length <= 8) (hc : yD w Ac cols) (hx : qn w A xs) :
  Calls Tryz.prog 27 #[.slice Ac cols.length cc, .slice A xs.length c] w fun en w' => Y7 (jy cols xs) (xs.map (YA cols)) w w' en := by
 have Hx := hh_ hx; have Hc := hh_ hc; have Ti := hh_ x9; clear hx hc; obtain ⟨R, hR⟩ : ∃ R, jy cols xs = R := ⟨_, rfl⟩
 rw [hR]; have Re := hh_ hR; clear hR; go_enter Tryz.func27, Tryz.ntmps27; go_wp2
 go_loopw [6, 13] (fun t i wr => ∃ (k : Nat) (ts : List Int), (ts.length = k /\ ts = (xs.take k).map (YA cols)) /\ k <= xs.length /\ i = .int .i64 k /\ wr.ownsRow w.heap.size 3 1 t k (yw ts) /\ (∀ x ∈ xs.take k, Jj cols x = 0) /\ za w wr) (fun _ i _ => xs.length - (intOf i).toNat)
 case atStart => exact xM_
 case round =>
  obtain ⟨k, ts, ⟨hts, hTs⟩, hk, rfl, hown, hz, hg⟩ := hrel; have Own := hh_ hown; have HTs := hh_ hTs; clear hTs; have Hz := hh_ hz; clear hown hz
  by_cases hlt : k < xs.length
  ·obtain ⟨x, hxk⟩ : ∃ x, xs[k]? = some x := ⟨_, qQ_ hlt⟩
   obtain ⟨gx, ox, rfl, ⟨ck, c0, c1, c2, c3, c4, c5⟩, hex⟩ := (Hx.out.grow hg) k x hxk; obtain ⟨T, F, hTF⟩ : ∃ T F, zP cols x.x = (T, F) := ⟨_, _, rfl⟩
   have ct := fun W (h : za wr W) => YZ cols Ac cc x.x W hlen (Hc.out.grow (hg.trans h)) (hex.grow h)
   rw [hTF] at ct; simp only at ct; have Hxk := hh_ hxk; have bad : ∀ e : Int, e ≠ 0 -> Jj cols x = e -> R = e := fun e h1 h2 => by rw [<- Re.out, Q4 cols xs k x Hxk.out Hz.out (by rw [h2]; exact h1), h2]
   have good : Jj cols x = 0 -> ∀ y ∈ xs.take (k + 1), Jj cols y = 0 := fun h y hy => xa_
   have at0 : Jj cols x = if x.k < 1 \/ 5 < x.k then 1 else if x.k = 1 then 0 else if F ≠ 0 then F else if x.k = 3 /\ T ≠ 3 /\ T ≠ 1 then 9 else 0 := by unfold Jj; rw [hTF]
   have aty : YA cols x = if x.k <= 3 then 3 else T := by unfold YA; rw [hTF]
   have ATy := hh_ aty; clear aty; have hl2 := Own.out.lt; have HL2 := hh_ hl2; have Bad := hh_ bad; have xA := hh_ good; have At := hh_ at0; clear hxk hex hTF hl2 bad good at0; obtain ⟨ti, hti, hz0, hz1, hz2⟩ := Ti.out; go_upto_region 5 with fail
   refine zb (fun X => zc X wr.heap.size 75 #[.int .i64 x.k, .int .i64 x.x.kind, .int .i64 x.x.v.k, .int .i64 x.x.v.n, .string x.x.v.s, .int .i64 x.x.col, .slice x.x.A x.x.n x.x.cap] /\ za wr X) ⟨zc.new _ _ _, (za.refl wr).al _⟩ ?_; rintro X ⟨Bx, Gx⟩; have BX := hh_ Bx; obtain ⟨bx, fx⟩ := Bx.rules; have Own1 := hh_ (zh Own.out Gx); have G1 := hg.trans Gx; clear ck c0 c1 c2 c3 c4 c5 Bx; unfold E.val at ct
   by_cases ha : x.k < 1
   ·have d1 : decide (x.k < 1) = true := decide_eq_true ha; have e : R = 1 := Bad.out _ u3_ v4_; subst e; go_wp2; refine qX_ o3_ rfl ?_; exact Y7.bad uk_ G1
   ·have d1 : decide (x.k < 1) = false := decide_eq_false ha
    by_cases hb : 5 < x.k
    ·have d2 : decide (5 < x.k) = true := decide_eq_true hb; have e : R = 1 := Bad.out _ u3_ v5_; subst e; go_wp2; refine qX_ o3_ rfl ?_; exact Y7.bad uk_ G1
    ·have d2 : decide (5 < x.k) = false := decide_eq_false hb; have n5 : ¬ (x.k < 1 \/ 5 < x.k) := by omega
     by_cases h1 : x.k = 1
     ·exact yV_
     ·have d3 : (x.k == 1) = false := by simpa using h1
      have d3' : (x.k != 1) = true := by simpa using h1
      by_cases h0 : F = 0
      ·have d0 : (F != 0) = false := by simpa using h0
       subst h0
       by_cases h3 : x.k = 3
       ·have d5 : (x.k == 3) = true := by simpa using h3
        have d4 : decide (4 <= x.k) = false := decide_eq_false u4_; have d2' : (x.k == 2) = false := by simp; omega
        by_cases t3 : T = 3
        ·have e3 : (T != 3) = false := by simpa using t3
         have e1 : (T != 1) = true := by simp; omega
         go_wp2_with (first | (go_at_call 37; ((with_reducible refine (ct _ Gx).mono ?_); rintro e w2 ⟨rfl, hg2⟩; obtain ⟨bx2, fx2⟩ := (BX.out.grow hg2).rules; have Own2 := hh_ (zh Own1.out hg2); have G2 := G1.trans hg2; clear hg2)) | (at_builtin; refine zq rfl _ _ rfl w.heap.size _ _ _ rfl (Own2.out.alloc _) _ [3] rfl (xw (zc.new _ _ _)) uV_ uj_ ?_; intro v7 w7 own7 gr7))
         have hg7 : za w w7 := zp (G2.al _) gr7 (Own2.out.alloc _); have Own7 := hh_ own7; clear own7 gr7; go_wp2; go_roundw
         case rel => exact wc_
         case measure => exact wa_
        ·have e3 : (T != 3) = true := by simpa using t3
         by_cases t1 : T = 1
         ·have e1 : (T != 1) = false := by simpa using t1
          go_wp2_with (first | (go_at_call 37; ((with_reducible refine (ct _ Gx).mono ?_); rintro e w2 ⟨rfl, hg2⟩; obtain ⟨bx2, fx2⟩ := (BX.out.grow hg2).rules; have Own2 := hh_ (zh Own1.out hg2); have G2 := G1.trans hg2; clear hg2)) | (at_builtin; refine zq rfl _ _ rfl w.heap.size _ _ _ rfl (Own2.out.alloc _) _ [3] rfl (xw (zc.new _ _ _)) uV_ uj_ ?_; intro v7 w7 own7 gr7))
          have hg7 : za w w7 := zp (G2.al _) gr7 (Own2.out.alloc _); have Own7 := hh_ own7; clear own7 gr7; go_wp2; go_roundw
          case rel => exact wc_
          case measure => exact wa_
         ·have e1 : (T != 1) = true := by simpa using t1
          have e : R = 9 := Bad.out _ u3_ ob_; subst e
          go_wp2_with (go_at_call 37; ((with_reducible refine (ct _ Gx).mono ?_); rintro e w2 ⟨rfl, hg2⟩; obtain ⟨bx2, fx2⟩ := (BX.out.grow hg2).rules; have Own2 := hh_ (zh Own1.out hg2); have G2 := G1.trans hg2; clear hg2))
          refine qX_ o3_ rfl ?_; exact Y7.bad uk_ G2
       ·have d5 : (x.k == 3) = false := by simpa using h3
        by_cases h2 : x.k = 2
        ·have d4 : decide (4 <= x.k) = false := decide_eq_false u4_; have d2' : (x.k == 2) = true := by simpa using h2
         go_wp2_with (first | (go_at_call 37; ((with_reducible refine (ct _ Gx).mono ?_); rintro e w2 ⟨rfl, hg2⟩; obtain ⟨bx2, fx2⟩ := (BX.out.grow hg2).rules; have Own2 := hh_ (zh Own1.out hg2); have G2 := G1.trans hg2; clear hg2)) | (at_builtin; refine zq rfl _ _ rfl w.heap.size _ _ _ rfl (Own2.out.alloc _) _ [3] rfl (xw (zc.new _ _ _)) uV_ uj_ ?_; intro v7 w7 own7 gr7))
         have hg7 : za w w7 := zp (G2.al _) gr7 (Own2.out.alloc _); have Own7 := hh_ own7; clear own7 gr7; go_wp2; go_roundw
         case rel => exact wc_
         case measure => exact wa_
        ·have d4 : decide (4 <= x.k) = true := decide_eq_true u4_; have d2' : (x.k == 2) = false := by simpa using h2
         go_wp2_with (first | (go_at_call 37; ((with_reducible refine (ct _ Gx).mono ?_); rintro e w2 ⟨rfl, hg2⟩; obtain ⟨bx2, fx2⟩ := (BX.out.grow hg2).rules; have Own2 := hh_ (zh Own1.out hg2); have G2 := G1.trans hg2; clear hg2)) | (at_builtin; refine zq rfl _ _ rfl w.heap.size _ _ _ rfl (Own2.out.alloc _) _ [T] rfl (xw (zc.new _ _ _)) uV_ uj_ ?_; intro v7 w7 own7 gr7))
         have hg7 : za w w7 := zp (G2.al _) gr7 (Own2.out.alloc _); have Own7 := hh_ own7; clear own7 gr7; go_wp2; go_roundw
         case rel => exact w5_
         case measure => exact wa_
      ·have d0 : (F != 0) = true := by simpa using h0
       have e : R = F := Bad.out _ h0 oE_; subst e
       go_wp2_with (go_at_call 37; ((with_reducible refine (ct _ Gx).mono ?_); rintro e w2 ⟨rfl, hg2⟩; obtain ⟨bx2, fx2⟩ := (BX.out.grow hg2).rules; have Own2 := hh_ (zh Own1.out hg2); have G2 := G1.trans hg2; clear hg2))
       refine qX_ o3_ rfl ?_; exact Y7.bad uk_ G2
  ·obtain rfl : k = xs.length := by omega
   have e9 : ts = xs.map (YA cols) := by have := HTs.out; rwa [List.take_length] at this
   subst e9; obtain ⟨B9, cap9, rfl, hi9, _⟩ := Yq (ys := xs.map (YA cols)) (w := wr) Own.out; have Fin9 := hh_ (And.intro hi9 (xO Own.out)); clear hi9; have e : R = 0 := by rw [<- Re.out, KU cols xs oq_]
   subst e; go_wp2; refine qX_ o3_ rfl ?_; exact ⟨B9, cap9, by simp, by simpa using Fin9.out.1, Fin9.out.2, hg⟩
theorem Js (cols : List Int) (Ac : Option Addr) (cc : Nat) (xs : List Ag) (A : Option Addr) (c : Nat) (w : World) (hlen : cols.length <= 9223372036854775807) (hl : xs.length <= 8) (hc : yD w Ac cols) (hx : qn w A xs) :
  Calls Tryz.prog 27 #[.slice Ac cols.length cc, .slice A xs.length c] w fun en w' => ∃ v : Value, en = .returned (.tuple #[v, .int .i64 (jy cols xs)]) /\ za w w' := (XT cols Ac cc xs A c w hlen hl hc hx).mono fun e w' ⟨B, cap, h1, _, _, h2⟩ => ⟨_, h1, h2⟩
structure ZL (w : World) (gs gb : Nat) (a : Ag) (st : AS) (k : Nat) (t : TypeId) : Prop where
 sum : ∃ ds : List Int, ds.length = 9 /\ zc w gs t (ds.map (Value.int .i64)).toArray /\ xQ ds = st.s /\ TM (999000000 * (k : Int)) ds
 best : ∃ L : V, zc w gb 24 #[.int .i64 L.k, .int .i64 L.n, .string L.s] /\ (st.known = false -> L = zR) /\ (st.known = true -> (a.k = 4 -> L = st.lo) /\ (a.k = 5 -> L = st.hi))
theorem ZL.grow {w w' : World} {gs gb : Nat} {a : Ag} {st : AS} {k : Nat} {t : TypeId} (h : ZL w gs gb a st k t) (hg : za w w') : ZL w' gs gb a st k t := by
 obtain ⟨⟨ds, h1, h2, h3, h4⟩, ⟨L, h5, h6⟩⟩ := h; exact ⟨⟨ds, h1, h2.grow hg, h3, h4⟩, ⟨L, h5.grow hg, h6⟩⟩
theorem ZL.same {w : World} {gs gb : Nat} {a : Ag} {st st' : AS} {k : Nat} {t : TypeId} (h : ZL w gs gb a st k t) (e1 : st'.s = st.s) (e2 : st'.known = st.known) (e3 : st'.lo = st.lo) (e4 : st'.hi = st.hi) : ZL w gs gb a st' (k + 1) t := by
 obtain ⟨⟨ds, h1, h2, h3, h4⟩, ⟨L, h5, h6⟩⟩ := h; exact ⟨⟨ds, h1, h2, by rw [e1]; exact h3, fun d hd => by have := h4 d hd; omega⟩, ⟨L, h5, by rw [e2, e3, e4]; exact h6⟩⟩
theorem Vi (cols : List Int) (a : Ag) (xs : List I) (B : Option Addr) (cap : Nat) (w : World) (hx : EX w a.x) (hz : xc w B xs) (ho : Fj a xs) (hf : ∀ x ∈ xs, ja cols x.row) (hwt : a.k ≠ 1 -> ∃ T, wt cols a.x T) :
  Calls Tryz.prog 110 #[a.val, .slice B xs.length cap] w fun en w' => en = .returned (ko a (xs.map zg)).val /\ za w w' := by
 have HX := hh_ hx; have HZ := hh_ hz; have HO := hh_ ho; have HF := hh_ hf; have HW := hh_ hwt; have hlen := ho.len; obtain ⟨k1, k5⟩ := ho.k; obtain ⟨R, hR⟩ : ∃ R, ko a (xs.map zg) = R := ⟨_, rfl⟩
 rw [hR]; have HR := hh_ hR; clear hx hz ho hR hf hwt; go_enter Tryz.func110, Tryz.ntmps110; go_upto_region 3 with fail
 refine zb (fun X => zc X w.heap.size 75 #[.int .i64 a.k, .int .i64 a.x.kind, .int .i64 a.x.v.k, .int .i64 a.x.v.n, .string a.x.v.s, .int .i64 a.x.col, .slice a.x.A a.x.n a.x.cap] /\ zc X (w.heap.size + 1) 24 #[.int .i64 0, .int .i64 0, .string ⟨#[]⟩] /\ zc X (w.heap.size + 1 + 1) 158 #[.int .i64 0, .int .i64 0, .int .i64 0, .int .i64 0, .int .i64 0, .int .i64 0, .int .i64 0, .int .i64 0, .int .i64 0] /\ za w X) ⟨((zc.new _ _ _).al _).al _, (zc.new' _ _ _ u5_).al _, zc.new' _ _ _ u5_, zd⟩ ?_; have hh : w.heap.size < w.heap.size + 1 /\ w.heap.size + 1 < w.heap.size + 1 + 1 := by omega
 generalize w.heap.size + 1 + 1 = g6 at *; generalize w.heap.size + 1 = g4 at *; generalize hg2 : w.heap.size = g2 at *; rintro X ⟨B2, B4, B6, G⟩; have BX := hh_ (And.intro B2 (And.intro B4 B6)); have HG := hh_ (And.intro hg2 hh); have n64 : g6 ≠ g4 := by omega
 clear B2 B4 B6 hg2 hh; go_upto_region 4 with (go_at_call 106; ((with_reducible refine (yt _).mono ?_); rintro e X1 ⟨rfl, hg1⟩)); refine zb (fun W => zc W X1.heap.size 24 #[.int .i64 1, .int .i64 0, .string es] /\ za X1 W) ⟨zc.new _ _ _, (za.refl X1).al _⟩ ?_; have hl7 : g6 < X1.heap.size := (BX.out.2.2.grow hg1).lt; generalize X1.heap.size = g7 at *; rintro X2 ⟨B7, G2⟩; have HL7 := hh_ hl7; have B7 := hh_ B7; have GX2 := hg1.trans G2; have G := G.trans GX2; clear hl7 hg1 G2; go_wp2
 go_loopw [5, 8, 16] (fun n kn i wr => ∃ k : Nat, k <= xs.length /\ i = .int .i64 k /\ n = .int .i64 (yE a ((xs.take k).map zg)).n /\ kn = .bool (yE a ((xs.take k).map zg)).known /\ ZL wr g6 g7 a (yE a ((xs.take k).map zg)) k 158 /\ zc wr g2 75 #[.int .i64 a.k, .int .i64 a.x.kind, .int .i64 a.x.v.k, .int .i64 a.x.v.n, .string a.x.v.s, .int .i64 a.x.col, .slice a.x.A a.x.n a.x.cap] /\ zc wr g4 24 #[.int .i64 0, .int .i64 0, .string ⟨#[]⟩] /\ za w wr) (fun _ _ i _ => xs.length - (intOf i).toNat)
 case atStart =>
  obtain ⟨b2, b4, b6⟩ := BX.out; exact ⟨0, Nat.zero_le _, rfl, rfl, rfl, ⟨⟨[0, 0, 0, 0, 0, 0, 0, 0, 0], rfl, b6.grow GX2, rfl, fun d hd => by simp at hd; omega⟩, ⟨⟨1, 0, es⟩, B7.out, fun _ => rfl, fun h => by simp [yE, Ft] at h⟩⟩, b2.grow GX2, b4.grow GX2, G⟩
 case round =>
  obtain ⟨k, hk, rfl, rfl, rfl, hst, hb2, hb4, hg⟩ := hrel; have St := hh_ hst; have B24 := hh_ (And.intro hb2 hb4); have ok := HO.out.ok k; obtain ⟨⟨n1, n2⟩, rlo, rhi, hkn⟩ := Q5 a _ ok; have lk : ((xs.take k).map zg).length = k := by simp; omega
  rw [lk] at n1 n2; clear hst ok lk rlo rhi hkn
  by_cases hlt : k < xs.length
  ·obtain ⟨x, hxk⟩ : ∃ x, xs[k]? = some x := ⟨_, qQ_ hlt⟩
   obtain ⟨gx, ox, rfl, c1, c2, hxv⟩ := (HZ.out.grow hg) k x hxk; have hm := qZ_ hxk; have hw := HO.out.w x hm; have e1 := Nr hxk; obtain ⟨st, hst⟩ : ∃ st, yE a ((xs.take k).map zg) = st := ⟨_, rfl⟩
   have es1 : yE a ((xs.take (k + 1)).map zg) = qH a st (zg x) := by rw [e1, Yg, hst]
   have ES := hh_ es1; rw [hst] at St n1 n2 ⊢; clear e1 es1 hst hxk; go_upto_region 8 with fail
   refine zb (fun Z => zc Z wr.heap.size 59 #[.slice x.A x.row.length x.cap, .int .i64 x.w] /\ za wr Z) ⟨zc.new _ _ _, (za.refl wr).al _⟩ ?_
   have hn11 : wr.heap.size ≠ g6 /\ wr.heap.size ≠ g7 /\ wr.heap.size ≠ g2 /\ wr.heap.size ≠ g4 := by
    obtain ⟨⟨_, _, q6, _⟩, ⟨_, q7, _⟩⟩ := St.out; have := q6.lt; have := q7.lt; have := B24.out.1.lt; have := B24.out.2.lt; omega
   generalize wr.heap.size = g11 at *; rintro Z ⟨Bz, Gz⟩; have N11 := hh_ hn11; have BZ := hh_ Bz; obtain ⟨bz, fz⟩ := Bz.rules; obtain ⟨b2, f2⟩ := (hb2.grow Gz).rules; have wn : IntKind.i64.wrap (st.n + x.w) = st.n + x.w := by rw [IntKind.wrap_i64]; omega
   clear c1 c2 Bz hn11 hb2 hb4
   by_cases h1 : a.k = 1
   ·have d1 : (a.k == 1) = true := by simpa using h1
    have es2 : qH a st (zg x) = { st with n := st.n + x.w } := by unfold qH; rw [if_pos h1]; rfl
    have ES2 := hh_ (ES.out.trans es2); clear es2; go_wp2; go_roundw
    case rel => exact ⟨k + 1, by omega, by go_num, by rw [ES2.out], by rw [ES2.out], os_, B24.out.1.grow Gz, B24.out.2.grow Gz, hg.trans Gz⟩
    case measure => exact wa_
   ·have d1 : (a.k == 1) = false := by simpa using h1
    have hre := HO.out.re h1 x hm; have hrv := HO.out.rv x hm; have hrl := HO.out.rl x hm; obtain ⟨T, hT⟩ := HW.out h1; have vr := XW x.row hrv a.x hre; have vb := UZ vr (kK x.row a.x); have co := fun W (h : za wr W) => LB cols x.row x.A x.cap u4_ (HF.out x hm) a.x hT wr W (HX.out.grow hg) hxv h
    have es2 : qH a st (zg x) = if (yd x.row a.x).k = 1 then st else ⟨st.n + x.w, st.s + x.w * (yd x.row a.x).n, true, if st.known = false \/ zH (yd x.row a.x) st.lo < 0 then yd x.row a.x else st.lo, if st.known = false \/ 0 < zH (yd x.row a.x) st.hi then yd x.row a.x else st.hi⟩ := by unfold qH; rw [if_neg h1]; rfl
    have ES2 := hh_ (ES.out.trans es2); obtain ⟨v, hv⟩ : ∃ v, yd x.row a.x = v := ⟨_, rfl⟩
    rw [hv] at vr vb co ES2; have VR := hh_ vr; unfold V.val Go.Proofs.YtphaeahdmfapgaaGreat.E.val at co; clear es2 hre hrv hv vr hxv hT; go_upto_region 11 with (go_at_call 142; ((with_reducible refine (co _ Gz).mono ?_); rintro e X2 ⟨rfl, hgo⟩)); refine zb (fun W => zc W X2.heap.size 24 #[.int .i64 v.k, .int .i64 v.n, .string v.s] /\ za Z W) ⟨zc.new _ _ _, hgo.al _⟩ ?_; have hg12 : Z.heap.size <= X2.heap.size := hgo.size; generalize X2.heap.size = g12 at *; clear hgo; rintro X3 ⟨B12, G3⟩; have B12 := hh_ B12; obtain ⟨b12, f12⟩ := B12.out.rules; clear bz fz b2 f2 co
    by_cases hk1 : v.k = 1
    ·have d2 : (v.k == 1) = true := by simpa using hk1
     have e3 : yE a ((xs.take (k + 1)).map zg) = st := by rw [ES2.out, if_pos hk1]
     have E3 := hh_ e3; clear e3; go_wp2; go_roundw
     case rel => exact ⟨k + 1, by omega, by go_num, by rw [E3.out], by rw [E3.out], of_, B24.out.1.grow (Gz.trans G3), B24.out.2.grow (Gz.trans G3), hg.trans (Gz.trans G3)⟩
     case measure => exact wa_
    ·have d2 : (v.k == 1) = false := by simpa using hk1
     obtain ⟨⟨ds, l9, B6, e6, bd⟩, ⟨L, Bb, eb⟩⟩ := St.out.grow (Gz.trans G3); have EB := hh_ eb; clear eb; have BZ3 := BZ.out.grow G3; have B23 := B24.out.1.grow (Gz.trans G3); have B43 := B24.out.2.grow (Gz.trans G3)
     obtain ⟨l2, l4, l6, l7, l11⟩ : g2 < Z.heap.size /\ g4 < Z.heap.size /\ g6 < Z.heap.size /\ g7 < Z.heap.size /\ g11 < Z.heap.size := by
      obtain ⟨⟨_, _, q6, _⟩, ⟨_, q7, _⟩⟩ := St.out.grow Gz; exact ⟨(B24.out.1.grow Gz).lt, (B24.out.2.grow Gz).lt, q6.lt, q7.lt, BZ.out.lt⟩
     have o11 := N11.out; obtain ⟨m24, m46⟩ := HG.out.2; have m67 := HL7.out; have ct := VT ds v.n x.w (999000000 * (k : Int)) g6 X3 l9 B6 u4_ bd vb hw; have bd2 := Rs (ds := ds) (n := v.n) (t := x.w) (K := 999000000 * (k : Int)) u4_ bd hw 9; have sm := Na ds v.n x.w 9 u4_; rw [(UA v.n vb).2, Int.zero_mul, Int.mul_zero, Int.add_zero, e6] at sm; have l92 := Zo ds v.n x.w 9; obtain ⟨dt, hdt⟩ : ∃ dt, XS ds v.n x.w 9 = dt := ⟨_, rfl⟩
     rw [hdt] at ct bd2 sm l92; have bd3 : TM (999000000 * ((k + 1 : Nat) : Int)) dt := fun d hd => by have := bd2 d hd; omega
     have S6 := hh_ (And.intro (l92.trans l9) (And.intro sm bd3)); clear hdt bd2 sm l92 bd3 e6 bd; obtain ⟨bz3, fz3⟩ := BZ3.rules; go_upto_region 14 with (go_at_call 143; ((with_reducible refine ct.mono ?_); rintro e X4 ⟨rfl, B64, gx4⟩)); have G4 : za w X4 := GX.base ((hg.trans Gz).trans G3) (by have := HG.out.1; omega) gx4; have C := hh_ (show zc X4 g6 158 (dt.map (Value.int .i64)).toArray /\ zc X4 g2 75 #[.int .i64 a.k, .int .i64 a.x.kind, .int .i64 a.x.v.k, .int .i64 a.x.v.n, .string a.x.v.s, .int .i64 a.x.col, .slice a.x.A a.x.n a.x.cap] /\ zc X4 g4 24 #[.int .i64 0, .int .i64 0, .string ⟨#[]⟩] from ⟨B64, gx4.blk u4_ B23, gx4.blk u4_ B43⟩); have D := hh_ (show zc X4 g12 24 #[.int .i64 v.k, .int .i64 v.n, .string v.s] /\ zc X4 g7 24 #[.int .i64 L.k, .int .i64 L.n, .string L.s] from ⟨gx4.blk u4_ B12.out, gx4.blk u4_ Bb⟩); have o7 : g12 ≠ g7 := by omega
     have o4 : g4 ≠ g7 := by omega
     have o2 : g2 ≠ g7 := by omega
     have o6 : g6 ≠ g7 := by omega
     have SZ := hh_ (show w.heap.size <= g7 by have := HG.out.1; omega); clear gx4 B64 B6 Bb BZ3 B43 B23 ct bz3 fz3 b12 f12 l2 l4 l6 l7 l11 o11 m24 m46 m67; obtain ⟨⟨b12, f12⟩, ⟨b7, f7⟩⟩ := And.intro D.out.1.rules D.out.2.rules; have cv := fun W => kO v L W
     unfold V.val at cv; obtain ⟨r, hr⟩ : ∃ r, zH v L = r := ⟨_, rfl⟩
     rw [hr] at cv; have Hr := hh_ hr; clear hr; go_upto_region 15 with (go_at_call 139; (with_reducible refine (cv _).mono ?_); rintro e X5 ⟨rfl, hg5⟩); have G5 := G4.trans hg5; have C := hh_ (show zc X5 g6 158 (dt.map (Value.int .i64)).toArray /\ zc X5 g2 75 #[.int .i64 a.k, .int .i64 a.x.kind, .int .i64 a.x.v.k, .int .i64 a.x.v.n, .string a.x.v.s, .int .i64 a.x.col, .slice a.x.A a.x.n a.x.cap] /\ zc X5 g4 24 #[.int .i64 0, .int .i64 0, .string ⟨#[]⟩] from ⟨C.out.1.grow hg5, C.out.2.1.grow hg5, C.out.2.2.grow hg5⟩); have D := hh_ (show zc X5 g12 24 #[.int .i64 v.k, .int .i64 v.n, .string v.s] /\ zc X5 g7 24 #[.int .i64 L.k, .int .i64 L.n, .string L.s] from ⟨D.out.1.grow hg5, D.out.2.grow hg5⟩); clear hg5 b12 f12 b7 f7 cv G4; obtain ⟨⟨b12, f12⟩, ⟨b7, f7⟩, ⟨b2, f2⟩⟩ := And.intro D.out.1.rules (And.intro D.out.2.rules C.out.2.1.rules); cases hkn : st.known with
     | false =>
      have e3 : ∃ lo hi, yE a ((xs.take (k + 1)).map zg) = ⟨st.n + x.w, st.s + x.w * v.n, true, lo, hi⟩ /\ (a.k = 4 -> v = lo) /\ (a.k = 5 -> v = hi) := ⟨_, _, by rw [ES2.out, if_neg hk1], fun _ => by rw [if_pos (.inl hkn)], fun _ => by rw [if_pos (.inl hkn)]⟩
      obtain ⟨lo, hi, e3, e4⟩ := e3; have E3 := hh_ e3; have E4 := hh_ e4; clear e3 e4; go_upto_region 17 with fail
      refine zb (fun W => (zc W g6 158 (dt.map (Value.int .i64)).toArray /\ zc W g2 75 #[.int .i64 a.k, .int .i64 a.x.kind, .int .i64 a.x.v.k, .int .i64 a.x.v.n, .string a.x.v.s, .int .i64 a.x.col, .slice a.x.A a.x.n a.x.cap] /\ zc W g4 24 #[.int .i64 0, .int .i64 0, .string ⟨#[]⟩]) /\ zc W g7 24 #[.int .i64 v.k, .int .i64 v.n, .string v.s] /\ za w W) ⟨⟨xd C.out.1 o6 _ _ _, xd C.out.2.1 o2 _ _ _, xd C.out.2.2 o4 _ _ _⟩, YD D.out.2 _ _ _, qp G5 SZ.out _ _ _⟩ ?_; clear b12 f12 b7 f7 b2 f2; rintro X8 ⟨⟨c86, c82, c84⟩, d87, G8⟩; have F8 := hh_ (show ZL X8 g6 g7 a (yE a ((xs.take (k + 1)).map zg)) (k + 1) 158 by rw [E3.out]; exact ⟨⟨dt, S6.out.1, c86, S6.out.2.1, S6.out.2.2⟩, ⟨v, d87, fun h => by simp at h, fun _ => E4.out⟩⟩); have C8 := hh_ (And.intro c82 c84); clear c86 c82 c84 d87; go_wp2; go_roundw
      case rel => exact wy_
      case measure => exact wa_
     | true =>
      have n0 : ∀ P : Prop, (st.known = false \/ P) ↔ P := fun P => by rw [hkn]; simp
      have NN := hh_ n0; have EB2 := hh_ (EB.out.2 hkn); clear n0
      by_cases h4 : a.k = 4
      ·have d4 : (a.k == 4) = true := by simpa using h4
       have d5 : (a.k == 5) = false := by simp; omega
       by_cases w1 : r < 0
       ·have d6 : decide (r < 0) = true := decide_eq_true w1; have e3 : ∃ lo hi, yE a ((xs.take (k + 1)).map zg) = ⟨st.n + x.w, st.s + x.w * v.n, true, lo, hi⟩ /\ (a.k = 4 -> v = lo) /\ (a.k = 5 -> v = hi) := ⟨_, _, by rw [ES2.out, if_neg hk1], fun _ => by rw [if_pos ((NN.out _).2 (by rw [<- EB2.out.1 h4, Hr.out]; exact w1))], fun h => by omega⟩
        obtain ⟨lo, hi, e3, e4⟩ := e3; have E3 := hh_ e3; have E4 := hh_ e4; clear e3 e4; go_upto_region 17 with fail
        refine zb (fun W => (zc W g6 158 (dt.map (Value.int .i64)).toArray /\ zc W g2 75 #[.int .i64 a.k, .int .i64 a.x.kind, .int .i64 a.x.v.k, .int .i64 a.x.v.n, .string a.x.v.s, .int .i64 a.x.col, .slice a.x.A a.x.n a.x.cap] /\ zc W g4 24 #[.int .i64 0, .int .i64 0, .string ⟨#[]⟩]) /\ zc W g7 24 #[.int .i64 v.k, .int .i64 v.n, .string v.s] /\ za w W) ⟨⟨xd C.out.1 o6 _ _ _, xd C.out.2.1 o2 _ _ _, xd C.out.2.2 o4 _ _ _⟩, YD D.out.2 _ _ _, qp G5 SZ.out _ _ _⟩ ?_; clear b12 f12 b7 f7 b2 f2; rintro X8 ⟨⟨c86, c82, c84⟩, d87, G8⟩; have F8 := hh_ (show ZL X8 g6 g7 a (yE a ((xs.take (k + 1)).map zg)) (k + 1) 158 by rw [E3.out]; exact ⟨⟨dt, S6.out.1, c86, S6.out.2.1, S6.out.2.2⟩, ⟨v, d87, fun h => by simp at h, fun _ => E4.out⟩⟩); have C8 := hh_ (And.intro c82 c84); clear c86 c82 c84 d87; go_wp2; go_roundw
        case rel => exact wy_
        case measure => exact wa_
       ·have d6 : decide (r < 0) = false := decide_eq_false w1; have e3 : ∃ lo hi, yE a ((xs.take (k + 1)).map zg) = ⟨st.n + x.w, st.s + x.w * v.n, true, lo, hi⟩ /\ (a.k = 4 -> L = lo) /\ (a.k = 5 -> L = hi) := ⟨_, _, by rw [ES2.out, if_neg hk1], fun _ => by rw [if_neg (fun h => w1 (by have := (NN.out _).1 h; rw [<- EB2.out.1 h4, Hr.out] at this; exact this))]; exact EB2.out.1 h4, fun h => by omega⟩
        obtain ⟨lo, hi, e3, e4⟩ := e3; have E3 := hh_ e3; have E4 := hh_ e4; clear e3 e4; go_upto_region 17 with fail
        refine zb (fun W => (zc W g6 158 (dt.map (Value.int .i64)).toArray /\ zc W g2 75 #[.int .i64 a.k, .int .i64 a.x.kind, .int .i64 a.x.v.k, .int .i64 a.x.v.n, .string a.x.v.s, .int .i64 a.x.col, .slice a.x.A a.x.n a.x.cap] /\ zc W g4 24 #[.int .i64 0, .int .i64 0, .string ⟨#[]⟩]) /\ zc W g7 24 #[.int .i64 L.k, .int .i64 L.n, .string L.s] /\ za w W) ⟨C.out, D.out.2, G5⟩ ?_; clear b12 f12 b7 f7 b2 f2; rintro X8 ⟨⟨c86, c82, c84⟩, d87, G8⟩; have F8 := hh_ (show ZL X8 g6 g7 a (yE a ((xs.take (k + 1)).map zg)) (k + 1) 158 by rw [E3.out]; exact ⟨⟨dt, S6.out.1, c86, S6.out.2.1, S6.out.2.2⟩, ⟨L, d87, fun h => by simp at h, fun _ => E4.out⟩⟩); have C8 := hh_ (And.intro c82 c84); clear c86 c82 c84 d87; go_wp2; go_roundw
        case rel => exact wy_
        case measure => exact wa_
      ·have d4 : (a.k == 4) = false := by simpa using h4
       by_cases h5 : a.k = 5
       ·have d5 : (a.k == 5) = true := by simpa using h5
        by_cases w1 : 0 < r
        ·have d6 : decide (0 < r) = true := decide_eq_true w1; have e3 : ∃ lo hi, yE a ((xs.take (k + 1)).map zg) = ⟨st.n + x.w, st.s + x.w * v.n, true, lo, hi⟩ /\ (a.k = 4 -> v = lo) /\ (a.k = 5 -> v = hi) := ⟨_, _, by rw [ES2.out, if_neg hk1], fun h => by omega, fun _ => by rw [if_pos ((NN.out _).2 (by rw [<- EB2.out.2 h5, Hr.out]; exact w1))]⟩
         obtain ⟨lo, hi, e3, e4⟩ := e3; have E3 := hh_ e3; have E4 := hh_ e4; clear e3 e4; go_upto_region 17 with fail
         refine zb (fun W => (zc W g6 158 (dt.map (Value.int .i64)).toArray /\ zc W g2 75 #[.int .i64 a.k, .int .i64 a.x.kind, .int .i64 a.x.v.k, .int .i64 a.x.v.n, .string a.x.v.s, .int .i64 a.x.col, .slice a.x.A a.x.n a.x.cap] /\ zc W g4 24 #[.int .i64 0, .int .i64 0, .string ⟨#[]⟩]) /\ zc W g7 24 #[.int .i64 v.k, .int .i64 v.n, .string v.s] /\ za w W) ⟨⟨xd C.out.1 o6 _ _ _, xd C.out.2.1 o2 _ _ _, xd C.out.2.2 o4 _ _ _⟩, YD D.out.2 _ _ _, qp G5 SZ.out _ _ _⟩ ?_; clear b12 f12 b7 f7 b2 f2; rintro X8 ⟨⟨c86, c82, c84⟩, d87, G8⟩; have F8 := hh_ (show ZL X8 g6 g7 a (yE a ((xs.take (k + 1)).map zg)) (k + 1) 158 by rw [E3.out]; exact ⟨⟨dt, S6.out.1, c86, S6.out.2.1, S6.out.2.2⟩, ⟨v, d87, fun h => by simp at h, fun _ => E4.out⟩⟩); have C8 := hh_ (And.intro c82 c84); clear c86 c82 c84 d87; go_wp2; go_roundw
         case rel => exact wy_
         case measure => exact wa_
        ·have d6 : decide (0 < r) = false := decide_eq_false w1; have e3 : ∃ lo hi, yE a ((xs.take (k + 1)).map zg) = ⟨st.n + x.w, st.s + x.w * v.n, true, lo, hi⟩ /\ (a.k = 4 -> L = lo) /\ (a.k = 5 -> L = hi) := ⟨_, _, by rw [ES2.out, if_neg hk1], fun h => by omega, fun _ => by rw [if_neg (fun h => w1 (by have := (NN.out _).1 h; rw [<- EB2.out.2 h5, Hr.out] at this; exact this))]; exact EB2.out.2 h5⟩
         obtain ⟨lo, hi, e3, e4⟩ := e3; have E3 := hh_ e3; have E4 := hh_ e4; clear e3 e4; go_upto_region 17 with fail
         refine zb (fun W => (zc W g6 158 (dt.map (Value.int .i64)).toArray /\ zc W g2 75 #[.int .i64 a.k, .int .i64 a.x.kind, .int .i64 a.x.v.k, .int .i64 a.x.v.n, .string a.x.v.s, .int .i64 a.x.col, .slice a.x.A a.x.n a.x.cap] /\ zc W g4 24 #[.int .i64 0, .int .i64 0, .string ⟨#[]⟩]) /\ zc W g7 24 #[.int .i64 L.k, .int .i64 L.n, .string L.s] /\ za w W) ⟨C.out, D.out.2, G5⟩ ?_; clear b12 f12 b7 f7 b2 f2; rintro X8 ⟨⟨c86, c82, c84⟩, d87, G8⟩; have F8 := hh_ (show ZL X8 g6 g7 a (yE a ((xs.take (k + 1)).map zg)) (k + 1) 158 by rw [E3.out]; exact ⟨⟨dt, S6.out.1, c86, S6.out.2.1, S6.out.2.2⟩, ⟨L, d87, fun h => by simp at h, fun _ => E4.out⟩⟩); have C8 := hh_ (And.intro c82 c84); clear c86 c82 c84 d87; go_wp2; go_roundw
         case rel => exact wy_
         case measure => exact wa_
       ·have d5 : (a.k == 5) = false := by simpa using h5
        have e3 : ∃ lo hi, yE a ((xs.take (k + 1)).map zg) = ⟨st.n + x.w, st.s + x.w * v.n, true, lo, hi⟩ /\ (a.k = 4 -> L = lo) /\ (a.k = 5 -> L = hi) := ⟨_, _, by rw [ES2.out, if_neg hk1], fun h => by omega, fun h => by omega⟩
        obtain ⟨lo, hi, e3, e4⟩ := e3; have E3 := hh_ e3; have E4 := hh_ e4; clear e3 e4; go_upto_region 17 with fail
        refine zb (fun W => (zc W g6 158 (dt.map (Value.int .i64)).toArray /\ zc W g2 75 #[.int .i64 a.k, .int .i64 a.x.kind, .int .i64 a.x.v.k, .int .i64 a.x.v.n, .string a.x.v.s, .int .i64 a.x.col, .slice a.x.A a.x.n a.x.cap] /\ zc W g4 24 #[.int .i64 0, .int .i64 0, .string ⟨#[]⟩]) /\ zc W g7 24 #[.int .i64 L.k, .int .i64 L.n, .string L.s] /\ za w W) ⟨C.out, D.out.2, G5⟩ ?_; clear b12 f12 b7 f7 b2 f2; rintro X8 ⟨⟨c86, c82, c84⟩, d87, G8⟩; have F8 := hh_ (show ZL X8 g6 g7 a (yE a ((xs.take (k + 1)).map zg)) (k + 1) 158 by rw [E3.out]; exact ⟨⟨dt, S6.out.1, c86, S6.out.2.1, S6.out.2.2⟩, ⟨L, d87, fun h => by simp at h, fun _ => E4.out⟩⟩); have C8 := hh_ (And.intro c82 c84); clear c86 c82 c84 d87; go_wp2; go_roundw
        case rel => exact wy_
        case measure => exact wa_
  ·have et : (xs.take k).map zg = xs.map zg := by rw [show k = xs.length by omega, List.take_length]
   obtain ⟨st, hst⟩ : ∃ st, yE a (xs.map zg) = st := ⟨_, rfl⟩
   rw [et, hst] at St n1 n2 ⊢; have eR : R = if a.k <= 2 then yp st.n else if st.known = false then zR else if a.k = 3 then yp st.s else if a.k = 4 then st.lo else st.hi := by rw [<- HR.out]; unfold ko; rw [hst]
   have ER := hh_ eR; obtain ⟨b2, f2⟩ := hb2.rules; have m6 := HG.out.2.2; have sz : w.heap.size <= g4 := by have := HG.out.2.1; have := HG.out.1; omega
   have SZ := hh_ sz; clear eR hst et sz hb2 hb4; obtain ⟨⟨ds, l9, B6, e6, bd⟩, ⟨L, Bb, eb⟩⟩ := St.out; have EB := hh_ eb; clear eb; obtain ⟨b4, f4⟩ := B24.out.2.rules
   by_cases h1 : a.k = 1
   ·have d1 : (a.k == 1) = true := by simpa using h1
    have e : R = yp st.n := by rw [ER.out, if_pos u4_]
    subst e
    go_wp2_with (go_at_call 144; ((with_reducible refine (YQ _ _).mono ?_); rintro e w2 ⟨rfl, hg2⟩; obtain ⟨b4, f4⟩ := (B24.out.2.grow hg2).rules))
    refine qX_ ow_ rfl ?_; exact ⟨rfl, qp (hg.trans hg2) SZ.out _ _ _⟩
   ·have d1 : (a.k == 1) = false := by simpa using h1
    by_cases h2 : a.k = 2
    ·have d2 : (a.k == 2) = true := by simpa using h2
     have e : R = yp st.n := by rw [ER.out, if_pos u4_]
     subst e
     go_wp2_with (go_at_call 144; ((with_reducible refine (YQ _ _).mono ?_); rintro e w2 ⟨rfl, hg2⟩; obtain ⟨b4, f4⟩ := (B24.out.2.grow hg2).rules))
     refine qX_ ow_ rfl ?_; exact ⟨rfl, qp (hg.trans hg2) SZ.out _ _ _⟩
    ·have d2 : (a.k == 2) = false := by simpa using h2
     cases hkn : st.known with
     | false =>
      have e : R = L := by rw [ER.out, if_neg u4_, if_pos hkn, EB.out.1 hkn]
      subst e; obtain ⟨b7, f7⟩ := Bb.rules; clear B6 Bb; cases h3 : (a.k == 3)
      ·exact yu_
      ·exact yu_
     | true =>
      by_cases h3 : a.k = 3
      ·have d3 : (a.k == 3) = true := by simpa using h3
       have e : R = yp st.s := by rw [ER.out, if_neg u4_, if_neg uS_, if_pos h3]
       subst e; have ct := VV ds (999000000 * (k : Int)) g6 wr l9 B6 u4_ bd; rw [e6] at ct; clear B6 Bb bd e6
       go_wp2_with (go_at_call 145; ((with_reducible refine ct.mono ?_); rintro e w2 ⟨rfl, gx2⟩; have G2 : za w w2 := GX.base hg (by have := SZ.out; omega) gx2; obtain ⟨b4, f4⟩ := (gx2.blk u4_ B24.out.2).rules))
       refine qX_ ow_ rfl ?_; exact ⟨rfl, qp G2 SZ.out _ _ _⟩
      ·have d3 : (a.k == 3) = false := by simpa using h3
       have e : R = L := by
        rw [ER.out, if_neg u4_, if_neg uS_, if_neg h3]; split
        ·exact ((EB.out.2 hkn).1 uX_).symm
        ·exact ((EB.out.2 hkn).2 u4_).symm
       subst e; obtain ⟨b7, f7⟩ := Bb.rules; clear B6 Bb; go_wp2; refine qX_ ow_ rfl ?_; exact ⟨rfl, qp hg SZ.out _ _ _⟩
