/- Parts of a proof. No condition. -/
import Derived.Test.YtphaeahdmfapgaaGreatGZ
set_option maxRecDepth 100000
set_option maxHeartbeats 8000000
set_option maxRecDepth 100000
set_option linter.unusedSimpArgs false
set_option linter.unusedVariables false
namespace Go
variable {p : Prop}
theorem oY_ (h : p := by simp [results, Tryz.results25, go_sem] <;> rfl) : p := h
theorem oZ_ (h : p := by simp [results, Tryz.results58, go_sem] <;> rfl) : p := h
theorem o0_ (h : p := by simp [results, Tryz.results59, go_sem] <;> rfl) : p := h
theorem yO_ (h : p := by
 exact ⟨0, Nat.zero_le _, rfl, xB.nil _ _ (za.refl _)⟩) : p := h
end Go
namespace Go.Proofs.YtphaeahdmfapgaaGreat
open Go.RowKit Go.Calm
theorem QD (cols : List Int) (Ac : Option Addr) (cc : Nat) (xs : List E) (A : Option Addr) (c : Nat) (w : World) (hlen : cols.length <= 9223372036854775807) (hl : xs.length <= 9223372036854775807) (hc : yD w Ac cols) (hx : Xa w A xs) :
  Calls Tryz.prog 25 #[.slice Ac cols.length cc, .slice A xs.length c] w fun en w' => ∃ (B : Option Addr) (cap : Nat), en = .returned (.tuple #[.slice B (zE cols xs).1.length cap, .int .i64 (zE cols xs).2]) /\ yD w' B (zE cols xs).1 /\ zX B (zE cols xs).1.length cap /\ XC w B /\ za w w' := by
 have Hx := hh_ hx; have Hc := hh_ hc; have Ti := hh_ x9; clear hx hc; obtain ⟨R, hR⟩ : ∃ R, zE cols xs = R := ⟨_, rfl⟩
 rw [hR]; have HR := hh_ hR; clear hR; go_enter Tryz.func25, Tryz.ntmps25
 by_cases h8 : 8 < xs.length
 ·have d8 : decide ((8 : Int) < (xs.length : Int)) = true := decide_eq_true u4_; have e : R = ([], 5) := by rw [<- HR.out]; unfold zE; rw [if_pos h8]
  subst e; go_wp2; refine qX_ oY_ rfl ?_; exact ⟨none, 0, rfl, jC _ _, zX.nil, (fun a ha => by cases ha), za.refl _⟩
 ·have d8 : decide ((8 : Int) < (xs.length : Int)) = false := decide_eq_false u4_; have e : R = xq cols xs := by rw [<- HR.out]; unfold zE; rw [if_neg h8]
  have Re := hh_ e; clear e; go_wp2
  go_loopw [6, 15] (fun t i wr => ∃ k : Nat, k <= xs.length /\ i = .int .i64 k /\ wr.ownsRow w.heap.size 3 1 t k (((xs.take k).map (fun x => (zP cols x).1)).map (Value.int .i64)) /\ (∀ x ∈ xs.take k, (zP cols x).2 = 0) /\ za w wr) (fun _ i _ => xs.length - (intOf i).toNat)
  case atStart => exact x5_
  case round =>
   obtain ⟨k, hk, rfl, hown, hz, hg⟩ := hrel; have Own := hh_ hown; have Hz := hh_ hz; clear hown hz
   by_cases hlt : k < xs.length
   ·obtain ⟨x, hxk⟩ : ∃ x, xs[k]? = some x := ⟨_, qQ_ hlt⟩
    obtain ⟨gx, ox, rfl, hec, hex⟩ := (Hx.out.grow hg) k x hxk; obtain ⟨c0, c1, c2, c3, c4, c5⟩ := hec; obtain ⟨T, F, hTF⟩ : ∃ T F, zP cols x = (T, F) := ⟨_, _, rfl⟩
    have ct := fun W (h : za wr W) => YZ cols Ac cc x W hlen (Hc.out.grow (hg.trans h)) (hex.grow h)
    rw [hTF] at ct; simp only at ct; have Hxk := hh_ hxk; have HTF := hh_ hTF; have hl2 := Own.out.lt; have HL2 := hh_ hl2; clear hxk hex hTF hl2; unfold E.val at ct; obtain ⟨ti, hti, hz0, hz1, hz2⟩ := Ti.out
    by_cases h0 : F = 0
    ·subst h0
     go_wp2_with (first
      | (go_at_call 37; ((with_reducible refine (ct _ (za.refl _)).mono ?_); rintro e w2 ⟨rfl, hg2⟩; have Own2 := hh_ (zh Own.out hg2); have G2 := hg.trans hg2; clear hg2))
      | (at_builtin; refine wpList_append_own _ rfl _ _ 33 rfl w.heap.size 3 ti (.int .i64 0) 1 8 Tryz.underlying33 hti hz0 hz1 hz2 rfl u3_ _ _ _ rfl (Own2.out.alloc _) ⟨w2.heap.size, 0, none⟩ 1 1 [.int .i64 T] rfl rfl ?c1 ?c2 ?c3 ?c4 ?c5 ?_))
     case c1 => exact w6_
     case c2 => exact ya_
     case c3 => exact x6_
     case c4 => omega
     case c5 => exact ym_
     ·exact y2_
    ·have d0 : (F != 0) = true := by simpa using h0
     have e : R = ([], F) := by rw [Re.out, X7 cols xs k x Hxk.out Hz.out (by rw [HTF.out]; exact h0), HTF.out]
     subst e
     go_wp2_with (go_at_call 37; ((with_reducible refine (ct _ (za.refl _)).mono ?_); rintro e w2 ⟨rfl, hg2⟩; have G2 := hg.trans hg2; clear hg2))
     refine qX_ oY_ rfl ?_; exact ⟨none, 0, rfl, jC _ _, zX.nil, (fun a ha => by cases ha), G2⟩
   ·obtain rfl : k = xs.length := by omega
    have own := Own.out; rw [List.take_length] at own; have e : R = (xs.map (fun x => (zP cols x).1), 0) := by rw [Re.out, Xr cols xs oq_]
    subst e; obtain ⟨B, cap, rfl, hi, hs⟩ := Yq own; have Fin := hh_ (And.intro hi (And.intro hs (xO own))); clear own hi hs; go_wp2; refine qX_ oY_ rfl ?_; exact ⟨B, cap, by simp, Fin.out.1, by simpa using Fin.out.2.1, Fin.out.2.2, hg⟩
theorem YX (cols : List Int) (Ac : Option Addr) (cc : Nat) (xs : List E) (A : Option Addr) (c : Nat) (w : World) (hlen : cols.length <= 9223372036854775807) (hl : xs.length <= 9223372036854775807) (hc : yD w Ac cols) (hx : Xa w A xs) :
  Calls Tryz.prog 25 #[.slice Ac cols.length cc, .slice A xs.length c] w fun en w' => ∃ (B : Option Addr) (cap : Nat), en = .returned (.tuple #[.slice B (zE cols xs).1.length cap, .int .i64 (zE cols xs).2]) /\ yD w' B (zE cols xs).1 /\ zX B (zE cols xs).1.length cap /\ za w w' := (QD cols Ac cc xs A c w hlen hl hc hx).mono fun e w' ⟨B, cap, h1, h2, h3, _, h4⟩ => ⟨B, cap, h1, h2, h3, h4⟩
theorem jk (xs : List E) (A : Option Addr) (c : Nat) (row : List V) (Ar : Option Addr) (cr : Nat) (w : World) (hl : xs.length <= 1000) (hlr : row.length <= 9223372036854775807) (hx : Xa w A xs) (cols : List Int) (hty : ∀ x ∈ xs, ∃ T, wt cols x T) (hfit : ja cols row) (hrow : yS w Ar row) :
  Calls Tryz.prog 102 #[.slice A xs.length c, .slice Ar row.length cr] w fun en w' => ∃ (B : Option Addr) (cap : Nat), en = .returned (.slice B xs.length cap) /\ w'.ownsRow w.heap.size 24 3 (.slice B xs.length cap) xs.length (zF (xs.map (yd row))) /\ za w w' := by
 have Hx := hh_ hx; have Hty := hh_ hty; have Hfit := hh_ hfit; have Hrow := hh_ hrow; have Ti := hh_ jS; clear hx hty hfit hrow; go_enter Tryz.func102, Tryz.ntmps102; go_wp2
 go_loopw [5, 9] (fun t i wr => ∃ k : Nat, k <= xs.length /\ i = .int .i64 k /\ wr.ownsRow w.heap.size 24 3 t k (zF ((xs.take k).map (yd row))) /\ za w wr) (fun _ i _ => xs.length - (intOf i).toNat)
 case atStart => exact xz_
 case round =>
  obtain ⟨k, hk, rfl, hown, hg⟩ := hrel; have Own := hh_ hown; clear hown
  by_cases hlt : k < xs.length
  ·obtain ⟨x, hxk⟩ : ∃ x, xs[k]? = some x := ⟨_, qQ_ hlt⟩
   obtain ⟨gx, ox, rfl, hec, hex⟩ := (Hx.out.grow hg) k x hxk; obtain ⟨T, ht⟩ := Hty.out x (qZ_ hxk); have co := fun W (h : za wr W) => LB cols row Ar cr hlr Hfit.out x ht wr W hex (Hrow.out.grow hg) h
   obtain ⟨c0, c1, c2, c3, c4, c5⟩ := hec; have e := zT (yd row) hxk; have E := hh_ e; obtain ⟨ti, hti, hz0, hz1, hz2⟩ := Ti.out; have hl2 := Own.out.lt; have HL2 := hh_ hl2; generalize yd row x = v9 at *; unfold V.val at co; unfold Go.Proofs.YtphaeahdmfapgaaGreat.E.val at co; clear hxk e hl2 hex ht
   go_wp2_with (first
    | (go_at_call 142; ((with_reducible refine (co _ zd).mono ?_); rintro e w2 ⟨rfl, hg2⟩; have Own2 := hh_ (zh Own.out hg2); have G2 := hg.trans hg2; clear hg2))
    | (at_builtin; refine wpList_append_own _ rfl _ _ 57 rfl w.heap.size 24 ti (.agg #[.int .i64 0, .int .i64 0, .string ⟨#[]⟩]) 3 32 Tryz.underlying57 hti hz0 hz1 hz2 rfl u3_ _ _ _ rfl (Own2.out.alloc _) ⟨w2.heap.size, 0, none⟩ 1 1 (zF [v9]) rfl rfl ?c1 (Yo _) ?c3 ?c4 ?c5 ?_))
   case c1 => exact wE_
   case c3 => exact x6_
   case c4 => omega
   case c5 => exact ym_
   ·exact yX_
  ·exact wB_
theorem N1 (cols : List Int) (x : E) (z : List Z) : x7 cols x z = if yQ cols x ≠ 0 then ([], yQ cols x) else if zO cols z ≠ 0 then ([], zO cols z) else (yC (z.filter (fun r => yi x r.1)), 0) := by
 unfold x7; split
 ·rfl
 ·split
  ·rfl
  ·rename_i h2; obtain ⟨_, hw, _⟩ := zt (cols := cols) (z := z) uQ_; have sm := JO (SM.of hw) (fun r => yi x r.1); exact (PG (M := 1000000) (N := 400) sm.ok (fun q => DU u4_ sm.rv sm.up sm.bd q) sm.len u4_ u4_).1
theorem Uu (x : E) {xs : List I} {k : Nat} {y : I} (h : xs[k]? = some y) : ((xs.take (k + 1)).map zg).filter (fun r => yi x r.1) = ((xs.take k).map zg).filter (fun r => yi x r.1) ++ if yi x y.row then [(y.row, y.w)] else [] := by
 rw [zT zg h, List.filter_append]; cases hh : yi x y.row <;> simp [zg, hh]
theorem Nc (cols : List Int) (Ac : Option Addr) (cc : Nat) (x : E) (s : S) (w : World) (hlen : cols.length <= 9223372036854775807) (hc : yD w Ac cols) (hE : EX w x) (hs : In w s) :
  Calls Tryz.prog 58 #[.slice Ac cols.length cc, x.val, .slice s.A s.xs.length s.cap] w fun en w' => z0 w w' en (x7 cols x s.z) := by
 obtain ⟨A, xs, c⟩ := s; have H := hh_ hs; have HX := hh_ hE; have ct := fun W (hg : za w W) => Qc cols Ac cc x W hlen (hc.grow hg) (hE.grow hg)
 have ci := fun W (hg : za w W) => qC cols Ac cc xs A c W hlen (hc.grow hg) (hs.grow hg)
 obtain ⟨CE, hCE⟩ : ∃ CE, yQ cols x = CE := ⟨_, rfl⟩
 obtain ⟨IE, hIE⟩ : ∃ IE, zO cols (xs.map zg) = IE := ⟨_, rfl⟩
 rw [hCE] at ct; rw [hIE] at ci; obtain ⟨Q, hQ⟩ : ∃ Q, x7 cols x (xs.map zg) = Q := ⟨_, rfl⟩
 rw [show S.z ⟨A, xs, c⟩ = xs.map zg from rfl, hQ]; have fin : Q = if CE ≠ 0 then ([], CE) else if IE ≠ 0 then ([], IE) else (yC ((xs.map zg).filter (fun r => yi x r.1)), 0) := by rw [<- hQ, N1, hCE, hIE]
 have Fin := hh_ fin; have HCE := hh_ hCE; have HIE := hh_ hIE; clear hs hc hE hCE hIE hQ fin; unfold E.val at *; go_enter Tryz.func58, Tryz.ntmps58; go_upto_region 1 with fail
 refine zb (fun X => zc X w.heap.size 27 (Ed x) /\ za w X) ⟨zc.new _ _ _, (za.refl _).al _⟩ ?_; generalize w.heap.size = g1; rintro X ⟨Bx, G⟩; have BX := hh_ Bx; obtain ⟨bx, fx⟩ := Bx.rules; clear Bx
 by_cases h0 : CE = 0
 ·by_cases h1 : IE = 0
  ·subst h0 h1; have eQ : Q = (yC ((xs.map zg).filter (fun r => yi x r.1)), 0) := by rw [Fin.out]; simp
   have EQ := hh_ eQ; obtain ⟨_, hwz, hfit⟩ := zt HIE.out; obtain ⟨a1, a2, a3, a4⟩ := S.facts (s := ⟨A, xs, c⟩) hwz; have a1 : xs.length <= 400 := a1; have A2 := hh_ (show ∀ y ∈ xs, y.row.length <= 8 from a2); have A3 := hh_ (show ∀ y ∈ xs, ∀ v ∈ y.row, RV v from a3); have A4 := hh_ (show ∀ y ∈ xs, -1000000 <= y.w /\ y.w <= 1000000 from a4); have Hfit := hh_ (show ∀ y ∈ xs, ja cols y.row from fun y hy => (yo _ _).1 (hfit (zg y) (qZ9 hy))); obtain ⟨T, hok⟩ := xk (qA HCE.out).1; have HT := hh_ hok.ty; clear eQ hwz hfit a2 a3 a4 hok
   go_upto_region 8 with (first
    | (go_at_call 24; ((with_reducible refine (ct _ G).mono ?_); rintro e w2 ⟨rfl, hg2⟩))
    | (go_at_call 31; ((with_reducible refine (ci _ (G.trans hg2)).mono ?_); rintro e w3 ⟨rfl, hg3⟩)))
   have G3 := G.trans (hg2.trans hg3); have B3 := hh_ (BX.out.grow (hg2.trans hg3)); clear ct ci bx fx; go_wp2
   go_loopw [10, 27] (fun t i wr => ∃ k : Nat, k <= xs.length /\ i = .int .i64 k /\ xB w3 wr t (((xs.take k).map zg).filter (fun r => yi x r.1))) (fun _ i _ => xs.length - (intOf i).toNat)
   case atStart => exact yO_
   case round =>
    rename World => wr
    obtain ⟨k, hk, rfl, hp⟩ := hrel; obtain ⟨Bt, nt, ct, rfl⟩ := hp.slice; have P := hh_ hp; have hg := hp.grow; clear hp
    by_cases hlt : k < xs.length
    ·obtain ⟨y, hyk⟩ : ∃ y, xs[k]? = some y := ⟨_, qQ_ hlt⟩
     obtain ⟨gx2, ox2, rfl, c1, c2, hyv⟩ := (H.out.z.grow (G3.trans hg)) k y hyk; have hm := qZ_ hyk; have ly := A2.out y hm; have wy := A4.out y hm; have vy := hh_ (A3.out y hm); have fy := hh_ (Hfit.out y hm); have Fl := hh_ (Uu x hyk); have HV := hh_ hyv
     have lk : (((xs.take k).map zg).filter (fun r => yi x r.1)).length <= 400 := by
      refine Nat.le_trans (List.length_filter_le _ _) ?_; simp; omega
     have ch := fun W (h : za wr W) => Xm cols y.row y.A y.cap x T W u4_ fy.out HT.out (HX.out.grow (G3.trans (hg.trans h))) (HV.out.grow h)
     obtain ⟨hit, hh⟩ : ∃ t, yi x y.row = t := ⟨_, rfl⟩
     rw [hh] at ch; have HH := hh_ hh; unfold E.val at ch; clear hyk hm hyv hh; go_upto_region 11 with fail
     refine zb (fun Z1 => zc Z1 wr.heap.size 59 #[.slice y.A y.row.length y.cap, .int .i64 y.w] /\ za wr Z1) ⟨zc.new _ _ _, (za.refl wr).al _⟩ ?_; rintro Z1 ⟨Bz, Gz⟩; have BZ := hh_ Bz; have BX1 := hh_ (B3.out.grow (hg.trans Gz)); obtain ⟨bz, fz⟩ := Bz.rules; obtain ⟨bx, fx⟩ := BX1.out.rules; have PZ := hh_ (P.out.more Gz); clear Bz c1 c2; generalize wr.heap.size = gz at *; cases hit with
     | false =>
      go_wp2_with (go_at_call 101; ((with_reducible refine (ch _ Gz).mono ?_); rintro e w4 ⟨rfl, hg4⟩))
      have P4 := hh_ (PZ.out.more hg4); go_roundw
      case rel => exact ⟨k + 1, by omega, by go_num, by rw [Fl.out, HH.out]; simpa using P4.out⟩
      case measure => exact wa_
     | true =>
      go_upto_region 12 with (go_at_call 101; ((with_reducible refine (ch _ Gz).mono ?_); rintro e w4 ⟨rfl, hg4⟩)); have P4 := hh_ (PZ.out.more hg4); have cpt := qW P4.out y.row y.A y.cap y.w (HV.out.grow (Gz.trans hg4)) u4_ vy.out u4_ u4_; clear bz fz bx fx; obtain ⟨bz, fz⟩ := (BZ.out.grow hg4).rules
      go_wp2_with (go_at_call 56; ((with_reducible refine cpt.mono ?_); rintro e w5 ⟨v5, rfl, hp5, hg5⟩; have P5 := hh_ hp5; clear hp5))
      go_roundw
      case rel => exact ⟨k + 1, by omega, by go_num, by rw [Fl.out, HH.out]; simpa using P5.out⟩
      case measure => exact wa_
    ·obtain rfl : k = xs.length := by omega
     have P1 := P.out; rw [List.take_length] at P1; obtain ⟨⟨B, ys, cap, e9, hz, hm, hk2⟩, hg', _⟩ := P1; simp only [Value.slice.injEq] at e9; obtain ⟨rfl, rfl, rfl⟩ := e9; have Out := hh_ (And.intro hz (And.intro hm hk2)); clear hz hm hk2; go_wp2; refine qX_ oZ_ rfl ?_; exact ⟨Bt, ys, ct, by rw [EQ.out], Out.out.1, by rw [EQ.out]; exact Out.out.2.1, Out.out.2.2, G3.trans hg⟩
  ·have d1 : (IE != 0) = true := by simpa using h1
   have eQ : Q = ([], IE) := by rw [Fin.out, if_neg uI_, if_pos h1]
   subst h0
   go_wp2_with (first
    | (go_at_call 24; ((with_reducible refine (ct _ G).mono ?_); rintro e w2 ⟨rfl, hg2⟩))
    | (go_at_call 31; ((with_reducible refine (ci _ (G.trans hg2)).mono ?_); rintro e w3 ⟨rfl, hg3⟩)))
   refine qX_ oZ_ rfl ?_; exact ⟨none, [], 0, by rw [eQ]; rfl, zy _ _, by rw [eQ]; rfl, zX.nil, G.trans (hg2.trans hg3)⟩
 ·have d0 : (CE != 0) = true := by simpa using h0
  have eQ : Q = ([], CE) := by rw [Fin.out, if_pos h0]
  go_wp2_with (go_at_call 24; ((with_reducible refine (ct _ G).mono ?_); rintro e w2 ⟨rfl, hg2⟩))
  refine qX_ oZ_ rfl ?_; exact ⟨none, [], 0, by rw [eQ]; rfl, zy _ _, by rw [eQ]; rfl, zX.nil, G.trans hg2⟩
def F9 (n : Nat) (vs : List V) (v : Value) (W : World) : Prop := ∃ (B : Option Addr) (cap : Nat), v = .slice B n cap /\ yS W B vs
theorem Lz {w : World} {base cap n : Nat} {B : Option Addr} {ys : List V} (hn : ys.length = n) (h : w.ownsRow base 24 3 (.slice B n cap) n (zF ys)) : yS w B ys := by
 rw [<- hn] at h; obtain ⟨B', c', e, hv⟩ := Yt h; simp at e; rw [e.1]; exact hv
theorem Vk (cols : List Int) (Ac : Option Addr) (cc : Nat) (es : List E) (Ae : Option Addr) (ce : Nat) (s : S) (w : World) (hlen : cols.length <= 9223372036854775807) (hle : es.length <= 9223372036854775807) (hc : yD w Ac cols) (hE : Xa w Ae es) (hs : In w s) :
  Calls Tryz.prog 59 #[.slice Ac cols.length cc, .slice Ae es.length ce, .slice s.A s.xs.length s.cap] w fun en w' => z0 w w' en (QO cols es s.z) := by
 obtain ⟨A, xs, c⟩ := s; have H := hh_ hs; have HX := hh_ hE; have ct := YX cols Ac cc es Ae ce w hlen hle hc hE; have ci := fun W (hg : za w W) => qC cols Ac cc xs A c W hlen (hc.grow hg) (hs.grow hg)
 obtain ⟨TS, TE, hTE⟩ : ∃ TS TE, zE cols es = (TS, TE) := ⟨_, _, rfl⟩
 obtain ⟨IE, hIE⟩ : ∃ IE, zO cols (xs.map zg) = IE := ⟨_, rfl⟩
 rw [hTE] at ct; rw [hIE] at ci; obtain ⟨Q, hQ⟩ : ∃ Q, QO cols es (xs.map zg) = Q := ⟨_, rfl⟩
 rw [show S.z ⟨A, xs, c⟩ = xs.map zg from rfl, hQ]; have fin : Q = if TE ≠ 0 then ([], TE) else if IE ≠ 0 then ([], IE) else qj (yC ((xs.map zg).map (fun r => (es.map (yd r.1), r.2)))) := by rw [<- hQ]; unfold QO; rw [hTE, hIE]; rfl
 have Fin := hh_ fin; have HTE := hh_ hTE; have HIE := hh_ hIE; clear hs hc hE hTE hIE hQ fin; go_enter Tryz.func59, Tryz.ntmps59
 by_cases h0 : TE = 0
 ·by_cases h1 : IE = 0
  ·subst h0 h1; have eQ : Q = qj (yC ((xs.map zg).map (fun r => (es.map (yd r.1), r.2)))) := by rw [Fin.out]; simp
   have EQ := hh_ eQ; obtain ⟨_, hwz, hfit⟩ := zt HIE.out; obtain ⟨a1, a2, a3, a4⟩ := S.facts (s := ⟨A, xs, c⟩) hwz; have a1 : xs.length <= 400 := a1; have A2 := hh_ (show ∀ y ∈ xs, y.row.length <= 8 from a2); have A4 := hh_ (show ∀ y ∈ xs, -1000000 <= y.w /\ y.w <= 1000000 from a4); have Hfit := hh_ (show ∀ y ∈ xs, ja cols y.row from fun y hy => (yo _ _).1 (hfit (zg y) (qZ9 hy))); obtain ⟨he8, hty⟩ := xo (by rw [HTE.out] : (zE cols es).2 = 0); have Hty := hh_ (show ∀ x ∈ es, ∃ T, wt cols x T from fun x hx => by obtain ⟨T, hok⟩ := xk (hty x hx); exact ⟨T, hok.ty⟩)
   have Hrv := hh_ (show ∀ y ∈ xs, ∀ v ∈ es.map (yd y.row), RV v from fun y hy v hv => by
    obtain ⟨e, he, rfl⟩ := List.mem_map.1 hv
    exact YK (hty e he) (hfit (zg y) (qZ9 hy)))
   clear eQ hwz hfit a2 a3 a4 hty
   go_upto_region 8 with (first
    | (go_at_call 25; ((with_reducible refine ct.mono ?_); rintro e w2 ⟨BT, capT, rfl, _, _, hg2⟩))
    | (go_at_call 31; ((with_reducible refine (ci _ hg2).mono ?_); rintro e w3 ⟨rfl, hg3⟩)))
   have G3 := hg2.trans hg3; clear ct ci; go_wp2
   go_loopw [11, 31] (fun t i wr => ∃ k : Nat, k <= xs.length /\ i = .int .i64 k /\ xB w3 wr t ((xs.take k).map (fun y => (es.map (yd y.row), y.w)))) (fun _ i _ => xs.length - (intOf i).toNat)
   case atStart => exact yO_
   case round =>
    rename World => wr
    obtain ⟨k, hk, rfl, hp⟩ := hrel; obtain ⟨Bt, nt, ct, rfl⟩ := hp.slice; have P := hh_ hp; have hg := hp.grow; clear hp
    by_cases hlt : k < xs.length
    ·obtain ⟨y, hyk⟩ : ∃ y, xs[k]? = some y := ⟨_, qQ_ hlt⟩
     obtain ⟨gx2, ox2, rfl, c1, c2, hyv⟩ := (H.out.z.grow (G3.trans hg)) k y hyk; have hm := qZ_ hyk; have ly := A2.out y hm; have wy := A4.out y hm; have vy := hh_ (Hrv.out y hm); have fy := hh_ (Hfit.out y hm); have tk := zT (fun y : I => (es.map (yd y.row), y.w)) hyk; have HV := hh_ hyv; have cv := fun W (h : za wr W) => jk es Ae ce y.row y.A y.cap W u4_ u4_ (HX.out.grow (G3.trans (hg.trans h))) cols Hty.out fy.out (HV.out.grow h)
     obtain ⟨VR, hVR⟩ : ∃ q, es.map (yd y.row) = q := ⟨_, rfl⟩
     have lv : VR.length = es.length := by rw [<- hVR]; simp
     have vy2 := vy.out; rw [hVR] at cv tk vy2; have Lv := hh_ lv; have Vy := hh_ vy2; have Fl := hh_ tk; have lk : ((xs.take k).map (fun y : I => (es.map (yd y.row), y.w))).length <= 400 := by simp; omega
     clear hyk hm hyv hVR tk lv vy vy2; go_upto_region 11 with fail
     refine zb (fun Z1 => zc Z1 wr.heap.size 59 #[.slice y.A y.row.length y.cap, .int .i64 y.w] /\ za wr Z1) ⟨zc.new _ _ _, (za.refl wr).al _⟩ ?_; rintro Z1 ⟨Bz, Gz⟩; have BZ := hh_ Bz; have PZ := hh_ (P.out.more Gz); clear Bz c1 c2; generalize wr.heap.size = gz at *; apply ze 9 uY_ uY_
     case h' =>
      intro Q0 hQ0; simp only [List.take_succ_cons, List.take_zero]
      repeat ((first | ((first | apply zu rfl | apply zw rfl rfl rfl); case h1 => (intro w1 hw1 hF K hK; obtain ⟨bz, fz⟩ := (BZ.out.grow hw1).rules; go_simp; first | exact hK _ (za.refl _))) | apply zz rfl rfl rfl rfl); intro K hK; go_simp; apply hK; clear hK K)
      apply zN (F9 es.length VR) rfl
      case h1 =>
       intro w1 hw1 hF K1 hK1; go_simp
       go_at_call 102
       refine (cv w1 (Gz.trans hw1)).mono ?_; rintro en w' ⟨B, cap, rfl, ho, hg'⟩; exact ⟨_, rfl, hK1 _ _ hg' ⟨B, cap, rfl, Lz Lv.out ho⟩⟩
      intro v39 K1 hK1; go_simp; apply hK1; clear hK1 K1
      repeat ((first | ((first | apply zu rfl | apply zw rfl rfl rfl); case h1 => (intro w1 hw1 hF K hK; obtain ⟨bz, fz⟩ := (BZ.out.grow hw1).rules; go_simp; first | exact hK _ (za.refl _))) | apply zz rfl rfl rfl rfl); intro K hK; go_simp; apply hK; clear hK K)
      apply zN (fun v W => xB w3 W v (((xs.take k).map (fun y : I => (es.map (yd y.row), y.w))) ++ [(VR, y.w)])) rfl
      case h1 =>
       intro w1 hw1 hF K1 hK1; obtain ⟨B, cap, hv, h1⟩ := hF _ (List.mem_cons_self ..) ⟨_, rfl, by decide⟩; subst hv; go_simp
       go_at_call 56
       have cpt := qW (PZ.out.more hw1) VR B cap y.w h1 (by rw [Lv.out]; omega) Vy.out u4_ u4_; rw [Lv.out] at cpt; refine cpt.mono ?_; rintro en w' ⟨v5, rfl, hp5, hg'⟩; exact ⟨_, rfl, hK1 _ _ hg' hp5⟩
      intro v42 K1 hK1; go_simp; apply hK1; clear hK1 K1; apply zN (fun v W => xB w3 W v (((xs.take k).map (fun y : I => (es.map (yd y.row), y.w))) ++ [(VR, y.w)])) rfl
      case h1 =>
       intro w1 hw1 hF K1 hK1; have h1 := hF _ (List.mem_cons_self ..) ⟨_, rfl, by decide⟩; go_simp; exact hK1 _ _ (za.refl _) h1
      intro v11 K1 hK1; go_simp; apply hK1; clear hK1 K1; refine zo ?_; intro w1 hw1 hF; apply hQ0; clear hQ0; simp only [List.drop_succ_cons, List.drop_zero]; have P5 := hh_ (hF _ (List.mem_cons_self ..)); clear hF; go_wp2; go_roundw
      case rel => exact ⟨k + 1, by omega, by go_num, by rw [Fl.out]; exact P5.out⟩
      case measure => exact wa_
     case hp' => exact ⟨fun v w w' hg ⟨B, c, e, h⟩ => ⟨B, c, e, h.grow hg⟩, fun v w w' hg h => h.more hg, fun v w w' hg h => h.more hg, trivial⟩
    ·obtain rfl : k = xs.length := by omega
     have P1 := P.out; rw [List.take_length] at P1; obtain ⟨⟨B, ys, cap, e9, hz, hm, hk2⟩, hg', _⟩ := P1; simp only [Value.slice.injEq] at e9; obtain ⟨rfl, rfl, rfl⟩ := e9
     have ly9 : ys.length <= 9223372036854775807 := by
      have h1 := congrArg List.length hm; have h2 := xv (xs.map (fun y : I => (es.map (yd y.row), y.w))); simp at h1 h2; omega
     have cf := jV ys Bt ct wr ly9 hz hk2; rw [hm, show yC (xs.map (fun y : I => (es.map (yd y.row), y.w))) = yC ((xs.map zg).map (fun r => (es.map (yd r.1), r.2))) from by rw [List.map_map]; rfl, <- EQ.out] at cf; clear hz hm hk2
     go_wp2_with (go_at_call 57; ((with_reducible refine cf.mono ?_); rintro en w5 ⟨C, zs, cap2, rfl, hz3, hm3, hk3, hg5⟩; have Out := hh_ (And.intro hz3 (And.intro hm3 hk3)); clear hz3 hm3 hk3))
     refine qX_ o0_ rfl ?_; exact ⟨C, zs, cap2, rfl, Out.out.1, Out.out.2.1, Out.out.2.2, G3.trans (hg.trans hg5)⟩
  ·have d1 : (IE != 0) = true := by simpa using h1
   have eQ : Q = ([], IE) := by rw [Fin.out, if_neg uI_, if_pos h1]
   subst h0
   go_wp2_with (first
    | (go_at_call 25; ((with_reducible refine ct.mono ?_); rintro e w2 ⟨BT, capT, rfl, _, _, hg2⟩))
    | (go_at_call 31; ((with_reducible refine (ci _ hg2).mono ?_); rintro e w3 ⟨rfl, hg3⟩)))
   refine qX_ o0_ rfl ?_; exact ⟨none, [], 0, by rw [eQ]; rfl, zy _ _, by rw [eQ]; rfl, zX.nil, hg2.trans hg3⟩
 ·have d0 : (TE != 0) = true := by simpa using h0
  have eQ : Q = ([], TE) := by rw [Fin.out, if_pos h0]
  go_wp2_with (go_at_call 25; ((with_reducible refine ct.mono ?_); rintro e w2 ⟨BT, capT, rfl, _, _, hg2⟩))
  refine qX_ o0_ rfl ?_; exact ⟨none, [], 0, by rw [eQ]; rfl, zy _ _, by rw [eQ]; rfl, zX.nil, hg2⟩
