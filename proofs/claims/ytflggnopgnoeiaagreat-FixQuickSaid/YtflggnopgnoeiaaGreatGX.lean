/- Parts of a proof. No condition. -/
import Derived.Test.YtflggnopgnoeiaaGreatGD
set_option maxRecDepth 100000
set_option maxHeartbeats 40000000
set_option maxRecDepth 100000
set_option linter.unusedSimpArgs false
set_option linter.unusedVariables false
namespace Go
variable {p : Prop}
theorem oL_ (h : p := by simp [results, Tryz.results135, go_sem, xu, zP]) : p := h
theorem vo_ (h : p := by have : (ts.length : Int) = 1 := hlen; omega) : p := h
theorem vp_ (h : p := by have : (ts.length : Int) = 2 := hlen; omega) : p := h
theorem vG_ (h : p := by simp [results, Tryz.results135, go_sem]) : p := h
theorem vK_ (h : p := by simp [results, Tryz.results76, go_sem]) : p := h
theorem uj_ (h : p := by simp [zx, h1x, h1y]) : p := h
theorem uH_ (h : p := by simp [zx, h1x]) : p := h
theorem uZ_ (h : p := by
 obtain ⟨x, y, rfl⟩ : ∃ x y, ts = [x, y] := PR vp_; have hx := Hty.out x uY_; have hy := Hty.out y uY_; have c0 := hcell 0 x rfl; have cn0 : ∀ n, (wr.drewN n).cell? ⟨gt, 0, none⟩ = some (.int .u8 (zP x)) := fun _ => c0
 have c1 := hcell 1 y rfl; have cn1 : ∀ n, (wr.drewN n).cell? ⟨gt, 1, none⟩ = some (.int .u8 (zP y)) := fun _ => c1
 simp only [List.length_cons, List.length_nil] at htl hct ⊢; subst htl; have twx := xA hx (.inr (.inl rfl) : (3:Int) = 2 \/ (3:Int) = 3 \/ (3:Int) = 4); have twy := xA hy (.inr (.inl rfl) : (3:Int) = 2 \/ (3:Int) = 3 \/ (3:Int) = 4); cases h1x : yk x 3
 ·rw [h1x] at twx; have tx : (xI (zP x) 105 == 105) = false := twx; clear twx; obtain ⟨rfl, rfl, rfl⟩ := yd Fin.out (yh (T := 0) (ER := 9) uW_ uH_); clear Fin
  go_wp2_with ((go_at_call 159; ((with_reducible refine (zt _ _ _).mono ?_); rintro e w' ⟨rfl, rfl⟩)))
  exact qX_ oL_ rfl ⟨rfl, hbs.out, hgx⟩
 ·rw [h1x] at twx; have tx : (xI (zP x) 105 == 105) = true := twx; clear twx; cases h1y : yk y 3
  ·rw [h1y] at twy; have ty : (xI (zP y) 105 == 105) = false := twy; clear twy; obtain ⟨rfl, rfl, rfl⟩ := yd Fin.out (yh (T := 0) (ER := 9) uW_ uj_); clear Fin
   go_wp2_with ((go_at_call 159; ((with_reducible refine (zt _ _ _).mono ?_); rintro e w' ⟨rfl, rfl⟩)))
   exact qX_ oL_ rfl ⟨rfl, hbs.out, hgx⟩
  ·rw [h1y] at twy; have ty : (xI (zP y) 105 == 105) = true := twy; clear twy; obtain ⟨rfl, rfl, rfl⟩ := yd Fin.out (yh (T := 3) (ER := 0) uW_ uj_); clear Fin
   go_wp2_with ((go_at_call 159; ((with_reducible refine (zt _ _ _).mono ?_); rintro e w' ⟨rfl, rfl⟩)))
   exact qX_ oL_ rfl ⟨rfl, hbs.out, hgx⟩) : p := h
theorem u0_ (h : p := by
 obtain ⟨x, y, rfl⟩ : ∃ x y, ts = [x, y] := PR vp_; have hx := Hty.out x uY_; have hy := Hty.out y uY_; have c0 := hcell 0 x rfl; have cn0 : ∀ n, (wr.drewN n).cell? ⟨gt, 0, none⟩ = some (.int .u8 (zP x)) := fun _ => c0
 have c1 := hcell 1 y rfl; have cn1 : ∀ n, (wr.drewN n).cell? ⟨gt, 1, none⟩ = some (.int .u8 (zP y)) := fun _ => c1
 simp only [List.length_cons, List.length_nil] at htl hct ⊢; subst htl; have twx := xA hx (.inl rfl : (2:Int) = 2 \/ (2:Int) = 3 \/ (2:Int) = 4); have twy := xA hy (.inl rfl : (2:Int) = 2 \/ (2:Int) = 3 \/ (2:Int) = 4); cases h1x : yk x 2
 ·rw [h1x] at twx; have tx : (xI (zP x) 98 == 98) = false := twx; clear twx; obtain ⟨rfl, rfl, rfl⟩ := yd Fin.out (yh (T := 0) (ER := 9) uW_ uH_); clear Fin
  go_wp2_with ((go_at_call 159; ((with_reducible refine (zt _ _ _).mono ?_); rintro e w' ⟨rfl, rfl⟩)))
  exact qX_ oL_ rfl ⟨rfl, hbs.out, hgx⟩
 ·rw [h1x] at twx; have tx : (xI (zP x) 98 == 98) = true := twx; clear twx; cases h1y : yk y 2
  ·rw [h1y] at twy; have ty : (xI (zP y) 98 == 98) = false := twy; clear twy; obtain ⟨rfl, rfl, rfl⟩ := yd Fin.out (yh (T := 0) (ER := 9) uW_ uj_); clear Fin
   go_wp2_with ((go_at_call 159; ((with_reducible refine (zt _ _ _).mono ?_); rintro e w' ⟨rfl, rfl⟩)))
   exact qX_ oL_ rfl ⟨rfl, hbs.out, hgx⟩
  ·rw [h1y] at twy; have ty : (xI (zP y) 98 == 98) = true := twy; clear twy; obtain ⟨rfl, rfl, rfl⟩ := yd Fin.out (yh (T := 2) (ER := 0) uW_ uj_); clear Fin
   go_wp2_with ((go_at_call 159; ((with_reducible refine (zt _ _ _).mono ?_); rintro e w' ⟨rfl, rfl⟩)))
   exact qX_ oL_ rfl ⟨rfl, hbs.out, hgx⟩) : p := h
theorem u2_ (h : p := by
 go_enter Tryz.func135, Tryz.ntmps135; go_upto_region 9 with (go_at_call 158; ((with_reducible refine (qW _ _).mono ?_); rintro en w' ⟨rfl, hg⟩; obtain ⟨hc, hf, hz⟩ := hg.rules)); refine zc (fun W => zb W w.heap.size 35 #[.int .i64 2, .int .i64 e.v.k, .int .i64 e.v.n, .string e.v.s, .int .i64 e.col, .slice e.A 0 e.cap] /\ zb W g 165 #[.slice Ac cols.length cc, .int .i64 (m + 1)] /\ GX g w W) ⟨(zb.new' _ _ _ uY_).grow hg, ((hb.set 1 _).al _).grow hg, (((GX.refl g w).set 1 _).al _).grow hg⟩ ?_; clear c f hb hg hc hf hz; rintro W ⟨B, hb, hg⟩; obtain ⟨cb, fb⟩ := B.rules; obtain ⟨c, f⟩ := hb.rules; have lB := B.lt; have lb := hb.lt; go_wp2; refine zc (fun W => zb W w.heap.size 35 #[.int .i64 2, .int .i64 e.v.k, .int .i64 e.v.n, .string e.v.s, .int .i64 e.col, .slice e.A 0 e.cap] /\ zb W g 165 #[.slice Ac cols.length cc, .int .i64 (m + 1)] /\ GX g w W) ⟨B.al _, hb.al _, hg.al _⟩ ?_; clear cb fb c f lB lb B hb hg; rintro W ⟨B, hb, hg⟩; obtain ⟨cb, fb⟩ := B.rules; obtain ⟨c, f⟩ := hb.rules; refine wp_loop_rounds 1 ?_; rw [rounds_succ]; go_wp2
 go_quiet (fail)
 go_wp2; exact qX_ vG_ rfl ⟨rfl, hb, hg.drewN _⟩) : p := h
theorem xn_ (h : p := by
 go_enter Tryz.func135, Tryz.ntmps135; go_wp2; exact qX_ vG_ rfl ⟨rfl, (hb.set 1 _).al _, ((GX.refl g w).set 1 _).al _⟩) : p := h
end Go
namespace Go.Proofs.YtflggnopgnoeiaaGreat
open Go.RowKit Go.Calm
def zaE (cols : List Int) (Ac : Option Addr) (cc : Nat) (e : E) : Prop := ∀ (g : Nat) (deep m : Int) (w0 w : World), EX w0 e -> yU w0 Ac cols -> za w0 w -> w0.heap.size <= g ->
 zb w g 165 #[.slice Ac cols.length cc, .int .i64 m] -> 0 <= m -> m <= 200 -> 1 <= deep -> deep <= 21 ->
 Calls Tryz.prog 135 #[.pointer (some ⟨g, 0, none⟩), e.val, .int .i64 deep] w fun en w' =>
  en = .returned (.tuple #[.int .u8 (xu (yw cols e deep m).1 (yw cols e deep m).2.1), .int .i64 (yw cols e deep m).2.1]) /\ zb w' g 165 #[.slice Ac cols.length cc, .int .i64 (yw cols e deep m).2.2] /\ GX g w w'
theorem MA (cols : List Int) (Ac : Option Addr) (cc : Nat) (e : E) (g : Nat) (deep m : Int) (w : World) (hb : zb w g 165 #[.slice Ac cols.length cc, .int .i64 m]) (h0 : 0 <= m) (h1 : m <= 200) (h : 200 < m + 1 \/ 20 < deep) :
 Calls Tryz.prog 135 #[.pointer (some ⟨g, 0, none⟩), e.val, .int .i64 deep] w fun en w' =>
  en = .returned (.tuple #[.int .u8 0, .int .i64 4]) /\ zb w' g 165 #[.slice Ac cols.length cc, .int .i64 (m + 1)] /\ GX g w w' := by
 have hgN := hb.lt; have hgn : g ≠ w.heap.size := by omega
 obtain ⟨c, f⟩ := hb.rules
 have d : (decide (200 < m + 1) = true) \/ (decide (200 < m + 1) = false /\ decide (20 < deep) = true) := wD_
 clear h; unfold E.val; rcases d with d1 | ⟨d1, d2⟩
 ·exact xn_
 ·exact xn_
theorem Mz (cols : List Int) (Ac : Option Addr) (cc : Nat) (e : E) (g : Nat) (deep m : Int) (w : World) (hb : zb w g 165 #[.slice Ac cols.length cc, .int .i64 m]) (h0 : 0 <= m) (d1 : decide (200 < m + 1) = false) (d2 : decide (20 < deep) = false) (hn : e.n <= maxLen) (h : zl e.kind < 0 \/ ¬ zl e.kind < 0 /\ (e.n : Int) ≠ zl e.kind) :
 Calls Tryz.prog 135 #[.pointer (some ⟨g, 0, none⟩), e.val, .int .i64 deep] w fun en w' =>
  en = .returned (.tuple #[.int .u8 0, .int .i64 (if zl e.kind < 0 then 1 else 5)]) /\ zb w' g 165 #[.slice Ac cols.length cc, .int .i64 (m + 1)] /\ GX g w w' := by
 have hgN := hb.lt; have hgn : g ≠ w.heap.size := by omega
 obtain ⟨c, f⟩ := hb.rules; have hm : m + 1 <= 200 := by simp at d1; omega
 have d : (decide (zl e.kind < 0) = true) \/ (decide (zl e.kind < 0) = false /\ ((e.n : Int) != zl e.kind) = true) := wW_
 clear h; rcases d with d3 | ⟨d3, d4⟩
 ·have e1 : (if zl e.kind < 0 then (1 : Int) else 5) = 1 := if_pos uy_; rw [e1]; clear e1; unfold E.val; go_enter Tryz.func135, Tryz.ntmps135
  go_wp2_with ((go_at_call 158; ((with_reducible refine (qW _ _).mono ?_); rintro e w' ⟨rfl, hg⟩; obtain ⟨hc, hf, hz⟩ := hg.rules)))
  exact qX_ vG_ rfl ⟨rfl, ((hb.set 1 _).al _).grow hg, (((GX.refl g w).set 1 _).al _).grow hg⟩
 ·have e1 : (if zl e.kind < 0 then (1 : Int) else 5) = 5 := if_neg uy_; rw [e1]; clear e1; unfold E.val; go_enter Tryz.func135, Tryz.ntmps135
  go_wp2_with ((go_at_call 158; ((with_reducible refine (qW _ _).mono ?_); rintro e w' ⟨rfl, hg⟩; obtain ⟨hc, hf, hz⟩ := hg.rules)))
  exact qX_ vG_ rfl ⟨rfl, ((hb.set 1 _).al _).grow hg, (((GX.refl g w).set 1 _).al _).grow hg⟩
theorem EK (cols : List Int) (Ac : Option Addr) (cc : Nat) (e : E) (g : Nat) (deep m : Int) (w : World) (hb : zb w g 165 #[.slice Ac cols.length cc, .int .i64 m]) (h0 : 0 <= m) (d1 : decide (200 < m + 1) = false) (d2 : decide (20 < deep) = false) (hk : e.kind = 1) (hn : e.n = 0) :
 Calls Tryz.prog 135 #[.pointer (some ⟨g, 0, none⟩), e.val, .int .i64 deep] w fun en w' =>
  en = .returned (.tuple #[.int .u8 (xu e.v.k (zY e.v)), .int .i64 (zY e.v)]) /\ zb w' g 165 #[.slice Ac cols.length cc, .int .i64 (m + 1)] /\ GX g w w' := by
 have hgN := hb.lt; have hgn : g ≠ w.heap.size := by omega
 obtain ⟨c, f⟩ := hb.rules; have hm : m + 1 <= 200 := by simp at d1; omega
 have kn : zl 1 = 0 := rfl; unfold E.val; rw [hk, hn]; clear hk hn
 by_cases hw : zY e.v = 0
 ·have hty := KL hw; have hty1 : 0 <= e.v.k := by have := hty.1; omega
  have hty2 : e.v.k <= 4 := hty.2; clear hty; rw [show xu e.v.k (zY e.v) = zP e.v.k by simp [xu, hw]]; have dw : (zY e.v != 0) = false := by simpa using hw
  rw [hw]; clear hw; go_enter Tryz.func135, Tryz.ntmps135; go_upto_region 9 with (go_at_call 158; ((with_reducible refine (qW _ _).mono ?_); rintro en w' ⟨rfl, hg⟩; obtain ⟨hc, hf, hz⟩ := hg.rules)); refine zc (fun W => zb W w.heap.size 35 #[.int .i64 1, .int .i64 e.v.k, .int .i64 e.v.n, .string e.v.s, .int .i64 e.col, .slice e.A 0 e.cap] /\ zb W g 165 #[.slice Ac cols.length cc, .int .i64 (m + 1)] /\ GX g w W) ⟨(zb.new' _ _ _ uY_).grow hg, ((hb.set 1 _).al _).grow hg, (((GX.refl g w).set 1 _).al _).grow hg⟩ ?_; clear c f hb hg hc hf hz; rintro W ⟨B, hb, hg⟩; obtain ⟨cb, fb⟩ := B.rules; obtain ⟨c, f⟩ := hb.rules; have lB := B.lt; have lb := hb.lt; go_wp2; refine zc (fun W => zb W w.heap.size 35 #[.int .i64 1, .int .i64 e.v.k, .int .i64 e.v.n, .string e.v.s, .int .i64 e.col, .slice e.A 0 e.cap] /\ zb W g 165 #[.slice Ac cols.length cc, .int .i64 (m + 1)] /\ GX g w W) ⟨B.al _, hb.al _, hg.al _⟩ ?_; clear cb fb c f lB lb B hb hg; rintro W ⟨B, hb, hg⟩; obtain ⟨cb, fb⟩ := B.rules; obtain ⟨c, f⟩ := hb.rules; refine wp_loop_rounds 1 ?_; rw [rounds_succ]
  go_wp2_with (first | (go_at_call 109; ((with_reducible refine (qi e.v _).mono ?_); rintro en w2 ⟨rfl, hg2⟩; replace B := B.grow hg2; replace hb := hb.grow hg2; replace hg := hg.grow hg2; clear cb fb c f hg2; obtain ⟨cb, fb⟩ := B.rules; obtain ⟨c, f⟩ := hb.rules)) | (go_at_call 136; ((with_reducible refine (XJ _ hty1 hty2 _).mono ?_); rintro e w' ⟨rfl, rfl⟩)))
  exact qX_ vG_ rfl ⟨rfl, hb, hg⟩
 ·rw [show xu e.v.k (zY e.v) = 0 by simp [xu, hw]]; have dw : (zY e.v != 0) = true := by simpa using hw
  clear hw; go_enter Tryz.func135, Tryz.ntmps135; go_upto_region 9 with (go_at_call 158; ((with_reducible refine (qW _ _).mono ?_); rintro en w' ⟨rfl, hg⟩; obtain ⟨hc, hf, hz⟩ := hg.rules)); refine zc (fun W => zb W w.heap.size 35 #[.int .i64 1, .int .i64 e.v.k, .int .i64 e.v.n, .string e.v.s, .int .i64 e.col, .slice e.A 0 e.cap] /\ zb W g 165 #[.slice Ac cols.length cc, .int .i64 (m + 1)] /\ GX g w W) ⟨(zb.new' _ _ _ uY_).grow hg, ((hb.set 1 _).al _).grow hg, (((GX.refl g w).set 1 _).al _).grow hg⟩ ?_; clear c f hb hg hc hf hz; rintro W ⟨B, hb, hg⟩; obtain ⟨cb, fb⟩ := B.rules; obtain ⟨c, f⟩ := hb.rules; have lB := B.lt; have lb := hb.lt; go_wp2; refine zc (fun W => zb W w.heap.size 35 #[.int .i64 1, .int .i64 e.v.k, .int .i64 e.v.n, .string e.v.s, .int .i64 e.col, .slice e.A 0 e.cap] /\ zb W g 165 #[.slice Ac cols.length cc, .int .i64 (m + 1)] /\ GX g w W) ⟨B.al _, hb.al _, hg.al _⟩ ?_; clear cb fb c f lB lb B hb hg; rintro W ⟨B, hb, hg⟩; obtain ⟨cb, fb⟩ := B.rules; obtain ⟨c, f⟩ := hb.rules; refine wp_loop_rounds 1 ?_; rw [rounds_succ]
  go_wp2_with (go_at_call 109; ((with_reducible refine (qi e.v _).mono ?_); rintro en w2 ⟨rfl, hg2⟩; replace B := B.grow hg2; replace hb := hb.grow hg2; replace hg := hg.grow hg2; clear cb fb c f hg2; obtain ⟨cb, fb⟩ := B.rules; obtain ⟨c, f⟩ := hb.rules))
  exact qX_ vG_ rfl ⟨rfl, hb, hg⟩
theorem GX.cell {g : Nat} {a b : World} (h : GX g a b) {k o : Nat} {v : Value} (hc : a.cell? ⟨k, o, none⟩ = some v) (hne : k ≠ g) : b.cell? ⟨k, o, none⟩ = some v := World.grownBy.cell h hc us_
theorem DT (t : Int) (h1 : 0 <= t) (h2 : t <= 4) (w : World) : Calls Tryz.prog 136 #[.int .i64 t] w fun e w' => e = .returned (.int .u8 (zP t)) /\ w' = w := (XJ t h1 h2 w).mono fun _ _ ⟨h1, h2⟩ => ⟨h1, h2.symm⟩
theorem Ku (a b : Int) (w : World) : Calls Tryz.prog 159 #[.int .u8 a, .int .u8 b] w fun e w' => e = .returned (.int .u8 (xI a b)) /\ w' = w := (zt a b w).mono fun _ _ ⟨h1, h2⟩ => ⟨h1, h2.symm⟩
theorem Bc (cols : List Int) (Ac : Option Addr) (cc : Nat) (e : E) (g : Nat) (deep m : Int) (w : World) (hb : zb w g 165 #[.slice Ac cols.length cc, .int .i64 m]) (h0 : 0 <= m) (d1 : decide (200 < m + 1) = false) (d2 : decide (20 < deep) = false) (hk : e.kind = 2) (hn : e.n = 0) (h : e.col < 0 \/ (cols.length : Int) <= e.col) :
 Calls Tryz.prog 135 #[.pointer (some ⟨g, 0, none⟩), e.val, .int .i64 deep] w fun en w' =>
  en = .returned (.tuple #[.int .u8 0, .int .i64 7]) /\ zb w' g 165 #[.slice Ac cols.length cc, .int .i64 (m + 1)] /\ GX g w w' := by
 have hgN := hb.lt; have hgn : g ≠ w.heap.size := by omega
 obtain ⟨c, f⟩ := hb.rules; have hm : m + 1 <= 200 := by simp at d1; omega
 have kn : zl 2 = 0 := rfl; unfold E.val; rw [hk, hn]
 have d : decide (e.col < 0) = true \/ decide (e.col < 0) = false /\ decide ((cols.length : Int) <= e.col) = true := wD_
 clear h hk hn; rcases d with d3 | ⟨d3, d4⟩
 ·exact u2_
 ·exact u2_
theorem EJ (cols : List Int) (Ac : Option Addr) (cc : Nat) (e : E) (g : Nat) (deep m : Int) (w : World) (hb : zb w g 165 #[.slice Ac cols.length cc, .int .i64 m]) (h0 : 0 <= m) (d1 : decide (200 < m + 1) = false) (d2 : decide (20 < deep) = false) (hk : e.kind = 2) (hn : e.n = 0) (hcol : 0 <= e.col) (hlt : e.col < (cols.length : Int)) (hlen : cols.length <= 9223372036854775807) (hall : cols.all xR = true) (hi : yU w Ac cols) (hga : ∀ a : Addr, Ac = some a -> a.block ≠ g) :
 Calls Tryz.prog 135 #[.pointer (some ⟨g, 0, none⟩), e.val, .int .i64 deep] w fun en w' =>
  en = .returned (.tuple #[.int .u8 (zP (cols.getD e.col.toNat 0)), .int .i64 0]) /\ zb w' g 165 #[.slice Ac cols.length cc, .int .i64 (m + 1)] /\ GX g w w' := by
 have hgN := hb.lt; have hgn : g ≠ w.heap.size := by omega
 obtain ⟨j, hj⟩ : ∃ j : Nat, e.col = j := ⟨e.col.toNat, by omega⟩
 have hjl : j < cols.length := by omega
 have hjv : cols[j]? = some (cols.getD e.col.toNat 0) := by rw [hj]; simp [hjl]
 obtain ⟨ga, oa, rfl, ca⟩ := hi j _ hjv; have hne : ga ≠ g := hga _ rfl
 have hty : 0 <= cols.getD e.col.toNat 0 /\ cols.getD e.col.toNat 0 <= 4 := by
  have := List.all_eq_true.1 hall _ (qZ_ hjv); simp only [xR, Bool.and_eq_true, decide_eq_true_eq] at this; omega
 generalize cols.getD e.col.toNat 0 = t at *; have hgaN : ga < w.heap.size := za.lt ca; obtain ⟨c, f⟩ := hb.rules; have hm : m + 1 <= 200 := by simp at d1; omega
 have kn : zl 2 = 0 := rfl; unfold E.val; rw [hk, hn, hj]; have d3 : decide ((j : Int) < 0) = false := by simp
 have d4 : decide ((cols.length : Int) <= (j : Int)) = false := by simp; omega
 clear hk hn hj hjv hlt hcol hi hga hall; go_enter Tryz.func135, Tryz.ntmps135; go_upto_region 9 with (go_at_call 158; ((with_reducible refine (qW _ _).mono ?_); rintro en w' ⟨rfl, hg⟩; obtain ⟨hc, hf, hz⟩ := hg.rules)); refine zc (fun W => W.cell? ⟨ga, oa + j, none⟩ = some (.int .i64 t) /\ zb W w.heap.size 35 #[.int .i64 2, .int .i64 e.v.k, .int .i64 e.v.n, .string e.v.s, .int .i64 j, .slice e.A 0 e.cap] /\ zb W g 165 #[.slice (some ⟨ga, oa, none⟩) cols.length cc, .int .i64 (m + 1)] /\ GX g w W) ⟨?_, (zb.new' _ _ _ uY_).grow hg, ((hb.set 1 _).al _).grow hg, (((GX.refl g w).set 1 _).al _).grow hg⟩ ?_
 ·exact GX.cell ((((GX.refl g w).set 1 _).al _).grow hg) ca hne
 clear c f hb hg hc hf hz ca; rintro W ⟨ca, B, hb, hg⟩; obtain ⟨cb, fb⟩ := B.rules; obtain ⟨c, f⟩ := hb.rules; have lB := B.lt; have lb := hb.lt; go_wp2; refine zc (fun W => W.cell? ⟨ga, oa + j, none⟩ = some (.int .i64 t) /\ zb W w.heap.size 35 #[.int .i64 2, .int .i64 e.v.k, .int .i64 e.v.n, .string e.v.s, .int .i64 j, .slice e.A 0 e.cap] /\ zb W g 165 #[.slice (some ⟨ga, oa, none⟩) cols.length cc, .int .i64 (m + 1)] /\ GX g w W) ⟨(GX.refl g _).al _ |>.cell ca hne, B.al _, hb.al _, hg.al _⟩ ?_; clear cb fb c f lB lb B hb hg ca; rintro W ⟨ca, B, hb, hg⟩; obtain ⟨cb, fb⟩ := B.rules; obtain ⟨c, f⟩ := hb.rules; refine wp_loop_rounds 1 ?_; rw [rounds_succ]; go_wp2
 go_quiet (fail)
 go_wp2; refine zc (fun W => W.cell? ⟨ga, oa + j, none⟩ = some (.int .i64 t) /\ zb W w.heap.size 35 #[.int .i64 2, .int .i64 e.v.k, .int .i64 e.v.n, .string e.v.s, .int .i64 j, .slice e.A 0 e.cap] /\ zb W g 165 #[.slice (some ⟨ga, oa, none⟩) cols.length cc, .int .i64 (m + 1)] /\ GX g w W) ⟨ca, B, hb, hg.drewN _⟩ ?_; clear cb fb c f B hb hg ca; rintro W ⟨ca, B, hb, hg⟩; obtain ⟨cb, fb⟩ := B.rules; obtain ⟨c, f⟩ := hb.rules; have lq := fun W => DT t hty.1 hty.2 W
 go_quiet ((go_at_call 136; exact Calls.quiet_of_same (lq _)))
 go_wp2; exact qX_ vG_ rfl ⟨rfl, hb, hg.drewN _⟩
theorem GH : (Tryz.prog.info? 5).map (fun i => (i.zero, i.size, i.bytes)) = some (some (.int .u8 0), 1, 1) := by kernel_rfl
theorem Dw : ∃ i, Tryz.prog.info? 5 = some i /\ i.zero = some (.int .u8 0) /\ i.size = 1 /\ i.bytes = 1 := by
 have h := GH; cases hi : Tryz.prog.info? 5 with
 | none => rw [hi] at h; simp at h
 | some i => rw [hi] at h; simp at h; exact ⟨i, rfl, h.1, h.2.1, h.2.2⟩
abbrev Wm (w : World) (B : Nat) (t : Value) (ts : List Int) : Prop := w.ownsRow B 5 1 t ts.length (ts.map (fun x => Value.int .u8 (zP x)))
theorem Wm.cells {w : World} {B : Nat} {t : Value} {ts : List Int} (h : Wm w B t ts) (h1 : ts ≠ []) : ∃ g cap, t = .slice (some ⟨g, 0, none⟩) ts.length cap /\ ts.length <= cap /\ ∀ (i : Nat) (x : Int), ts[i]? = some x -> w.cell? ⟨g, i, none⟩ = some (.int .u8 (zP x)) := by
 obtain ⟨_, h⟩ := h; rcases h with ⟨_, h0⟩ | ⟨g, cap, cur, rfl, hB, hg, hle, hmx, hcs, htk⟩
 ·exact absurd (List.length_eq_zero_iff.1 h0) h1
 ·refine ⟨g, cap, rfl, hle, fun i x hx => ?_⟩; have hi : i < ts.length := (qQ9.1 hx).1; have hb : zb w g 5 cur := hg; rw [hb.cell i]; have e : (ts.map (fun x => Value.int .u8 (zP x)))[i]? = some (.int .u8 (zP x)) := by simp [hx]
  rw [<- htk, List.getElem?_take] at e; simpa [hi] using e
theorem Wm.kept {w w' : World} {B g : Nat} {t : Value} {ts : List Int} (h : Wm w B t ts) (hg : GX g w w') (hlt : g < B) : Wm w' B t ts := World.ownsRow.kept h hg (QZ h hlt)
theorem yh {k : Int} {m : Int} {ts : List Int} {T ER : Int} (h16 : k ≠ 16) (h : zx k ts = (T, ER)) : jj k (0, m, ts) = (T, ER, m) := by
 simp [jj, h16, h]
theorem yd {r : Int × Int × Int} {T ER M T' ER' M' : Int} (h : r = (T, ER, M)) (h' : r = (T', ER', M')) : T = T' /\ ER = ER' /\ M = M' := by
 rw [h] at h'; simpa using h'
theorem zbb {k : Int} (h : 1 <= zl k) : k = 3 \/ k = 4 \/ k = 5 \/ (6 <= k /\ k <= 11) \/ k = 12 \/ k = 13 \/ k = 14 \/ k = 15 \/ k = 16 \/ k = 17 \/ k = 18 := x5_
theorem zb7 {ts : List Int} (h : ts.length = 1) : ∃ x, ts = [x] := by
 match ts, h with
 | [x], _ => exact ⟨x, rfl⟩
theorem PR {ts : List Int} (h : ts.length = 2) : ∃ x y, ts = [x, y] := by
 match ts, h with
 | [x, y], _ => exact ⟨x, y, rfl⟩
theorem zcR {ts : List Int} (h : ts.length = 3) : ∃ x y z, ts = [x, y, z] := by
 match ts, h with
 | [x, y, z], _ => exact ⟨x, y, z, rfl⟩
theorem Ba (cols : List Int) (Ac : Option Addr) (cc : Nat) (hall : cols.all xR = true) (k : Int) (v : V) (c : Int) (A : Option Addr) (n cap : Nat) (kid : Nat -> E) (ih : ∀ i, zaE cols Ac cc (kid i))
  (g : Nat) (deep m : Int) (w0 w : World) (hE : EX w0 (.mk k v c A n cap kid)) (hcols : yU w0 Ac cols) (hg0 : za w0 w) (hlt : w0.heap.size <= g)
  (hb : zb w g 165 #[.slice Ac cols.length cc, .int .i64 m]) (h0 : 0 <= m) (d1 : decide (200 < m + 1) = false) (d2 : decide (20 < deep) = false) (hd0 : 1 <= deep) (hkn : 1 <= zl k) (hn : (n : Int) = zl k)
  (T ER M : Int) (hT : jj k (zT (fun i m' => yw cols (kid i) (deep + 1) m') n 0 (m + 1) []) = (T, ER, M)) :
 Calls Tryz.prog 135 #[.pointer (some ⟨g, 0, none⟩), (E.mk k v c A n cap kid).val, .int .i64 deep] w fun en w' =>
  en = .returned (.tuple #[.int .u8 (xu T ER), .int .i64 ER]) /\ zb w' g 165 #[.slice Ac cols.length cc, .int .i64 M] /\ GX g w w' := by
 have Hb := hh_ hb; have HT := hh_ hT; have Hn := hh_ hn; have d3 : decide (zl k < 0) = false := by simp; omega
 have d4 : ((n : Int) != zl k) = false := by simpa using hn
 obtain ⟨cb, fb⟩ := hb.rules; have hgN : g < w.heap.size := hb.lt; have hgn : g ≠ w.heap.size := by omega
 have hn3 : n <= 3 := by have := JW k; omega
 have hm : m + 1 <= 200 := by simp at d1; omega
 have hd : deep <= 20 := by simp at d2; omega
 clear hT hn hb; unfold E.val; simp only [E.kind, E.v, E.col, E.A, E.n, E.cap]; go_enter Tryz.func135, Tryz.ntmps135; go_upto_region 9 with (go_at_call 158; ((with_reducible refine (qW _ _).mono ?_); rintro en w' ⟨rfl, hg⟩; obtain ⟨hc, hf, hz⟩ := hg.rules)); refine zc (fun W => zb W w.heap.size 35 #[.int .i64 k, .int .i64 v.k, .int .i64 v.n, .string v.s, .int .i64 c, .slice A n cap] /\ zb W g 165 #[.slice Ac cols.length cc, .int .i64 (m + 1)] /\ GX g w W) ⟨(zb.new' _ _ _ uY_).grow hg, ((Hb.out.set 1 _).al _).grow hg, (((GX.refl g w).set 1 _).al _).grow hg⟩ ?_; clear hg hc hf hz cb fb Hb; rintro W ⟨B, hb, hg⟩; obtain ⟨cb, fb⟩ := B.rules; have lB := B.lt; go_wp2
 go_loopw [9, 47] (fun t i wr => ∃ (j : Nat) (m' : Int) (ts : List Int), j <= n /\ i = .int .i64 j /\ Wm wr (w.heap.size + 1) t ts /\ zb wr g 165 #[.slice Ac cols.length cc, .int .i64 m'] /\ zb wr w.heap.size 35 #[.int .i64 k, .int .i64 v.k, .int .i64 v.n, .string v.s, .int .i64 c, .slice A n cap] /\ GX g w wr /\ 0 <= m' /\ m' <= 200 /\ ts.length = j /\ (∀ x ∈ ts, Ty x) /\
   zT (fun i m' => yw cols (kid i) (deep + 1) m') (n - j) j m' ts = zT (fun i m' => yw cols (kid i) (deep + 1) m') n 0 (m + 1) []) (fun _ i _ => n - (intOf i).toNat)
 case atStart => exact ⟨0, m + 1, [], Nat.zero_le _, rfl, World.ownsRow_made _ _ 0 uX_ (Nat.zero_le _) rfl, hb.al _, B.al _, hg.al _, by omega, by omega, rfl, by simp, rfl⟩
 case round =>
  obtain ⟨j, m', ts, hj, rfl, hown, hbr, hbx, hgx, hm0, hm1, htl, hty, hR⟩ := hrel; clear hg cb fb lB B hb; have hgw := GX.base hg0 hlt hgx; have hszr := hgx.size; have Own := hh_ hown; have HR := hh_ hR; have Hty := hh_ hty; have hbs := hh_ hbr; have hbb := hh_ hbx; obtain ⟨cb, fb⟩ := hbr.rules; obtain ⟨cx, fx⟩ := hbx.rules; clear hown hR hbr hbx hty; have Ti := hh_ Dw
  by_cases hlt2 : j < n
  ·obtain ⟨gk, ok, hA, hck, hEk⟩ : ∃ gk ok, A = some ⟨gk, ok, none⟩ /\ zF w0 gk (ok + j * 6) (kid j) /\ EX w0 (kid j) := by
    cases hE with
    | mk hn' hc hk hv hi =>
     obtain ⟨gk, ok, h1, h2⟩ := hc j hlt2; exact ⟨gk, ok, h1, h2, hk j hlt2⟩
   subst hA; obtain ⟨q1, q2, q3, hq⟩ : ∃ q1 q2 q3, yw cols (kid j) (deep + 1) m' = (q1, q2, q3) := ⟨_, _, _, rfl⟩
   have hbd := Uk cols (kid j) (deep + 1) m' hm1; have hqt := NW cols hall (kid j) (deep + 1) m'; have ihj := fun W (hG : za wr W) => ih j g (deep + 1) m' w0 W hEk hcols (hgw.trans hG) uP_ (hbs.out.grow hG) hm0 hm1 uX_ uX_
   rw [hq] at hbd ihj hqt; simp only at hbd ihj hqt; obtain ⟨k0, k1, k2, k3, k4, k5⟩ := hck.grow hgw; have Hq := hh_ hq; have Hqt := hh_ hqt; clear hq hck hEk hqt
   by_cases h2 : q2 = 0
   ·subst h2; have eL : xu q1 0 = zP q1 := by simp [xu]
    rw [eL] at ihj; clear eL; obtain ⟨ti, hi, hz0, hz1, hz2⟩ := Ti.out
    go_wp2_with (first
     | (at_builtin; refine wpList_append_own _ rfl _ _ 186 rfl (w.heap.size + 1) 5 ti (.int .u8 0) 1 1 Tryz.underlying186 hi hz0 hz1 hz2 rfl uW_ _ _ _ rfl (Own2.out.alloc _) ⟨w2.heap.size, 0, none⟩ 1 1 [.int .u8 (zP q1)] rfl rfl ?c1 ?c2 ?c3 ?c4 ?c5 ?_)
     | (go_at_call 135; ((with_reducible refine (ihj _ ze).mono ?_); rintro e w2 ⟨rfl, hb2, hg2⟩; have hG1 := (GX.refl g wr).grow ze |>.trans hg2; have Own2 := hh_ (Wm.kept Own.out hG1 uX_))))
    case c1 => exact wR_
    case c2 => exact x2_
    case c3 => exact yc_
    case c4 => omega
    case c5 => have := hg2.size; simp; simp at this; omega
    ·intro v' w3 hown' hgrow _; have Fin := hh_ (KA (F := fun i m' => yw cols (kid i) (deep + 1) m') (ts := ts) hlt2 Hq.out)
     have hb3 : zb w3 g 165 #[.slice Ac cols.length cc, .int .i64 q3] := by
      have h1 := hb2.al (.cells #[.int .u8 (zP q1)] 5); have h2 := h1.lt; unfold zb at h1 ⊢; rw [hgrow.block g h2 (fun e => by rcases QZ Own.out (by omega : g < w.heap.size + 1) with h | h <;> rw [<- e] at h <;> simp at h)]; exact h1
     have hx3 : zb w3 w.heap.size 35 #[.int .i64 k, .int .i64 v.k, .int .i64 v.n, .string v.s, .int .i64 c, .slice (some ⟨gk, ok, none⟩) n cap] := by
      have h1 := (GX.blk hG1 uX_ hbb.out).al (.cells #[.int .u8 (zP q1)] 5); have h2 := h1.lt; unfold zb at h1 ⊢; rw [hgrow.block w.heap.size h2 (fun e => by rcases QZ Own.out (by omega : w.heap.size < w.heap.size + 1) with h | h <;> rw [<- e] at h <;> simp at h)]; exact h1
     have hg3 : GX g w w3 := GX.own ((hgx.trans hG1).al _) hgrow (fun i hi => by have := (Own.out.lt i hi).1; omega); clear hgrow hb2 hg2 ihj hG1; go_wp2; go_roundw
     case rel => exact ⟨j + 1, q3, ts ++ [q1], by omega, by go_num, by unfold Wm; simpa [htl] using hown', hb3, hx3, hg3, by have := hbd.1; omega, by simpa using hbd.2.2, by simp [htl], (fun x hx => by
      rcases List.mem_append.1 hx with hx | hx
      ·exact Hty.out x hx
      ·simp at hx; subst hx; exact (by first | exact Hqt.out rfl | exact Hqt.out trivial)), by rw [<- Fin.out]; exact HR.out⟩
     case measure => exact u1_
   ·have dq : (q2 != 0) = true := by simpa using h2
    have fin : jj k (zT (fun i m' => yw cols (kid i) (deep + 1) m') n 0 (m + 1) []) = (0, q2, q3) := by
     rw [<- HR.out, Kz (F := fun i m' => yw cols (kid i) (deep + 1) m') hlt2 Hq.out h2]; simp [jj, h2]
    obtain ⟨rfl, rfl, rfl⟩ : T = 0 /\ ER = q2 /\ M = q3 := by simpa using HT.out.symm.trans fin
    have eL : ∀ t, xu t ER = 0 := fun t => by simp [xu, h2]
    rw [eL] at ihj; have Eh := hh_ h2; clear fin h2 eL
    go_wp2_with (go_at_call 135; ((with_reducible refine (ihj _ ze).mono ?_); rintro e w2 ⟨rfl, hb2, hg2⟩; have hG1 := (GX.refl g wr).grow ze |>.trans hg2))
    have eh := Eh.out; exact qX_ (by simp [results, Tryz.results135, go_sem, xu, eh]) rfl ⟨rfl, hb2, hgx.trans hG1⟩
  ·obtain rfl : j = n := by omega
   have fin : jj k (0, m', ts) = (T, ER, M) := xG_
   have Fin := hh_ fin; clear fin HT HR; obtain ⟨gt, capt, rfl, hct, hcell⟩ := Own.out.cells (by intro h; subst h; simp at htl; have := Hn.out; omega); rw [htl]; have hlen : (ts.length : Int) = zl k := by rw [htl]; exact Hn.out
   rcases zbb hkn with rfl | rfl | rfl | hk | rfl | rfl | rfl | rfl | rfl | rfl | rfl
   ·obtain ⟨x, rfl⟩ : ∃ x, ts = [x] := zb7 vo_; have hx := Hty.out x uY_; have c0 := hcell 0 x rfl; have cn0 : ∀ n, (wr.drewN n).cell? ⟨gt, 0, none⟩ = some (.int .u8 (zP x)) := fun _ => c0
    simp only [List.length_cons, List.length_nil] at htl hct ⊢; subst htl; have twx := xA hx (.inl rfl : (2:Int) = 2 \/ (2:Int) = 3 \/ (2:Int) = 4); cases h1x : yk x 2
    ·rw [h1x] at twx; have tx : (xI (zP x) 98 == 98) = false := twx; clear twx; obtain ⟨rfl, rfl, rfl⟩ := yd Fin.out (yh (T := 0) (ER := 9) uW_ uH_); clear Fin
     go_wp2_with ((go_at_call 159; ((with_reducible refine (zt _ _ _).mono ?_); rintro e w' ⟨rfl, rfl⟩)))
     exact qX_ oL_ rfl ⟨rfl, hbs.out, hgx⟩
    ·rw [h1x] at twx; have tx : (xI (zP x) 98 == 98) = true := twx; clear twx; obtain ⟨rfl, rfl, rfl⟩ := yd Fin.out (yh (T := 2) (ER := 0) uW_ uH_); clear Fin
     go_wp2_with ((go_at_call 159; ((with_reducible refine (zt _ _ _).mono ?_); rintro e w' ⟨rfl, rfl⟩)))
     exact qX_ oL_ rfl ⟨rfl, hbs.out, hgx⟩
   ·exact u0_
   ·exact u0_
   ·have hlen2 : zl k = 2 := by unfold zl; rw [if_neg uX_, if_neg uX_, if_pos uX_]
    obtain ⟨x, y, rfl⟩ : ∃ x y, ts = [x, y] := PR uX_; have hx := Hty.out x uY_; have hy := Hty.out y uY_; have c0 := hcell 0 x rfl; have cn0 : ∀ n, (wr.drewN n).cell? ⟨gt, 0, none⟩ = some (.int .u8 (zP x)) := fun _ => c0
    have c1 := hcell 1 y rfl; have cn1 : ∀ n, (wr.drewN n).cell? ⟨gt, 1, none⟩ = some (.int .u8 (zP y)) := fun _ => c1
    simp only [List.length_cons, List.length_nil] at htl hct ⊢; subst htl; have tt := NV hx hy; have e1 : (k == 1) = false := by simp; omega
    have e2 : (k == 2) = false := by simp; omega
    have e3 : (k == 3) = false := by simp; omega
    have e4 : (k == 4) = false := by simp; omega
    have e5 : (k == 5) = false := by simp; omega
    have e12 : (k == 12) = false := by simp; omega
    have e13 : (k == 13) = false := by simp; omega
    have e14 : (k == 14) = false := by simp; omega
    have e15 : (k == 15) = false := by simp; omega
    have e16 : (k == 16) = false := by simp; omega
    have e17 : (k == 17) = false := by simp; omega
    have e18 : (k == 18) = false := by simp; omega
    have h16 : k ≠ 16 := by omega
    have kc : zx k [x, y] = (if yk x y then (2, 0) else (0, 9)) := by unfold zx; rw [if_neg uX_, if_pos uX_]; rfl
    clear hk hkn hlen hlen2; cases h1 : yk x y
    ·rw [h1, if_neg uY_] at tt; obtain ⟨rfl, rfl, rfl⟩ := yd Fin.out (yh (T := 0) (ER := 9) h16 (by rw [kc, h1]; rfl)); clear Fin; go_wp2
     go_quiet ((go_at_call 159; exact Calls.quiet_of_same (Ku _ _ _)))
     go_wp2_with ((go_at_call 159; ((with_reducible refine (zt _ _ _).mono ?_); rintro e w' ⟨rfl, rfl⟩)))
     exact qX_ oL_ rfl ⟨rfl, hbs.out, hgx.drewN _⟩
    ·rw [h1, if_pos rfl] at tt; have tl : (zP (xm x y) != 0) = true := by simp [Nu]
     obtain ⟨rfl, rfl, rfl⟩ := yd Fin.out (yh (T := 2) (ER := 0) h16 (by rw [kc, h1]; rfl)); clear Fin; go_wp2
     go_quiet ((go_at_call 159; exact Calls.quiet_of_same (Ku _ _ _)))
     go_wp2_with ((go_at_call 159; ((with_reducible refine (zt _ _ _).mono ?_); rintro e w' ⟨rfl, rfl⟩)))
     exact qX_ oL_ rfl ⟨rfl, hbs.out, hgx.drewN _⟩
   ·exact uZ_
   ·exact uZ_
   ·exact uZ_
   ·obtain ⟨x, y, rfl⟩ : ∃ x y, ts = [x, y] := PR vp_; have hx := Hty.out x uY_; have hy := Hty.out y uY_; have c0 := hcell 0 x rfl; have cn0 : ∀ n, (wr.drewN n).cell? ⟨gt, 0, none⟩ = some (.int .u8 (zP x)) := fun _ => c0
    have c1 := hcell 1 y rfl; have cn1 : ∀ n, (wr.drewN n).cell? ⟨gt, 1, none⟩ = some (.int .u8 (zP y)) := fun _ => c1
    simp only [List.length_cons, List.length_nil] at htl hct ⊢; subst htl; have twx := xA hx (.inr (.inr rfl) : (4:Int) = 2 \/ (4:Int) = 3 \/ (4:Int) = 4); have twy := xA hy (.inr (.inr rfl) : (4:Int) = 2 \/ (4:Int) = 3 \/ (4:Int) = 4); cases h1x : yk x 4
    ·rw [h1x] at twx; have tx : (xI (zP x) 116 == 116) = false := twx; clear twx; obtain ⟨rfl, rfl, rfl⟩ := yd Fin.out (yh (T := 0) (ER := 9) uW_ uH_); clear Fin
     go_wp2_with ((go_at_call 159; ((with_reducible refine (zt _ _ _).mono ?_); rintro e w' ⟨rfl, rfl⟩)))
     exact qX_ oL_ rfl ⟨rfl, hbs.out, hgx⟩
    ·rw [h1x] at twx; have tx : (xI (zP x) 116 == 116) = true := twx; clear twx; cases h1y : yk y 4
     ·rw [h1y] at twy; have ty : (xI (zP y) 116 == 116) = false := twy; clear twy; obtain ⟨rfl, rfl, rfl⟩ := yd Fin.out (yh (T := 0) (ER := 9) uW_ uj_); clear Fin
      go_wp2_with ((go_at_call 159; ((with_reducible refine (zt _ _ _).mono ?_); rintro e w' ⟨rfl, rfl⟩)))
      exact qX_ oL_ rfl ⟨rfl, hbs.out, hgx⟩
     ·rw [h1y] at twy; have ty : (xI (zP y) 116 == 116) = true := twy; clear twy; obtain ⟨rfl, rfl, rfl⟩ := yd Fin.out (yh (T := 4) (ER := 0) uW_ uj_); clear Fin
      go_wp2_with ((go_at_call 159; ((with_reducible refine (zt _ _ _).mono ?_); rintro e w' ⟨rfl, rfl⟩)))
      exact qX_ oL_ rfl ⟨rfl, hbs.out, hgx⟩
   ·obtain ⟨x, rfl⟩ : ∃ x, ts = [x] := zb7 vo_; have hx := Hty.out x uY_; have c0 := hcell 0 x rfl; have cn0 : ∀ n, (wr.drewN n).cell? ⟨gt, 0, none⟩ = some (.int .u8 (zP x)) := fun _ => c0
    simp only [List.length_cons, List.length_nil] at htl hct ⊢; subst htl; obtain ⟨rfl, rfl, rfl⟩ := yd Fin.out (show jj 16 (0, m', [x]) = (2, 0, m') by simp [jj]); clear Fin; go_wp2; exact qX_ oL_ rfl ⟨rfl, hbs.out, hgx⟩
   ·obtain ⟨x, y, z, rfl⟩ : ∃ x y z, ts = [x, y, z] := zcR (by have : (ts.length : Int) = 3 := hlen; omega); have hx := Hty.out x uY_; have hy := Hty.out y uY_; have hz := Hty.out z uY_; have c0 := hcell 0 x rfl; have cn0 : ∀ n, (wr.drewN n).cell? ⟨gt, 0, none⟩ = some (.int .u8 (zP x)) := fun _ => c0
    have c1 := hcell 1 y rfl; have cn1 : ∀ n, (wr.drewN n).cell? ⟨gt, 1, none⟩ = some (.int .u8 (zP y)) := fun _ => c1
    have c2 := hcell 2 z rfl; have cn2 : ∀ n, (wr.drewN n).cell? ⟨gt, 2, none⟩ = some (.int .u8 (zP z)) := fun _ => c2
    simp only [List.length_cons, List.length_nil] at htl hct ⊢; subst htl; have tt := NV hy hz; have twx := xA hx (.inl rfl : (2:Int) = 2 \/ (2:Int) = 3 \/ (2:Int) = 4); cases h1 : yk y z
    ·rw [h1, if_neg uY_] at tt; clear twx; obtain ⟨rfl, rfl, rfl⟩ := yd Fin.out (yh (T := 0) (ER := 9) uW_ (by simp [zx, h1])); clear Fin; go_wp2
     go_quiet ((go_at_call 159; exact Calls.quiet_of_same (Ku _ _ _)))
     go_wp2_with ((go_at_call 159; ((with_reducible refine (zt _ _ _).mono ?_); rintro e w' ⟨rfl, rfl⟩)))
     exact qX_ oL_ rfl ⟨rfl, hbs.out, hgx.drewN _⟩
    ·rw [h1, if_pos rfl] at tt; have tl : (zP (xm y z) != 0) = true := by simp [Nu]
     cases h1x : yk x 2
     ·rw [h1x] at twx; have tx : (xI (zP x) 98 == 98) = false := twx; clear twx; obtain ⟨rfl, rfl, rfl⟩ := yd Fin.out (yh (T := 0) (ER := 9) uW_ (by simp [zx, h1, h1x])); clear Fin; go_wp2
      go_quiet ((go_at_call 159; exact Calls.quiet_of_same (Ku _ _ _)))
      go_wp2_with ((go_at_call 159; ((with_reducible refine (zt _ _ _).mono ?_); rintro e w' ⟨rfl, rfl⟩)))
      exact qX_ oL_ rfl ⟨rfl, hbs.out, hgx.drewN _⟩
     ·rw [h1x] at twx; have tx : (xI (zP x) 98 == 98) = true := twx; clear twx; obtain ⟨rfl, rfl, rfl⟩ := yd Fin.out (yh (T := (xm y z)) (ER := 0) uW_ (by simp [zx, h1, h1x])); clear Fin; go_wp2
      go_quiet ((go_at_call 159; exact Calls.quiet_of_same (Ku _ _ _)))
      go_wp2_with ((go_at_call 159; ((with_reducible refine (zt _ _ _).mono ?_); rintro e w' ⟨rfl, rfl⟩)))
      exact qX_ oL_ rfl ⟨rfl, hbs.out, hgx.drewN _⟩
   ·obtain ⟨x, y, rfl⟩ : ∃ x y, ts = [x, y] := PR vp_; have hx := Hty.out x uY_; have hy := Hty.out y uY_; have c0 := hcell 0 x rfl; have cn0 : ∀ n, (wr.drewN n).cell? ⟨gt, 0, none⟩ = some (.int .u8 (zP x)) := fun _ => c0
    have c1 := hcell 1 y rfl; have cn1 : ∀ n, (wr.drewN n).cell? ⟨gt, 1, none⟩ = some (.int .u8 (zP y)) := fun _ => c1
    simp only [List.length_cons, List.length_nil] at htl hct ⊢; subst htl; have tt := NV hx hy; cases h1 : yk x y
    ·rw [h1, if_neg uY_] at tt; obtain ⟨rfl, rfl, rfl⟩ := yd Fin.out (yh (T := 0) (ER := 9) uW_ (by simp [zx, h1])); clear Fin; go_wp2
     go_quiet ((go_at_call 159; exact Calls.quiet_of_same (Ku _ _ _)))
     go_wp2_with ((go_at_call 159; ((with_reducible refine (zt _ _ _).mono ?_); rintro e w' ⟨rfl, rfl⟩)))
     exact qX_ oL_ rfl ⟨rfl, hbs.out, hgx.drewN _⟩
    ·rw [h1, if_pos rfl] at tt; have tl : (zP (xm x y) != 0) = true := by simp [Nu]
     obtain ⟨rfl, rfl, rfl⟩ := yd Fin.out (yh (T := (xm x y)) (ER := 0) uW_ (by simp [zx, h1])); clear Fin; go_wp2
     go_quiet ((go_at_call 159; exact Calls.quiet_of_same (Ku _ _ _)))
     go_wp2_with ((go_at_call 159; ((with_reducible refine (zt _ _ _).mono ?_); rintro e w' ⟨rfl, rfl⟩)))
     exact qX_ (by simp [results, Tryz.results135, go_sem, xu, tt]) rfl ⟨rfl, hbs.out, hgx.drewN _⟩
theorem EH (cols : List Int) (Ac : Option Addr) (cc : Nat) (hall : cols.all xR = true) (hlen : cols.length <= 9223372036854775807) (e : E) : zaE cols Ac cc e := by
 induction e with
 | leaf =>
  intro g deep m w0 w hE hcols hg0 hlt hb h0 h1 hd0 hd1; unfold yw
  by_cases hm : 200 < m + 1 \/ 20 < deep
  ·rw [if_pos hm]; exact MA cols Ac cc .leaf g deep m w hb h0 h1 hm
  ·rw [if_neg hm]; exact Mz cols Ac cc .leaf g deep m w hb h0 uN_ uN_ (Nat.zero_le _) (.inl uW_)
 | mk k v c A n cap kid ih =>
  intro g deep m w0 w hE hcols hg0 hlt hb h0 h1 hd0 hd1; have hn : n <= maxLen := by cases hE with | mk hn => exact hn
  by_cases hm : 200 < m + 1 \/ 20 < deep
  ·unfold yw; rw [if_pos hm]; exact MA cols Ac cc (.mk k v c A n cap kid) g deep m w hb h0 h1 hm
  ·have d1 : decide (200 < m + 1) = false := by simp; omega
   have d2 : decide (20 < deep) = false := by simp; omega
   by_cases hf : zl k < 0 \/ ¬ zl k < 0 /\ (n : Int) ≠ zl k
   ·have e : yw cols (.mk k v c A n cap kid) deep m = (0, if zl k < 0 then 1 else 5, m + 1) := by
     unfold yw; rw [if_neg hm]; rcases hf with hf | ⟨hf, hf2⟩
     ·exact yN_
     ·exact x4_
    rw [e]
    have e2 : xu 0 (if zl k < 0 then 1 else 5) = 0 := by
     unfold xu; rw [if_neg]; split <;> decide
    simp only [e2]; exact Mz cols Ac cc (.mk k v c A n cap kid) g deep m w hb h0 d1 d2 hn hf
   ·have hk0 : ¬ zl k < 0 := fun h => hf (.inl h)
    have hnk : (n : Int) = zl k := Classical.byContradiction fun h => hf (.inr ⟨hk0, h⟩)
    by_cases hz : zl k = 0
    ·have hn0 : n = 0 := by omega
     subst hn0; rcases YY hz with rfl | rfl
     ·have e : yw cols (.mk 1 v c A 0 cap kid) deep m = (v.k, zY v, m + 1) := by
       unfold yw; rw [if_neg hm, if_neg hk0, if_neg uX_]; simp [zT]
      rw [e]; exact EK cols Ac cc (.mk 1 v c A 0 cap kid) g deep m w hb h0 d1 d2 rfl rfl
     ·by_cases hc : c < 0 \/ (cols.length : Int) <= c
      ·have e : yw cols (.mk 2 v c A 0 cap kid) deep m = (0, 7, m + 1) := by
        unfold yw; rw [if_neg hm, if_neg hk0, if_neg uX_]; simp [zT, hc]
       rw [e]; exact Bc cols Ac cc (.mk 2 v c A 0 cap kid) g deep m w hb h0 d1 d2 rfl rfl hc
      ·have e : yw cols (.mk 2 v c A 0 cap kid) deep m = (cols.getD c.toNat 0, 0, m + 1) := by
        unfold yw; rw [if_neg hm, if_neg hk0, if_neg uX_]; simp only [zT]; rw [if_neg uY_, if_neg uW_, if_pos trivial, if_neg hc]
       rw [e]; have e2 : xu (cols.getD c.toNat 0) 0 = zP (cols.getD c.toNat 0) := by simp [xu]
       simp only [e2]; refine EJ cols Ac cc (.mk 2 v c A 0 cap kid) g deep m w hb h0 d1 d2 rfl rfl ?_ ?_ hlen hall (hcols.grow hg0) (fun a ha => ?_)
       ·show 0 <= c; omega
       ·show c < (cols.length : Int); omega
       ·exact w1_
    ·rw [ML cols k v c A n cap kid deep m hm uX_ hnk]; obtain ⟨T, ER, M, hT⟩ : ∃ T ER M, jj k (zT (fun i m' => yw cols (kid i) (deep + 1) m') n 0 (m + 1) []) = (T, ER, M) := ⟨_, _, _, rfl⟩
     rw [hT]; exact Ba cols Ac cc hall k v c A n cap kid ih g deep m w0 w hE hcols hg0 hlt hb h0 d1 d2 hd0 uX_ hnk T ER M hT
theorem DS {k T : Int} (h1 : 1 <= k) (h2 : k <= T) (hT : Ty T) : (zP k == zP T) = decide (k = T) := by
 have : k = 1 \/ k = 2 \/ k = 3 \/ k = 4 := by unfold Ty at hT; omega
 rcases hT.cases with rfl | rfl | rfl | rfl <;> rcases this with rfl | rfl | rfl | rfl <;> first | rfl | omega
theorem ZN (cols : List Int) (Ac : Option Addr) (cc : Nat) (e : E) (w : World) (hlen : cols.length <= 9223372036854775807) (hcols : yU w Ac cols) (hE : EX w e) :
  Calls Tryz.prog 76 #[.slice Ac cols.length cc, e.val] w fun en w' => en = .returned (.tuple #[.int .i64 (zD cols e).1, .int .i64 (zD cols e).2]) /\ za w w' := by
 have HE := hh_ hE; have Hcols := hh_ hcols; clear hE hcols
 by_cases h16 : 16 < cols.length
 ·have e1 : zD cols e = (0, 5) := by simp [zD, h16]
  rw [e1]; clear e1; have d1 : decide (16 < (cols.length : Int)) = true := by simp; omega
  clear h16; unfold E.val; go_enter Tryz.func76, Tryz.ntmps76; go_wp2; exact qX_ vK_ rfl ⟨rfl, ze⟩
 ·have d1 : decide (16 < (cols.length : Int)) = false := by simp; omega
  obtain ⟨T, ER, hT⟩ : ∃ T ER, zD cols e = (T, ER) := ⟨_, _, rfl⟩
  rw [hT]; have HT := hh_ hT; have H16 := hh_ h16; clear hT h16; unfold E.val; go_enter Tryz.func76, Tryz.ntmps76; go_wp2; refine zc (fun W => zb W w.heap.size 35 #[.int .i64 e.kind, .int .i64 e.v.k, .int .i64 e.v.n, .string e.v.s, .int .i64 e.col, .slice e.A e.n e.cap] /\ za w W) ⟨zb.new _ _ _, ze⟩ ?_; rintro W ⟨B, G⟩
  go_loopw [16] (fun i wr => ∃ k : Nat, k <= cols.length /\ i = .int .i64 k /\ (cols.take k).all xR = true /\ wr = W) (fun i _ => cols.length - (intOf i).toNat)
  case atStart => exact wS_
  case round =>
   obtain ⟨k, hk, rfl, hall, rfl⟩ := hrel; have Hall := hh_ hall; clear hall
   by_cases hlt : k < cols.length
   ·obtain ⟨x, hxk⟩ : ∃ x, cols[k]? = some x := ⟨_, qQ_ hlt⟩
    obtain ⟨g, o, rfl, c1⟩ := (Hcols.out.grow G) k x hxk; have Hxk := hh_ hxk; clear hxk; cases hr : xR x
    ·have fin : zD cols e = (0, 1) := by
      have := jr xR cols k x Hxk.out hr; unfold zD; rw [if_neg H16.out, if_pos this]
     obtain ⟨rfl, rfl⟩ : T = 0 /\ ER = 1 := by simpa using HT.out.symm.trans fin
     clear fin; rcases W2 hr with d2 | ⟨d2, d3⟩
     ·go_wp2; exact qX_ vK_ rfl ⟨rfl, ze⟩
     ·go_wp2; exact qX_ vK_ rfl ⟨rfl, ze⟩
    ·exact y1_
   ·have hall : cols.all xR = true := by
     have := Hall.out
     rwa [List.take_of_length_le uX_] at this
    obtain ⟨q1, q2, q3, hq⟩ : ∃ q1 q2 q3, yw cols e 1 0 = (q1, q2, q3) := ⟨_, _, _, rfl⟩
    have ct := fun W' (h1 : za wr W') hb => EH cols Ac cc hall hlen e wr.heap.size 1 0 wr W' (HE.out.grow G) (Hcols.out.grow G) h1 (Nat.le_refl _) hb uX_ uX_ uX_ uX_
    have hqt := NW cols hall e 1 0; rw [hq] at ct hqt; simp only at ct hqt; have Gs := G.size; obtain ⟨cb, fb⟩ := B.rules; have lB := B.lt
    by_cases h2 : q2 = 0
    ·have fin : zD cols e = (q1, 0) := by
      unfold zD; rw [if_neg H16.out, if_neg uO_, hq, if_neg uT_]
     obtain ⟨rfl, rfl⟩ : T = q1 /\ ER = 0 := by simpa using HT.out.symm.trans fin
     subst h2; have Hqt := hh_ (hqt rfl); have e2 : xu T 0 = zP T := by simp [xu]
     rw [e2] at ct; clear fin hq hall e2 hqt
     go_wp2_with (go_at_call 135; ((with_reducible refine (ct _ ((za.refl _).al _) (zb.new _ _ _)).mono ?_); rintro en w2 ⟨rfl, hb2, hg2⟩))
     go_loopw [10] (fun t w3 => ∃ k : Int, 1 <= k /\ k <= T /\ t = .int .i64 k /\ w3 = w2) (fun t _ => (5 - intOf t).toNat)
     case atStart => exact ⟨1, by omega, Hqt.out.1, rfl, rfl⟩
     case round =>
      obtain ⟨k, hk1, hk2, rfl, rfl⟩ := hrel; have hT4 : T <= 4 := Hqt.out.2; have d4 : decide (k <= 4) = true := by simp; omega
      have d5 := DS hk1 hk2 Hqt.out
      by_cases hkT : k = T
      ·have d6 : (zP k == zP T) = true := by rw [d5]; simpa using hkT
       clear d5; subst hkT
       go_wp2_with ((go_at_call 136; ((with_reducible refine (XJ _ uX_ uX_ _).mono ?_); rintro e w' ⟨rfl, rfl⟩)))
       exact qX_ vK_ rfl ⟨rfl, GX.base (G.al _) Gs hg2⟩
      ·have d6 : (zP k == zP T) = false := by rw [d5]; simpa using hkT
       clear d5
       go_wp2_with ((go_at_call 136; ((with_reducible refine (XJ _ uX_ uX_ _).mono ?_); rintro e w' ⟨rfl, rfl⟩)))
       go_roundw
       case rel => exact ⟨k + 1, by omega, by omega, by go_num, trivial⟩
       case measure => exact u1_
    ·have fin : zD cols e = (0, q2) := by
      unfold zD; rw [if_neg H16.out, if_neg uO_, hq, if_pos uT_]
     have dq : (q2 != 0) = true := by simpa using h2
     obtain ⟨rfl, rfl⟩ : T = 0 /\ ER = q2 := by simpa using HT.out.symm.trans fin
     clear fin hq hall h2 hqt
     go_wp2_with (go_at_call 135; ((with_reducible refine (ct _ ((za.refl _).al _) (zb.new _ _ _)).mono ?_); rintro en w2 ⟨rfl, hb2, hg2⟩))
     exact qX_ vK_ rfl ⟨rfl, GX.base (G.al _) Gs hg2⟩
