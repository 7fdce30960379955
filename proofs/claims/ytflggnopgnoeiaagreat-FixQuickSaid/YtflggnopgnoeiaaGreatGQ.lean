/- Parts of a proof. No condition. -/
import Derived.Test.YtflggnopgnoeiaaGreatGG
set_option maxRecDepth 100000
set_option maxHeartbeats 4000000
set_option maxRecDepth 100000
set_option linter.unusedSimpArgs false
set_option linter.unusedVariables false
namespace Go
variable {p : Prop}
theorem vn_ (h : p := by simp [results, Tryz.results123, go_sem, hc]) : p := h
theorem vs_ (h : p := by simp [results, Tryz.results67, go_sem, x3]) : p := h
theorem ur_ (h : p := by simpa using hlen) : p := h
theorem uD_ (h : p := by simpa using hw) : p := h
theorem uF_ (h : p := by simpa using h2) : p := h
theorem wq_ (h : p := by
 intro w1 hw1 hF K hK; obtain ⟨g, hpt, B⟩ := hF _ (List.mem_cons_self ..) ⟨_, rfl, by decide⟩; subst hpt; obtain ⟨z1, z2⟩ := B.rules; go_simp; exact hK _ (za.refl _)) : p := h
theorem wx_ (h : p := by
 intro w1 hw1 hF K hK; obtain ⟨g, hsl, B⟩ := hF _ (List.mem_cons_self ..) ⟨_, rfl, by decide⟩; subst hsl; go_simp; exact hK _ _ (za.refl _) ⟨_, rfl, B⟩) : p := h
theorem wG_ (h : p := by
 exact ⟨fun v w w' hg ⟨g, e, hb⟩ => ⟨g, e, hb.grow hg⟩, fun v w w' hg ⟨g, e, hb⟩ => ⟨g, e, hb.grow hg⟩, trivial⟩) : p := h
theorem xd_ (h : p := by
 exact ⟨k + 1, by omega, by go_num, Inv3.out, G2.drewN _⟩) : p := h
theorem xj_ (h : p := by
 have e : R = 0 := by
  have := xt.out; rw [List.drop_eq_nil_of_le uX_] at this; exact this.symm
 subst e; clear xt; go_wp2; go_ret; exact ⟨rfl, hg⟩) : p := h
theorem yU_ (h : p := by
 go_wp2_with ((go_at_call 113; ((with_reducible refine (jB x _).mono ?_); rintro en w2 ⟨rfl, hg2⟩; have Bx := zb.grow (zb.new wr 33 #[.int .i64 x.k, .int .i64 x.n, .string x.s]) hg2; have G2 := (hg.al _).trans hg2; obtain ⟨cx, fx⟩ := Bx.rules; clear c1 c2 c3 ct; have ct := G2.cell ht1)))
 go_quiet (fail)
 go_wp2; go_roundw
 case rel => exact xd_
 case measure => exact u1_) : p := h
theorem yW_ (h : p := by
 go_wp2_with ((go_at_call 109; ((with_reducible refine (qi x _).mono ?_); rintro en w2 ⟨rfl, hg2⟩; have G2 := hg.trans hg2; clear c1 c2 c3 ct; have ct := G2.cell ht1; have c1 := G2.cell hx1)))
 go_quiet (fail)
 go_wp2; go_roundw
 case rel => exact xd_
 case measure => exact u1_) : p := h
end Go
namespace Go.Proofs.YtflggnopgnoeiaaGreat
open Go.RowKit Go.Calm
theorem M9 (k : Int) (a b : V) (hk : 6 <= k /\ k <= 11) (w : World) : Calls Tryz.prog 123 #[.int .i64 k, a.val, b.val] w fun e w' => e = .returned (yC k a b).val /\ za w w' := by
 have : k = 6 \/ k = 7 \/ k = 8 \/ k = 9 \/ k = 10 \/ k = 11 := by omega
 have r1 := (zaL a b).rb; have r2 := (NH a b).rb; have r3 := (NH b a).rb; clear hk; rcases this with rfl | rfl | rfl | rfl | rfl | rfl
 ·rw [show yC 6 a b = Nb a b from rfl]; unfold V.val; go_enter Tryz.func123, Tryz.ntmps123
  go_wp2_with ((go_at_call 152; ((with_reducible refine (De a b _).mono ?_); rintro e w' ⟨rfl, hg⟩; obtain ⟨hc, hf, hz⟩ := hg.rules)))
  exact qX_ vn_ rfl ⟨rfl, ze⟩
 ·rw [show yC 7 a b = kN (Nb a b) from rfl]; unfold V.val; go_enter Tryz.func123, Tryz.ntmps123
  go_wp2_with (first | (go_at_call 152; ((with_reducible refine (De a b _).mono ?_); rintro e w' ⟨rfl, hg⟩; obtain ⟨hc, hf, hz⟩ := hg.rules)) | (go_at_call 116; ((with_reducible refine (He _ r1 _).mono ?_); rintro e w2' ⟨rfl, hg2⟩; replace hg := hg.trans hg2; clear hg2 hc hf hz; obtain ⟨hc, hf, hz⟩ := hg.rules)))
  exact qX_ vn_ rfl ⟨rfl, ze⟩
 ·rw [show yC 8 a b = qH a b from rfl]; unfold V.val; go_enter Tryz.func123, Tryz.ntmps123
  go_wp2_with ((go_at_call 153; ((with_reducible refine (Ql a b _).mono ?_); rintro e w' ⟨rfl, hg⟩; obtain ⟨hc, hf, hz⟩ := hg.rules)))
  exact qX_ vn_ rfl ⟨rfl, ze⟩
 ·rw [show yC 9 a b = kN (qH b a) from rfl]; unfold V.val; go_enter Tryz.func123, Tryz.ntmps123
  go_wp2_with (first | (go_at_call 153; ((with_reducible refine (Ql b a _).mono ?_); rintro e w' ⟨rfl, hg⟩; obtain ⟨hc, hf, hz⟩ := hg.rules)) | (go_at_call 116; ((with_reducible refine (He _ r3 _).mono ?_); rintro e w2' ⟨rfl, hg2⟩; replace hg := hg.trans hg2; clear hg2 hc hf hz; obtain ⟨hc, hf, hz⟩ := hg.rules)))
  exact qX_ vn_ rfl ⟨rfl, ze⟩
 ·rw [show yC 10 a b = qH b a from rfl]; unfold V.val; go_enter Tryz.func123, Tryz.ntmps123
  go_wp2_with ((go_at_call 153; ((with_reducible refine (Ql b a _).mono ?_); rintro e w' ⟨rfl, hg⟩; obtain ⟨hc, hf, hz⟩ := hg.rules)))
  exact qX_ vn_ rfl ⟨rfl, ze⟩
 ·rw [show yC 11 a b = kN (qH a b) from rfl]; unfold V.val; go_enter Tryz.func123, Tryz.ntmps123
  go_wp2_with (first | (go_at_call 153; ((with_reducible refine (Ql a b _).mono ?_); rintro e w' ⟨rfl, hg⟩; obtain ⟨hc, hf, hz⟩ := hg.rules)) | (go_at_call 116; ((with_reducible refine (He _ r2 _).mono ?_); rintro e w2' ⟨rfl, hg2⟩; replace hg := hg.trans hg2; clear hg2 hc hf hz; obtain ⟨hc, hf, hz⟩ := hg.rules)))
  exact qX_ vn_ rfl ⟨rfl, ze⟩
def OfC (row : List V) (A : Option Addr) (cr : Nat) (e : E) : Prop := ∀ (gx ox : Nat) (w0 w : World), EX w0 e -> zF w0 gx ox e -> xi w0 A row -> za w0 w ->
 Calls Tryz.prog 67 #[.pointer (some ⟨gx, ox, none⟩), .slice A row.length cr] w fun en w' => en = .returned (yu row e).val /\ za w w'
theorem zba (row : List V) (A : Option Addr) (cr : Nat) (e : E) (j : Nat) (iv : Int) (hiv : iv = j) (hj : j < e.n) (a : V) (ha : yu row (e.kid j) = a) (ih : OfC row A cr (e.kid j)) (gx ox b1 b2 : Nat) (w0 w : World) (hE : EX w0 e) (hx : zF w0 gx ox e) (hrow : xi w0 A row) (hg : za w0 w)
  (B1 : zb w b1 114 #[.pointer (some ⟨gx, ox, none⟩)]) (B2 : zb w b2 51 #[.slice A row.length cr]) :
  Calls Tryz.prog 114 #[.int .i64 iv, .pointer (some ⟨b1, 0, none⟩), .pointer (some ⟨b2, 0, none⟩)] w fun en w' => en = .returned a.val /\ za w w' := by
 subst hiv ha
 obtain ⟨gk, ok, hA, hck, hEk, hl⟩ : ∃ gk ok, e.A = some ⟨gk, ok, none⟩ /\ zF w0 gk (ok + j * 6) (e.kid j) /\ EX w0 (e.kid j) /\ e.n <= maxLen := by
  cases hE with
  | leaf => exact absurd hj (Nat.not_lt_zero _)
  | mk hn' hc hk hv hi =>
   obtain ⟨gk, ok, h1, h2⟩ := hc j hj; exact ⟨gk, ok, h1, h2, hk j hj, hn'⟩
 have hc5 := hx.c5; rw [hA] at hc5; have lt1 := B1.lt; have lt2 := B2.lt; have ct := fun W (h : za w0 W) => ih gk (ok + j * 6) w0 W hEk hck hrow h
 clear hE hx hck hEk ih; go_enter Tryz.func114, Tryz.ntmps114; go_wp2; refine zc (fun W => zb W w.heap.size 33 #[.int .i64 0, .int .i64 0, .string es] /\ za w W) ⟨zb.new _ _ _, (za.refl _).al _⟩ ?_; rintro W ⟨B, G⟩; apply wp_region_calm 8 uQ_ uQ_
 case h' =>
  intro Q0 hQ0; simp only [List.take_succ_cons, List.take_zero]
  repeat ((first | ((first | apply calm_p rfl | apply zu rfl rfl rfl); case h1 => (intro w1 hw1 hF K hK; obtain ⟨c1, f1⟩ := (zb.grow B1 (G.trans hw1)).rules; obtain ⟨c2, f2⟩ := (zb.grow B2 (G.trans hw1)).rules; have c5 := (hg.trans (G.trans hw1)).cell hc5; go_simp; first | exact hK _ (za.refl _) | (go_at_call 67; ((with_reducible refine (ct _ (hg.trans (G.trans hw1))).mono ?_); rintro e w' ⟨rfl, hg⟩; exact ⟨_, rfl, hK _ hg⟩)))) | apply zw rfl rfl rfl rfl); intro K hK; go_simp; apply hK; clear hK K)
  refine calm_nil ?_; intro w1 hw1 hF; apply hQ0; clear hQ0; simp only [List.drop_succ_cons, List.drop_zero]; clear hF; obtain ⟨cb, fb⟩ := (zb.grow B hw1).rules; go_wp2; exact qX_ (by simp [results, Tryz.results114, go_sem, cb]) rfl ⟨rfl, ze⟩
 case hp' => trivial
structure jN (W : World) (b : Nat) (gx ox : Nat) (A : Option Addr) (n cr : Nat) : Prop where
 b1 : zb W b 114 #[.pointer (some ⟨gx, ox, none⟩)]
 b2 : zb W (b + 1) 51 #[.slice A n cr]
 b3 : zb W (b + 2) 33 #[.int .i64 0, .int .i64 0, .string es]
abbrev KC (row : List V) (A : Option Addr) (cr gx ox : Nat) (w : World) (i : Int) (v : V) : Prop := ∀ W, jN W w.heap.size gx ox A row.length cr -> za w W -> Calls Tryz.prog 114 #[.int .i64 i, .pointer (some ⟨w.heap.size, 0, none⟩), .pointer (some ⟨w.heap.size + 1, 0, none⟩)] W fun en w' => en = .returned v.val /\ za W w'
theorem jN.grow {W W' : World} {b gx ox : Nat} {A : Option Addr} {n cr : Nat} (h : jN W b gx ox A n cr) (hg : za W W') : jN W' b gx ox A n cr := ⟨h.b1.grow hg, h.b2.grow hg, h.b3.grow hg⟩
theorem zbr (row : List V) (A : Option Addr) (cr : Nat) (gx ox : Nat) (w0 w : World) (hrow : xi w0 A row) (hg : za w0 w) (e : E) (hx : zF w0 gx ox e) (hk : e.kind = 1) :
  Calls Tryz.prog 67 #[.pointer (some ⟨gx, ox, none⟩), .slice A row.length cr] w fun en w' => en = .returned (bare e.v).val /\ za w w' := by
 go_enter Tryz.func67, Tryz.ntmps67; go_upto_region 2 with fail
 refine zc (fun W => jN W w.heap.size gx ox A row.length cr /\ za w W) ⟨⟨((zb.new _ _ _).al _).al _, (zb.new' _ _ _ uY_).al _, zb.new' _ _ _ uY_⟩, ze⟩ ?_; rintro W ⟨X, G⟩; obtain ⟨c0, c1, c2, c3, c4, c5⟩ := hx.grow (hg.trans G); rw [hk] at c0; obtain ⟨x1, y1⟩ := X.b1.rules; obtain ⟨x3, y3⟩ := X.b3.rules; have l3 := X.b3.lt
 go_wp2_with ((go_at_call 115; ((with_reducible refine (ZX e.v _).mono ?_); rintro e w' ⟨rfl, hg⟩; obtain ⟨hc, hf, hz⟩ := hg.rules)))
 exact qX_ (by simp [results, Tryz.results67, go_sem, hc, l3, x3]) rfl ⟨rfl, ze⟩
theorem zbq (row : List V) (A : Option Addr) (cr : Nat) (gx ox : Nat) (w0 w : World) (hrow : xi w0 A row) (hg : za w0 w) (e : E) (hx : zF w0 gx ox e) (hk : e.kind = 2) (j : Nat) (hj : e.col = j) (v : V) (hv : row[j]? = some v) (hlen : row.length <= 9223372036854775807) :
  Calls Tryz.prog 67 #[.pointer (some ⟨gx, ox, none⟩), .slice A row.length cr] w fun en w' => en = .returned (bare v).val /\ za w w' := by
 have hjl : j < row.length := (qQ9.1 hv).1; obtain ⟨ga, oa, rfl, hvc⟩ := hrow j v hv; go_enter Tryz.func67, Tryz.ntmps67; go_upto_region 2 with fail
 refine zc (fun W => jN W w.heap.size gx ox (some ⟨ga, oa, none⟩) row.length cr /\ za w W) ⟨⟨((zb.new _ _ _).al _).al _, (zb.new' _ _ _ uY_).al _, zb.new' _ _ _ uY_⟩, ze⟩ ?_; rintro W ⟨X, G⟩; obtain ⟨c0, c1, c2, c3, c4, c5⟩ := hx.grow (hg.trans G); rw [hk] at c0; rw [hj] at c4; have d4 : decide ((row.length : Int) <= (j : Int)) = false := by simp; omega
 have hx4 := hx.c4; rw [hj] at hx4; clear hx hj hk; have l3 := X.b3.lt; have x1 := X.b1.rules.1; have x2 := X.b2.rules.1; go_wp2
 go_quiet (fail)
 go_wp2; refine zc (fun W => jN W w.heap.size gx ox (some ⟨ga, oa, none⟩) row.length cr /\ za w W) ⟨X.grow ze, ze⟩ ?_; clear X G c0 c1 c2 c3 c4 c5 x1 x2 l3; rintro W ⟨X, G⟩; apply wp_region_calm 8 uQ_ uQ_
 case h' =>
  intro Q0 hQ0; simp only [List.take_succ_cons, List.take_zero]
  repeat ((first | ((first | apply calm_p rfl | apply zu rfl rfl rfl); case h1 => (intro w1 hw1 hF K hK; obtain ⟨x1, y1⟩ := (X.grow hw1).b1.rules; obtain ⟨x2, y2⟩ := (X.grow hw1).b2.rules; have c4 := (hg.trans (G.trans hw1)).cell hx4; obtain ⟨v1, v2, v3⟩ := hvc.grow (hg.trans (G.trans hw1)); go_simp; first | exact hK _ (za.refl _) | (go_at_call 115; ((with_reducible refine (ZX v _).mono ?_); rintro e w' ⟨rfl, hg⟩; exact ⟨_, rfl, hK _ hg⟩)))) | apply zw rfl rfl rfl rfl); intro K hK; go_simp; apply hK; clear hK K)
  refine calm_nil ?_; intro w1 hw1 hF; apply hQ0; clear hQ0; simp only [List.drop_succ_cons, List.drop_zero]; clear hF; obtain ⟨x3, y3⟩ := (X.grow hw1).b3.rules; go_wp2; exact qX_ vs_ rfl ⟨rfl, ze⟩
 case hp' => trivial
theorem zbt (row : List V) (A : Option Addr) (cr : Nat) (gx ox : Nat) (w0 w : World) (hrow : xi w0 A row) (hg : za w0 w) (e : E) (hx : zF w0 gx ox e) (hk : e.kind = 3) (a : V) (ra : RV a) (K0 : KC row A cr gx ox w 0 a) :
  Calls Tryz.prog 67 #[.pointer (some ⟨gx, ox, none⟩), .slice A row.length cr] w fun en w' => en = .returned (kN a).val /\ za w w' := by
 go_enter Tryz.func67, Tryz.ntmps67; go_upto_region 2 with fail
 refine zc (fun W => jN W w.heap.size gx ox A row.length cr /\ za w W) ⟨⟨((zb.new _ _ _).al _).al _, (zb.new' _ _ _ uY_).al _, zb.new' _ _ _ uY_⟩, ze⟩ ?_; rintro W ⟨X, G⟩; have hx0 := (hx.grow (hg.trans G)).c0; rw [hk] at hx0; clear hx hk; obtain ⟨x1, y1⟩ := X.b1.rules; obtain ⟨x2, y2⟩ := X.b2.rules; obtain ⟨x3, y3⟩ := X.b3.rules
 go_wp2_with (first | (go_at_call 114; ((with_reducible refine (K0 _ X G).mono ?_); rintro en w2 ⟨rfl, hg2⟩; replace X := X.grow hg2; replace G := G.trans hg2; clear hg2 x1 y1 x2 y2 x3 y3; obtain ⟨x1, y1⟩ := X.b1.rules; obtain ⟨x2, y2⟩ := X.b2.rules; obtain ⟨x3, y3⟩ := X.b3.rules)) | (go_at_call 116; ((with_reducible refine (He _ ra.rb _).mono ?_); rintro en w2 ⟨rfl, hg2⟩; replace X := X.grow hg2; replace G := G.trans hg2; clear hg2 x1 y1 x2 y2 x3 y3; obtain ⟨x1, y1⟩ := X.b1.rules; obtain ⟨x2, y2⟩ := X.b2.rules; obtain ⟨x3, y3⟩ := X.b3.rules; have l3 := X.b3.lt)))
 exact qX_ vs_ rfl ⟨rfl, ze⟩
theorem zbn (row : List V) (A : Option Addr) (cr : Nat) (gx ox : Nat) (w0 w : World) (hrow : xi w0 A row) (hg : za w0 w) (e : E) (hx : zF w0 gx ox e) (hk : e.kind = 4) (a b : V) (ra : RV a) (rb : RV b) (K0 : KC row A cr gx ox w 0 a) (K1 : KC row A cr gx ox w 1 b) :
  Calls Tryz.prog 67 #[.pointer (some ⟨gx, ox, none⟩), .slice A row.length cr] w fun en w' => en = .returned (X7 a b).val /\ za w w' := by
 go_enter Tryz.func67, Tryz.ntmps67; go_upto_region 2 with fail
 refine zc (fun W => jN W w.heap.size gx ox A row.length cr /\ za w W) ⟨⟨((zb.new _ _ _).al _).al _, (zb.new' _ _ _ uY_).al _, zb.new' _ _ _ uY_⟩, ze⟩ ?_; rintro W ⟨X, G⟩; have hx0 := (hx.grow (hg.trans G)).c0; rw [hk] at hx0; clear hx hk; obtain ⟨x1, y1⟩ := X.b1.rules; obtain ⟨x2, y2⟩ := X.b2.rules; obtain ⟨x3, y3⟩ := X.b3.rules
 go_wp2_with (first | (go_at_call 114; ((with_reducible refine (K0 _ X G).mono ?_); rintro en w2 ⟨rfl, hg2⟩; replace X := X.grow hg2; replace G := G.trans hg2; clear hg2 x1 y1 x2 y2 x3 y3; obtain ⟨x1, y1⟩ := X.b1.rules; obtain ⟨x2, y2⟩ := X.b2.rules; obtain ⟨x3, y3⟩ := X.b3.rules)) | (go_at_call 114; ((with_reducible refine (K1 _ X G).mono ?_); rintro en w2 ⟨rfl, hg2⟩; replace X := X.grow hg2; replace G := G.trans hg2; clear hg2 x1 y1 x2 y2 x3 y3; obtain ⟨x1, y1⟩ := X.b1.rules; obtain ⟨x2, y2⟩ := X.b2.rules; obtain ⟨x3, y3⟩ := X.b3.rules)) | (go_at_call 117; ((with_reducible refine (Gh _ _ ra.rb rb.rb _).mono ?_); rintro en w2 ⟨rfl, hg2⟩; replace X := X.grow hg2; replace G := G.trans hg2; clear hg2 x1 y1 x2 y2 x3 y3; obtain ⟨x1, y1⟩ := X.b1.rules; obtain ⟨x2, y2⟩ := X.b2.rules; obtain ⟨x3, y3⟩ := X.b3.rules; have l3 := X.b3.lt)))
 exact qX_ vs_ rfl ⟨rfl, ze⟩
theorem zce (row : List V) (A : Option Addr) (cr : Nat) (gx ox : Nat) (w0 w : World) (hrow : xi w0 A row) (hg : za w0 w) (e : E) (hx : zF w0 gx ox e) (hk : e.kind = 5) (a b : V) (ra : RV a) (rb : RV b) (K0 : KC row A cr gx ox w 0 a) (K1 : KC row A cr gx ox w 1 b) :
  Calls Tryz.prog 67 #[.pointer (some ⟨gx, ox, none⟩), .slice A row.length cr] w fun en w' => en = .returned (N2 a b).val /\ za w w' := by
 go_enter Tryz.func67, Tryz.ntmps67; go_upto_region 2 with fail
 refine zc (fun W => jN W w.heap.size gx ox A row.length cr /\ za w W) ⟨⟨((zb.new _ _ _).al _).al _, (zb.new' _ _ _ uY_).al _, zb.new' _ _ _ uY_⟩, ze⟩ ?_; rintro W ⟨X, G⟩; have hx0 := (hx.grow (hg.trans G)).c0; rw [hk] at hx0; clear hx hk; obtain ⟨x1, y1⟩ := X.b1.rules; obtain ⟨x2, y2⟩ := X.b2.rules; obtain ⟨x3, y3⟩ := X.b3.rules
 go_wp2_with (first | (go_at_call 114; ((with_reducible refine (K0 _ X G).mono ?_); rintro en w2 ⟨rfl, hg2⟩; replace X := X.grow hg2; replace G := G.trans hg2; clear hg2 x1 y1 x2 y2 x3 y3; obtain ⟨x1, y1⟩ := X.b1.rules; obtain ⟨x2, y2⟩ := X.b2.rules; obtain ⟨x3, y3⟩ := X.b3.rules)) | (go_at_call 114; ((with_reducible refine (K1 _ X G).mono ?_); rintro en w2 ⟨rfl, hg2⟩; replace X := X.grow hg2; replace G := G.trans hg2; clear hg2 x1 y1 x2 y2 x3 y3; obtain ⟨x1, y1⟩ := X.b1.rules; obtain ⟨x2, y2⟩ := X.b2.rules; obtain ⟨x3, y3⟩ := X.b3.rules)) | (go_at_call 118; ((with_reducible refine (zby _ _ ra.rb rb.rb _).mono ?_); rintro en w2 ⟨rfl, hg2⟩; replace X := X.grow hg2; replace G := G.trans hg2; clear hg2 x1 y1 x2 y2 x3 y3; obtain ⟨x1, y1⟩ := X.b1.rules; obtain ⟨x2, y2⟩ := X.b2.rules; obtain ⟨x3, y3⟩ := X.b3.rules; have l3 := X.b3.lt)))
 exact qX_ vs_ rfl ⟨rfl, ze⟩
theorem zbo (row : List V) (A : Option Addr) (cr : Nat) (gx ox : Nat) (w0 w : World) (hrow : xi w0 A row) (hg : za w0 w) (e : E) (hx : zF w0 gx ox e) (hk : e.kind = 15) (a b : V) (ra : RV a) (rb : RV b) (K0 : KC row A cr gx ox w 0 a) (K1 : KC row A cr gx ox w 1 b) :
  Calls Tryz.prog 67 #[.pointer (some ⟨gx, ox, none⟩), .slice A row.length cr] w fun en w' => en = .returned (jd a b).val /\ za w w' := by
 go_enter Tryz.func67, Tryz.ntmps67; go_upto_region 2 with fail
 refine zc (fun W => jN W w.heap.size gx ox A row.length cr /\ za w W) ⟨⟨((zb.new _ _ _).al _).al _, (zb.new' _ _ _ uY_).al _, zb.new' _ _ _ uY_⟩, ze⟩ ?_; rintro W ⟨X, G⟩; have hx0 := (hx.grow (hg.trans G)).c0; rw [hk] at hx0; clear hx hk; obtain ⟨x1, y1⟩ := X.b1.rules; obtain ⟨x2, y2⟩ := X.b2.rules; obtain ⟨x3, y3⟩ := X.b3.rules
 go_wp2_with (first | (go_at_call 114; ((with_reducible refine (K0 _ X G).mono ?_); rintro en w2 ⟨rfl, hg2⟩; replace X := X.grow hg2; replace G := G.trans hg2; clear hg2 x1 y1 x2 y2 x3 y3; obtain ⟨x1, y1⟩ := X.b1.rules; obtain ⟨x2, y2⟩ := X.b2.rules; obtain ⟨x3, y3⟩ := X.b3.rules)) | (go_at_call 114; ((with_reducible refine (K1 _ X G).mono ?_); rintro en w2 ⟨rfl, hg2⟩; replace X := X.grow hg2; replace G := G.trans hg2; clear hg2 x1 y1 x2 y2 x3 y3; obtain ⟨x1, y1⟩ := X.b1.rules; obtain ⟨x2, y2⟩ := X.b2.rules; obtain ⟨x3, y3⟩ := X.b3.rules)) | (go_at_call 120; ((with_reducible refine (DA _ _ ra rb _).mono ?_); rintro en w2 ⟨rfl, hg2⟩; replace X := X.grow hg2; replace G := G.trans hg2; clear hg2 x1 y1 x2 y2 x3 y3; obtain ⟨x1, y1⟩ := X.b1.rules; obtain ⟨x2, y2⟩ := X.b2.rules; obtain ⟨x3, y3⟩ := X.b3.rules; have l3 := X.b3.lt)))
 exact qX_ vs_ rfl ⟨rfl, ze⟩
theorem Vs (row : List V) (A : Option Addr) (cr : Nat) (gx ox : Nat) (w0 w : World) (hrow : xi w0 A row) (hg : za w0 w) (e : E) (hx : zF w0 gx ox e) (hk : e.kind = 17) (a b : V) (ra : RV a) (hr : (yB a == 2) = true) (K0 : KC row A cr gx ox w 0 a) (K1 : KC row A cr gx ox w 1 b) :
  Calls Tryz.prog 67 #[.pointer (some ⟨gx, ox, none⟩), .slice A row.length cr] w fun en w' => en = .returned b.val /\ za w w' := by
 go_enter Tryz.func67, Tryz.ntmps67; go_upto_region 2 with fail
 refine zc (fun W => jN W w.heap.size gx ox A row.length cr /\ za w W) ⟨⟨((zb.new _ _ _).al _).al _, (zb.new' _ _ _ uY_).al _, zb.new' _ _ _ uY_⟩, ze⟩ ?_; rintro W ⟨X, G⟩; have hx0 := (hx.grow (hg.trans G)).c0; rw [hk] at hx0; clear hx hk; obtain ⟨x1, y1⟩ := X.b1.rules; obtain ⟨x2, y2⟩ := X.b2.rules; obtain ⟨x3, y3⟩ := X.b3.rules; have ct := fun W => QD a ra.rb W
 rw [hr] at ct
 go_wp2_with (first | (go_at_call 114; ((with_reducible refine (K0 _ X G).mono ?_); rintro en w2 ⟨rfl, hg2⟩; replace X := X.grow hg2; replace G := G.trans hg2; clear hg2 x1 y1 x2 y2 x3 y3; obtain ⟨x1, y1⟩ := X.b1.rules; obtain ⟨x2, y2⟩ := X.b2.rules; obtain ⟨x3, y3⟩ := X.b3.rules; have l3 := X.b3.lt)) | (go_at_call 114; ((with_reducible refine (K1 _ X G).mono ?_); rintro en w2 ⟨rfl, hg2⟩; replace X := X.grow hg2; replace G := G.trans hg2; clear hg2 x1 y1 x2 y2 x3 y3; obtain ⟨x1, y1⟩ := X.b1.rules; obtain ⟨x2, y2⟩ := X.b2.rules; obtain ⟨x3, y3⟩ := X.b3.rules; have l3 := X.b3.lt)) | (go_at_call 122; ((with_reducible refine (ct _).mono ?_); rintro en w2 ⟨rfl, hg2⟩; replace X := X.grow hg2; replace G := G.trans hg2; clear hg2 x1 y1 x2 y2 x3 y3; obtain ⟨x1, y1⟩ := X.b1.rules; obtain ⟨x2, y2⟩ := X.b2.rules; obtain ⟨x3, y3⟩ := X.b3.rules; have l3 := X.b3.lt)))
 have l3 := X.b3.lt; exact qX_ vs_ rfl ⟨rfl, ze⟩
theorem Vr (row : List V) (A : Option Addr) (cr : Nat) (gx ox : Nat) (w0 w : World) (hrow : xi w0 A row) (hg : za w0 w) (e : E) (hx : zF w0 gx ox e) (hk : e.kind = 17) (a d : V) (ra : RV a) (hr : (yB a == 2) = false) (K0 : KC row A cr gx ox w 0 a) (K2 : KC row A cr gx ox w 2 d) :
  Calls Tryz.prog 67 #[.pointer (some ⟨gx, ox, none⟩), .slice A row.length cr] w fun en w' => en = .returned d.val /\ za w w' := by
 go_enter Tryz.func67, Tryz.ntmps67; go_upto_region 2 with fail
 refine zc (fun W => jN W w.heap.size gx ox A row.length cr /\ za w W) ⟨⟨((zb.new _ _ _).al _).al _, (zb.new' _ _ _ uY_).al _, zb.new' _ _ _ uY_⟩, ze⟩ ?_; rintro W ⟨X, G⟩; have hx0 := (hx.grow (hg.trans G)).c0; rw [hk] at hx0; clear hx hk; obtain ⟨x1, y1⟩ := X.b1.rules; obtain ⟨x2, y2⟩ := X.b2.rules; obtain ⟨x3, y3⟩ := X.b3.rules; have ct := fun W => QD a ra.rb W
 rw [hr] at ct
 go_wp2_with (first | (go_at_call 114; ((with_reducible refine (K0 _ X G).mono ?_); rintro en w2 ⟨rfl, hg2⟩; replace X := X.grow hg2; replace G := G.trans hg2; clear hg2 x1 y1 x2 y2 x3 y3; obtain ⟨x1, y1⟩ := X.b1.rules; obtain ⟨x2, y2⟩ := X.b2.rules; obtain ⟨x3, y3⟩ := X.b3.rules; have l3 := X.b3.lt)) | (go_at_call 114; ((with_reducible refine (K2 _ X G).mono ?_); rintro en w2 ⟨rfl, hg2⟩; replace X := X.grow hg2; replace G := G.trans hg2; clear hg2 x1 y1 x2 y2 x3 y3; obtain ⟨x1, y1⟩ := X.b1.rules; obtain ⟨x2, y2⟩ := X.b2.rules; obtain ⟨x3, y3⟩ := X.b3.rules; have l3 := X.b3.lt)) | (go_at_call 122; ((with_reducible refine (ct _).mono ?_); rintro en w2 ⟨rfl, hg2⟩; replace X := X.grow hg2; replace G := G.trans hg2; clear hg2 x1 y1 x2 y2 x3 y3; obtain ⟨x1, y1⟩ := X.b1.rules; obtain ⟨x2, y2⟩ := X.b2.rules; obtain ⟨x3, y3⟩ := X.b3.rules; have l3 := X.b3.lt)))
 have l3 := X.b3.lt; exact qX_ vs_ rfl ⟨rfl, ze⟩
theorem Vt (row : List V) (A : Option Addr) (cr : Nat) (gx ox : Nat) (w0 w : World) (hrow : xi w0 A row) (hg : za w0 w) (e : E) (hx : zF w0 gx ox e) (hk : e.kind = 18) (a : V) (ha : (a.k != 1) = true) (K0 : KC row A cr gx ox w 0 a) :
  Calls Tryz.prog 67 #[.pointer (some ⟨gx, ox, none⟩), .slice A row.length cr] w fun en w' => en = .returned a.val /\ za w w' := by
 go_enter Tryz.func67, Tryz.ntmps67; go_upto_region 2 with fail
 refine zc (fun W => jN W w.heap.size gx ox A row.length cr /\ za w W) ⟨⟨((zb.new _ _ _).al _).al _, (zb.new' _ _ _ uY_).al _, zb.new' _ _ _ uY_⟩, ze⟩ ?_; rintro W ⟨X, G⟩; have hx0 := (hx.grow (hg.trans G)).c0; rw [hk] at hx0; clear hx hk; obtain ⟨x1, y1⟩ := X.b1.rules; obtain ⟨x2, y2⟩ := X.b2.rules; obtain ⟨x3, y3⟩ := X.b3.rules; have l3 := X.b3.lt
 go_wp2_with (first | (go_at_call 114; ((with_reducible refine (K0 _ X G).mono ?_); rintro en w2 ⟨rfl, hg2⟩; replace X := X.grow hg2; replace G := G.trans hg2; clear hg2 x1 y1 x2 y2 x3 y3; obtain ⟨x1, y1⟩ := X.b1.rules; obtain ⟨x2, y2⟩ := X.b2.rules; obtain ⟨x3, y3⟩ := X.b3.rules; have l3 := X.b3.lt)))
 have l4 : w.heap.size + 1 + 1 < w2.heap.size := l3; have l5 : ¬ (w.heap.size + 1 + 1 = w2.heap.size) := Nat.ne_of_lt l4; exact qX_ (by simp [results, Tryz.results67, go_sem, x3, l4, l5]) rfl ⟨rfl, ze⟩
theorem Vu (row : List V) (A : Option Addr) (cr : Nat) (gx ox : Nat) (w0 w : World) (hrow : xi w0 A row) (hg : za w0 w) (e : E) (hx : zF w0 gx ox e) (hk : e.kind = 18) (a b : V) (ha : (a.k != 1) = false) (K0 : KC row A cr gx ox w 0 a) (K1 : KC row A cr gx ox w 1 b) :
  Calls Tryz.prog 67 #[.pointer (some ⟨gx, ox, none⟩), .slice A row.length cr] w fun en w' => en = .returned b.val /\ za w w' := by
 go_enter Tryz.func67, Tryz.ntmps67; go_upto_region 2 with fail
 refine zc (fun W => jN W w.heap.size gx ox A row.length cr /\ za w W) ⟨⟨((zb.new _ _ _).al _).al _, (zb.new' _ _ _ uY_).al _, zb.new' _ _ _ uY_⟩, ze⟩ ?_; rintro W ⟨X, G⟩; have hx0 := (hx.grow (hg.trans G)).c0; rw [hk] at hx0; clear hx hk; obtain ⟨x1, y1⟩ := X.b1.rules; obtain ⟨x2, y2⟩ := X.b2.rules; obtain ⟨x3, y3⟩ := X.b3.rules; have l3 := X.b3.lt
 go_wp2_with (first | (go_at_call 114; ((with_reducible refine (K0 _ X G).mono ?_); rintro en w2 ⟨rfl, hg2⟩; replace X := X.grow hg2; replace G := G.trans hg2; clear hg2 x1 y1 x2 y2 x3 y3; obtain ⟨x1, y1⟩ := X.b1.rules; obtain ⟨x2, y2⟩ := X.b2.rules; obtain ⟨x3, y3⟩ := X.b3.rules; have l3 := X.b3.lt)) | (go_at_call 114; ((with_reducible refine (K1 _ (X.grow ze) (G.trans ze)).mono ?_); rintro en w3 ⟨rfl, hg3⟩; have X3 := (X.grow ze).grow hg3; clear x1 y1 x2 y2 x3 y3; obtain ⟨x3, y3⟩ := X3.b3.rules)))
 exact qX_ vs_ rfl ⟨rfl, ze⟩
theorem zbp (row : List V) (A : Option Addr) (cr : Nat) (gx ox : Nat) (w0 w : World) (hrow : xi w0 A row) (hg : za w0 w) (e : E) (k : Int) (hx : zF w0 gx ox e) (hk : e.kind = k) (h6 : 6 <= k /\ k <= 11) (a b : V) (K0 : KC row A cr gx ox w 0 a) (K1 : KC row A cr gx ox w 1 b) :
  Calls Tryz.prog 67 #[.pointer (some ⟨gx, ox, none⟩), .slice A row.length cr] w fun en w' => en = .returned (yC k a b).val /\ za w w' := by
 go_enter Tryz.func67, Tryz.ntmps67; go_upto_region 2 with fail
 refine zc (fun W => jN W w.heap.size gx ox A row.length cr /\ za w W) ⟨⟨((zb.new _ _ _).al _).al _, (zb.new' _ _ _ uY_).al _, zb.new' _ _ _ uY_⟩, ze⟩ ?_; rintro W ⟨X, G⟩; have c0 := hx.c0; rw [hk] at c0; have hx0 := (hg.trans G).cell c0; clear hx hk; have x1 := X.b1.rules.1; have e1 : (k == 1) = false := by simp; omega
 have e2 : (k == 2) = false := by simp; omega
 have e3 : (k == 3) = false := by simp; omega
 have e4 : (k == 4) = false := by simp; omega
 have e5 : (k == 5) = false := by simp; omega
 have e12 : (k == 12) = false := by simp; omega
 have e13 : (k == 13) = false := by simp; omega
 have e14 : (k == 14) = false := by simp; omega
 have e15 : (k == 15) = false := by simp; omega
 have e16 : (k == 16) = false := by simp; omega
 have e17 : (k == 17) = false := by simp; omega
 have e18 : (k == 18) = false := by simp; omega
 go_wp2; refine zc (fun W => jN W w.heap.size gx ox A row.length cr /\ za w W) ⟨X, G⟩ ?_; clear X G hx0 x1; rintro W ⟨X, G⟩; apply wp_region_calm 9 uQ_ uQ_
 case h' =>
  intro Q0 hQ0; simp only [List.take_succ_cons, List.take_zero]
  repeat ((first | ((first | apply calm_p rfl | apply zu rfl rfl rfl); case h1 => (intro w1 hw1 hF K hK; obtain ⟨x1, y1⟩ := (X.grow hw1).b1.rules; obtain ⟨x2, y2⟩ := (X.grow hw1).b2.rules; have hx0 := (hg.trans (G.trans hw1)).cell c0; go_simp; first | exact hK _ (za.refl _) | (go_at_call 114; ((with_reducible refine (K0 _ (X.grow hw1) (G.trans hw1)).mono ?_); rintro e w' ⟨rfl, hg⟩; exact ⟨_, rfl, hK _ hg⟩)) | (go_at_call 114; ((with_reducible refine (K1 _ (X.grow hw1) (G.trans hw1)).mono ?_); rintro e w' ⟨rfl, hg⟩; exact ⟨_, rfl, hK _ hg⟩)) | (go_at_call 123; ((with_reducible refine (M9 k a b h6 _).mono ?_); rintro e w' ⟨rfl, hg⟩; exact ⟨_, rfl, hK _ hg⟩)))) | apply zw rfl rfl rfl rfl); intro K hK; go_simp; apply hK; clear hK K)
  refine calm_nil ?_; intro w1 hw1 hF; apply hQ0; clear hQ0; simp only [List.drop_succ_cons, List.drop_zero]; clear hF; obtain ⟨x3, y3⟩ := (X.grow hw1).b3.rules; go_wp2; exact qX_ vs_ rfl ⟨rfl, ze⟩
 case hp' => trivial
theorem zbm (row : List V) (A : Option Addr) (cr : Nat) (gx ox : Nat) (w0 w : World) (hrow : xi w0 A row) (hg : za w0 w) (e : E) (hx : zF w0 gx ox e) (hk : e.kind = 12) (a b : V) (ra : RV a) (rb : RV b) (K0 : KC row A cr gx ox w 0 a) (K1 : KC row A cr gx ox w 1 b) :
  Calls Tryz.prog 67 #[.pointer (some ⟨gx, ox, none⟩), .slice A row.length cr] w fun en w' => en = .returned (yx 43 a b).val /\ za w w' := by
 go_enter Tryz.func67, Tryz.ntmps67; go_upto_region 2 with fail
 refine zc (fun W => jN W w.heap.size gx ox A row.length cr /\ za w W) ⟨⟨((zb.new _ _ _).al _).al _, (zb.new' _ _ _ uY_).al _, zb.new' _ _ _ uY_⟩, ze⟩ ?_; rintro W ⟨X, G⟩; have c0 := hx.c0; rw [hk] at c0; have hx0 := (hg.trans G).cell c0; clear hx hk; have x1 := X.b1.rules.1; go_wp2; refine zc (fun W => jN W w.heap.size gx ox A row.length cr /\ za w W) ⟨X, G⟩ ?_; clear X G hx0 x1; rintro W ⟨X, G⟩; apply wp_region_calm 13 uQ_ uQ_
 case h' =>
  intro Q0 hQ0; simp only [List.take_succ_cons, List.take_zero]; apply calm_fp (fun v W => ∃ g, v = .slice (some ⟨g, 0, none⟩) 3 3 /\ zb W g 21 #[.int .i32 43, .int .i32 45, .int .i32 42]) rfl
  case h1 => exact wa_
  intro sl K hK; go_simp; apply hK; clear hK K
  repeat ((first | ((first | apply calm_p rfl | apply zu rfl rfl rfl); case h1 => (intro w1 hw1 hF K hK; obtain ⟨x1, y1⟩ := (X.grow hw1).b1.rules; obtain ⟨x2, y2⟩ := (X.grow hw1).b2.rules; have hx0 := (hg.trans (G.trans hw1)).cell c0; go_simp; first | exact hK _ (za.refl _))) | apply zw rfl rfl rfl rfl); intro K hK; go_simp; apply hK; clear hK K)
  apply calm_fp (fun v W => ∃ g, v = .pointer (some ⟨g, 0, none⟩) /\ zb W g 21 #[.int .i32 43, .int .i32 45, .int .i32 42]) rfl
  case h1 => exact wx_
  intro pt K hK; go_simp; apply hK; clear hK K; apply calm_p rfl
  case h1 => exact wq_
  intro K hK; go_simp; apply hK; clear hK K
  repeat ((first | ((first | apply calm_p rfl | apply zu rfl rfl rfl); case h1 => (intro w1 hw1 hF K hK; obtain ⟨x1, y1⟩ := (X.grow hw1).b1.rules; obtain ⟨x2, y2⟩ := (X.grow hw1).b2.rules; have hx0 := (hg.trans (G.trans hw1)).cell c0; go_simp; first | exact hK _ (za.refl _) | (go_at_call 114; ((with_reducible refine (K0 _ (X.grow hw1) (G.trans hw1)).mono ?_); rintro e w' ⟨rfl, hg⟩; exact ⟨_, rfl, hK _ hg⟩)) | (go_at_call 114; ((with_reducible refine (K1 _ (X.grow hw1) (G.trans hw1)).mono ?_); rintro e w' ⟨rfl, hg⟩; exact ⟨_, rfl, hK _ hg⟩)) | (go_at_call 119; ((with_reducible refine (ZG 43 a b ra rb _).mono ?_); rintro e w' ⟨rfl, hg⟩; exact ⟨_, rfl, hK _ hg⟩)))) | apply zw rfl rfl rfl rfl); intro K hK; go_simp; apply hK; clear hK K)
  refine calm_nil ?_; intro w1 hw1 hF; apply hQ0; clear hQ0; simp only [List.drop_succ_cons, List.drop_zero]; clear hF; obtain ⟨x3, y3⟩ := (X.grow hw1).b3.rules; go_wp2; exact qX_ vs_ rfl ⟨rfl, ze⟩
 case hp' => exact wG_
theorem zbv (row : List V) (A : Option Addr) (cr : Nat) (gx ox : Nat) (w0 w : World) (hrow : xi w0 A row) (hg : za w0 w) (e : E) (hx : zF w0 gx ox e) (hk : e.kind = 13) (a b : V) (ra : RV a) (rb : RV b) (K0 : KC row A cr gx ox w 0 a) (K1 : KC row A cr gx ox w 1 b) :
  Calls Tryz.prog 67 #[.pointer (some ⟨gx, ox, none⟩), .slice A row.length cr] w fun en w' => en = .returned (yx 45 a b).val /\ za w w' := by
 go_enter Tryz.func67, Tryz.ntmps67; go_upto_region 2 with fail
 refine zc (fun W => jN W w.heap.size gx ox A row.length cr /\ za w W) ⟨⟨((zb.new _ _ _).al _).al _, (zb.new' _ _ _ uY_).al _, zb.new' _ _ _ uY_⟩, ze⟩ ?_; rintro W ⟨X, G⟩; have c0 := hx.c0; rw [hk] at c0; have hx0 := (hg.trans G).cell c0; clear hx hk; have x1 := X.b1.rules.1; go_wp2; refine zc (fun W => jN W w.heap.size gx ox A row.length cr /\ za w W) ⟨X, G⟩ ?_; clear X G hx0 x1; rintro W ⟨X, G⟩; apply wp_region_calm 13 uQ_ uQ_
 case h' =>
  intro Q0 hQ0; simp only [List.take_succ_cons, List.take_zero]; apply calm_fp (fun v W => ∃ g, v = .slice (some ⟨g, 0, none⟩) 3 3 /\ zb W g 21 #[.int .i32 43, .int .i32 45, .int .i32 42]) rfl
  case h1 => exact wa_
  intro sl K hK; go_simp; apply hK; clear hK K
  repeat ((first | ((first | apply calm_p rfl | apply zu rfl rfl rfl); case h1 => (intro w1 hw1 hF K hK; obtain ⟨x1, y1⟩ := (X.grow hw1).b1.rules; obtain ⟨x2, y2⟩ := (X.grow hw1).b2.rules; have hx0 := (hg.trans (G.trans hw1)).cell c0; go_simp; first | exact hK _ (za.refl _))) | apply zw rfl rfl rfl rfl); intro K hK; go_simp; apply hK; clear hK K)
  apply calm_fp (fun v W => ∃ g, v = .pointer (some ⟨g, 1, none⟩) /\ zb W g 21 #[.int .i32 43, .int .i32 45, .int .i32 42]) rfl
  case h1 => exact wx_
  intro pt K hK; go_simp; apply hK; clear hK K; apply calm_p rfl
  case h1 => exact wq_
  intro K hK; go_simp; apply hK; clear hK K
  repeat ((first | ((first | apply calm_p rfl | apply zu rfl rfl rfl); case h1 => (intro w1 hw1 hF K hK; obtain ⟨x1, y1⟩ := (X.grow hw1).b1.rules; obtain ⟨x2, y2⟩ := (X.grow hw1).b2.rules; have hx0 := (hg.trans (G.trans hw1)).cell c0; go_simp; first | exact hK _ (za.refl _) | (go_at_call 114; ((with_reducible refine (K0 _ (X.grow hw1) (G.trans hw1)).mono ?_); rintro e w' ⟨rfl, hg⟩; exact ⟨_, rfl, hK _ hg⟩)) | (go_at_call 114; ((with_reducible refine (K1 _ (X.grow hw1) (G.trans hw1)).mono ?_); rintro e w' ⟨rfl, hg⟩; exact ⟨_, rfl, hK _ hg⟩)) | (go_at_call 119; ((with_reducible refine (ZG 45 a b ra rb _).mono ?_); rintro e w' ⟨rfl, hg⟩; exact ⟨_, rfl, hK _ hg⟩)))) | apply zw rfl rfl rfl rfl); intro K hK; go_simp; apply hK; clear hK K)
  refine calm_nil ?_; intro w1 hw1 hF; apply hQ0; clear hQ0; simp only [List.drop_succ_cons, List.drop_zero]; clear hF; obtain ⟨x3, y3⟩ := (X.grow hw1).b3.rules; go_wp2; exact qX_ vs_ rfl ⟨rfl, ze⟩
 case hp' => exact wG_
theorem zbs (row : List V) (A : Option Addr) (cr : Nat) (gx ox : Nat) (w0 w : World) (hrow : xi w0 A row) (hg : za w0 w) (e : E) (hx : zF w0 gx ox e) (hk : e.kind = 14) (a b : V) (ra : RV a) (rb : RV b) (K0 : KC row A cr gx ox w 0 a) (K1 : KC row A cr gx ox w 1 b) :
  Calls Tryz.prog 67 #[.pointer (some ⟨gx, ox, none⟩), .slice A row.length cr] w fun en w' => en = .returned (yx 42 a b).val /\ za w w' := by
 go_enter Tryz.func67, Tryz.ntmps67; go_upto_region 2 with fail
 refine zc (fun W => jN W w.heap.size gx ox A row.length cr /\ za w W) ⟨⟨((zb.new _ _ _).al _).al _, (zb.new' _ _ _ uY_).al _, zb.new' _ _ _ uY_⟩, ze⟩ ?_; rintro W ⟨X, G⟩; have c0 := hx.c0; rw [hk] at c0; have hx0 := (hg.trans G).cell c0; clear hx hk; have x1 := X.b1.rules.1; go_wp2; refine zc (fun W => jN W w.heap.size gx ox A row.length cr /\ za w W) ⟨X, G⟩ ?_; clear X G hx0 x1; rintro W ⟨X, G⟩; apply wp_region_calm 13 uQ_ uQ_
 case h' =>
  intro Q0 hQ0; simp only [List.take_succ_cons, List.take_zero]; apply calm_fp (fun v W => ∃ g, v = .slice (some ⟨g, 0, none⟩) 3 3 /\ zb W g 21 #[.int .i32 43, .int .i32 45, .int .i32 42]) rfl
  case h1 => exact wa_
  intro sl K hK; go_simp; apply hK; clear hK K
  repeat ((first | ((first | apply calm_p rfl | apply zu rfl rfl rfl); case h1 => (intro w1 hw1 hF K hK; obtain ⟨x1, y1⟩ := (X.grow hw1).b1.rules; obtain ⟨x2, y2⟩ := (X.grow hw1).b2.rules; have hx0 := (hg.trans (G.trans hw1)).cell c0; go_simp; first | exact hK _ (za.refl _))) | apply zw rfl rfl rfl rfl); intro K hK; go_simp; apply hK; clear hK K)
  apply calm_fp (fun v W => ∃ g, v = .pointer (some ⟨g, 2, none⟩) /\ zb W g 21 #[.int .i32 43, .int .i32 45, .int .i32 42]) rfl
  case h1 => exact wx_
  intro pt K hK; go_simp; apply hK; clear hK K; apply calm_p rfl
  case h1 => exact wq_
  intro K hK; go_simp; apply hK; clear hK K
  repeat ((first | ((first | apply calm_p rfl | apply zu rfl rfl rfl); case h1 => (intro w1 hw1 hF K hK; obtain ⟨x1, y1⟩ := (X.grow hw1).b1.rules; obtain ⟨x2, y2⟩ := (X.grow hw1).b2.rules; have hx0 := (hg.trans (G.trans hw1)).cell c0; go_simp; first | exact hK _ (za.refl _) | (go_at_call 114; ((with_reducible refine (K0 _ (X.grow hw1) (G.trans hw1)).mono ?_); rintro e w' ⟨rfl, hg⟩; exact ⟨_, rfl, hK _ hg⟩)) | (go_at_call 114; ((with_reducible refine (K1 _ (X.grow hw1) (G.trans hw1)).mono ?_); rintro e w' ⟨rfl, hg⟩; exact ⟨_, rfl, hK _ hg⟩)) | (go_at_call 119; ((with_reducible refine (ZG 42 a b ra rb _).mono ?_); rintro e w' ⟨rfl, hg⟩; exact ⟨_, rfl, hK _ hg⟩)))) | apply zw rfl rfl rfl rfl); intro K hK; go_simp; apply hK; clear hK K)
  refine calm_nil ?_; intro w1 hw1 hF; apply hQ0; clear hQ0; simp only [List.drop_succ_cons, List.drop_zero]; clear hF; obtain ⟨x3, y3⟩ := (X.grow hw1).b3.rules; go_wp2; exact qX_ vs_ rfl ⟨rfl, ze⟩
 case hp' => exact wG_
theorem Hj (row : List V) (A : Option Addr) (cr : Nat) (gx ox : Nat) (w0 w : World) (hrow : xi w0 A row) (hg : za w0 w) (e : E) (hx : zF w0 gx ox e) (hk : e.kind = 16) (a : V) (K0 : KC row A cr gx ox w 0 a) :
  Calls Tryz.prog 67 #[.pointer (some ⟨gx, ox, none⟩), .slice A row.length cr] w fun en w' => en = .returned (qj (a.k == 1)).val /\ za w w' := by
 unfold KC V.val at K0; have hfd : ∀ W : World, (Instr.field 33 (.agg #[.int .i64 a.k, .int .i64 a.n, .string a.s]) 0).run Tryz.prog W = .ok (.int .i64 a.k) W := fun _ => by kernel_rfl
 go_enter Tryz.func67, Tryz.ntmps67; go_upto_region 2 with fail
 refine zc (fun W => jN W w.heap.size gx ox A row.length cr /\ za w W) ⟨⟨((zb.new _ _ _).al _).al _, (zb.new' _ _ _ uY_).al _, zb.new' _ _ _ uY_⟩, ze⟩ ?_; rintro W ⟨X, G⟩; have hx0 := (hx.grow (hg.trans G)).c0; rw [hk] at hx0; clear hx hk; obtain ⟨x1, y1⟩ := X.b1.rules; obtain ⟨x2, y2⟩ := X.b2.rules; obtain ⟨x3, y3⟩ := X.b3.rules
 go_wp2_with (first | (go_at_call 114; ((with_reducible refine (K0 _ X G).mono ?_); rintro en w2 ⟨rfl, hg2⟩; replace X := X.grow hg2; replace G := G.trans hg2; clear hg2 x1 y1 x2 y2 x3 y3; obtain ⟨x1, y1⟩ := X.b1.rules; obtain ⟨x2, y2⟩ := X.b2.rules; obtain ⟨x3, y3⟩ := X.b3.rules)) | (go_at_call 121; ((with_reducible refine (Z8 _ _).mono ?_); rintro en w2 ⟨rfl, hg2⟩; replace X := X.grow hg2; replace G := G.trans hg2; clear hg2 x1 y1 x2 y2 x3 y3; obtain ⟨x1, y1⟩ := X.b1.rules; obtain ⟨x2, y2⟩ := X.b2.rules; obtain ⟨x3, y3⟩ := X.b3.rules; have l3 := X.b3.lt)))
 exact qX_ vs_ rfl ⟨rfl, ze⟩
theorem Ny (row : List V) (A : Option Addr) (cr : Nat) (hlen : row.length <= 9223372036854775807) (hr : ∀ x ∈ row, RV x) (e : E) (hre : RE row.length e) : OfC row A cr e := by
 induction hre with
 | @mk k v c Ak n cap kid h0 hn hv hc hk ih =>
  intro gx ox w0 w hE hx hrow hg; have rv : ∀ i, i < n -> RV (yu row (kid i)) := fun i hi => Qu row hr _ (hk i hi)
  have K : ∀ (j : Nat) (iv : Int), iv = j -> j < n -> ∀ W, jN W w.heap.size gx ox A row.length cr -> za w W -> Calls Tryz.prog 114 #[.int .i64 iv, .pointer (some ⟨w.heap.size, 0, none⟩), .pointer (some ⟨w.heap.size + 1, 0, none⟩)] W fun en w' => en = .returned (yu row (kid j)).val /\ za W w' :=
   fun j iv hiv hj W X G => zba row A cr (.mk k v c Ak n cap kid) j iv hiv hj _ rfl (ih j hj) gx ox w.heap.size (w.heap.size + 1) w0 W hE hx hrow (hg.trans G) X.b1 X.b2
  have e0 : yu row (.mk k v c Ak n cap kid) = if k = 1 then bare v else if k = 2 then bare (row.getD c.toNat yj) else Mj k (yu row (kid 0)) (yu row (kid 1)) (yu row (kid 2)) := rfl
  rw [e0]; clear e0; rcases kinds h0 with h | h | h | h | h | h | h | h | h | h | h | h | h
  ·subst h; exact zbr row A cr gx ox w0 w hrow hg (.mk 1 v c Ak n cap kid) hx rfl
  ·subst h; obtain ⟨c0, c1⟩ := hc rfl; have hl : c.toNat < row.length := by omega
   rw [if_neg uW_, if_pos rfl, List.getD_eq_getElem?_getD, qQ_ hl]; exact zbq row A cr gx ox w0 w hrow hg (.mk 2 v c Ak n cap kid) hx rfl c.toNat (by show c = _; omega) _ (qQ_ hl) hlen
  ·subst h; have kn : zl 3 = 1 := rfl; exact zbt row A cr gx ox w0 w hrow hg (.mk 3 v c Ak n cap kid) hx rfl _ (rv 0 uX_) (K 0 0 rfl uX_)
  ·subst h; have kn : zl 4 = 2 := rfl; exact zbn row A cr gx ox w0 w hrow hg (.mk 4 v c Ak n cap kid) hx rfl _ _ (rv 0 uX_) (rv 1 uX_) (K 0 0 rfl uX_) (K 1 1 rfl uX_)
  ·subst h; have kn : zl 5 = 2 := rfl; exact zce row A cr gx ox w0 w hrow hg (.mk 5 v c Ak n cap kid) hx rfl _ _ (rv 0 uX_) (rv 1 uX_) (K 0 0 rfl uX_) (K 1 1 rfl uX_)
  ·have kn : zl k = 2 := by
    unfold zl; rw [if_neg uX_, if_neg uX_, if_pos uX_]
   rw [if_neg uX_, if_neg uX_, D9 h]; exact zbp row A cr gx ox w0 w hrow hg (.mk k v c Ak n cap kid) k hx rfl h _ _ (K 0 0 rfl uX_) (K 1 1 rfl uX_)
  ·subst h; have kn : zl 12 = 2 := rfl; exact zbm row A cr gx ox w0 w hrow hg (.mk 12 v c Ak n cap kid) hx rfl _ _ (rv 0 uX_) (rv 1 uX_) (K 0 0 rfl uX_) (K 1 1 rfl uX_)
  ·subst h; have kn : zl 13 = 2 := rfl; exact zbv row A cr gx ox w0 w hrow hg (.mk 13 v c Ak n cap kid) hx rfl _ _ (rv 0 uX_) (rv 1 uX_) (K 0 0 rfl uX_) (K 1 1 rfl uX_)
  ·subst h; have kn : zl 14 = 2 := rfl; exact zbs row A cr gx ox w0 w hrow hg (.mk 14 v c Ak n cap kid) hx rfl _ _ (rv 0 uX_) (rv 1 uX_) (K 0 0 rfl uX_) (K 1 1 rfl uX_)
  ·subst h; have kn : zl 15 = 2 := rfl; exact zbo row A cr gx ox w0 w hrow hg (.mk 15 v c Ak n cap kid) hx rfl _ _ (rv 0 uX_) (rv 1 uX_) (K 0 0 rfl uX_) (K 1 1 rfl uX_)
  ·subst h; have kn : zl 16 = 1 := rfl; exact Hj row A cr gx ox w0 w hrow hg (.mk 16 v c Ak n cap kid) hx rfl _ (K 0 0 rfl uX_)
  ·subst h; have kn : zl 17 = 3 := rfl; rw [if_neg uW_, if_neg uW_, show Mj 17 (yu row (kid 0)) (yu row (kid 1)) (yu row (kid 2)) = (if yB (yu row (kid 0)) = 2 then yu row (kid 1) else yu row (kid 2)) from rfl]
   by_cases h2 : yB (yu row (kid 0)) = 2
   ·rw [if_pos h2]; exact Vs row A cr gx ox w0 w hrow hg (.mk 17 v c Ak n cap kid) hx rfl _ _ (rv 0 uX_) uF_ (K 0 0 rfl uX_) (K 1 1 rfl uX_)
   ·rw [if_neg h2]; exact Vr row A cr gx ox w0 w hrow hg (.mk 17 v c Ak n cap kid) hx rfl _ _ (rv 0 uX_) uF_ (K 0 0 rfl uX_) (K 2 2 rfl uX_)
  ·subst h; have kn : zl 18 = 2 := rfl; rw [if_neg uW_, if_neg uW_, show Mj 18 (yu row (kid 0)) (yu row (kid 1)) (yu row (kid 2)) = (if (yu row (kid 0)).k = 1 then yu row (kid 1) else yu row (kid 0)) from rfl]
   by_cases h2 : (yu row (kid 0)).k = 1
   ·rw [if_pos h2]; exact Vu row A cr gx ox w0 w hrow hg (.mk 18 v c Ak n cap kid) hx rfl _ _ uF_ (K 0 0 rfl uX_) (K 1 1 rfl uX_)
   ·rw [if_neg h2]; exact Vt row A cr gx ox w0 w hrow hg (.mk 18 v c Ak n cap kid) hx rfl _ uF_ (K 0 0 rfl uX_)
theorem TI {row : List V} {cols : List Int} {k : Nat} {x : V} {t : Int} (hx : row[k]? = some x) (ht : cols[k]? = some t) :
  Qe (row.drop k) (cols.drop k) = if zY x ≠ 0 then zY x else if x.k ≠ 1 /\ x.k ≠ t then 9 else Qe (row.drop (k + 1)) (cols.drop (k + 1)) := by
 obtain ⟨h1, e1⟩ := qQ9.1 hx; obtain ⟨h2, e2⟩ := qQ9.1 ht; rw [List.drop_eq_getElem_cons h1, List.drop_eq_getElem_cons h2, e1, e2]
 conv => lhs; unfold Qe
 simp
theorem Dk (cols : List Int) (row : List V) (Ac Ar : Option Addr) (cc cr : Nat) (w : World) (hlc : cols.length <= 9223372036854775807) (hlr : row.length <= 9223372036854775807) (hc : yU w Ac cols) (hr : xi w Ar row) (R : Int) (hR : x6 cols row = R) :
  Calls Tryz.prog 66 #[.slice Ac cols.length cc, .slice Ar row.length cr] w fun en w' => en = .returned (.int .i64 R) /\ za w w' := by
 by_cases hlen : row.length = cols.length
 ·have hR' : Qe (row.drop 0) (cols.drop 0) = R := by
   rw [List.drop_zero, List.drop_zero, <- hR]; unfold x6; rw [if_neg ur_]
  have HR := hh_ hR'; have Hc := hh_ hc; have Hr := hh_ hr; have d1 : ((row.length : Int) != (cols.length : Int)) = false := by simp; omega
  have Hlen := hh_ hlen; clear hR hR' hc hr hlen; go_enter Tryz.func66, Tryz.ntmps66; go_wp2
  go_loopw [15] (fun i wr => ∃ k : Nat, k <= row.length /\ i = .int .i64 k /\ Qe (row.drop k) (cols.drop k) = R /\ za w wr) (fun i _ => row.length - (intOf i).toNat)
  case atStart => exact ⟨0, Nat.zero_le _, rfl, HR.out, za.refl _⟩
  case round =>
   obtain ⟨k, hk, rfl, hinv, hg⟩ := hrel; have xt := hh_ hinv; clear hinv
   by_cases hlt : k < row.length
   ·obtain ⟨x, hxk⟩ : ∃ x, row[k]? = some x := ⟨_, qQ_ hlt⟩
    obtain ⟨t, htk⟩ : ∃ t, cols[k]? = some t := ⟨_, qQ_ (by have := Hlen.out; omega)⟩
    obtain ⟨gx, ox, rfl, hx1, hx2, hx3⟩ := Hr.out k x hxk; obtain ⟨gc, oc, rfl, ht1⟩ := Hc.out k t htk; have c1 := hg.cell hx1; have c2 := hg.cell hx2; have c3 := hg.cell hx3; have ct := hg.cell ht1; have inv2 := (TI hxk htk).symm.trans xt.out; have hlt2 : k < cols.length := by have := Hlen.out; omega
    clear hxk htk
    by_cases hw : zY x = 0
    ·have dw : (zY x != 0) = false := by simpa using hw
     rw [if_neg uD_] at inv2; have Inv2 := hh_ inv2; clear inv2 hw
     by_cases hb : x.k ≠ 1 /\ x.k ≠ t
     ·have e : R = 9 := by
       have := Inv2.out; rw [if_pos hb] at this; exact this.symm
      subst e; have b1 : (x.k != 1) = true := by simpa using hb.1
      have b2 : (x.k != t) = true := by simpa using hb.2
      clear hb Inv2 xt
      go_wp2_with ((go_at_call 113; ((with_reducible refine (jB x _).mono ?_); rintro en w2 ⟨rfl, hg2⟩; have Bx := zb.grow (zb.new wr 33 #[.int .i64 x.k, .int .i64 x.n, .string x.s]) hg2; have G2 := (hg.al _).trans hg2; obtain ⟨cx, fx⟩ := Bx.rules; clear c1 c2 c3 ct; have ct := G2.cell ht1)))
      go_quiet (fail)
      go_wp2; go_ret; exact ⟨rfl, G2.drewN _⟩
     ·have Inv3 := hh_ (show Qe (row.drop (k + 1)) (cols.drop (k + 1)) = R by
       have := Inv2.out
       rwa [if_neg hb] at this)
      clear Inv2 xt
      have hb' : (x.k != 1) = false \/ (x.k != 1) = true /\ (x.k != t) = false := by
       by_cases h1 : x.k = 1
       ·left; simpa using h1
       ·have h2 : x.k = t := Classical.byContradiction fun h => hb ⟨h1, h⟩
        right; exact ⟨by simpa using h1, by simpa using h2⟩
      clear hb; rcases hb' with b1 | ⟨b1, b2⟩
      ·exact yU_
      ·exact yU_
    ·have dw : (zY x != 0) = true := by simpa using hw
     have e : R = zY x := by rw [if_pos uD_] at inv2; exact inv2.symm
     subst e; clear hw inv2 xt
     go_wp2_with ((go_at_call 113; ((with_reducible refine (jB x _).mono ?_); rintro en w2 ⟨rfl, hg2⟩; have Bx := zb.grow (zb.new wr 33 #[.int .i64 x.k, .int .i64 x.n, .string x.s]) hg2; have G2 := (hg.al _).trans hg2; obtain ⟨cx, fx⟩ := Bx.rules; clear c1 c2 c3 ct; have ct := G2.cell ht1)))
     go_ret; exact ⟨rfl, G2⟩
   ·exact xj_
 ·have e : R = 8 := by rw [<- hR]; unfold x6; rw [if_pos hlen]
  subst e; have d1 : ((row.length : Int) != (cols.length : Int)) = true := by simp; omega
  clear hR hlen; go_enter Tryz.func66, Tryz.ntmps66; go_wp2; go_ret; exact ⟨rfl, za.refl _⟩
theorem V0 (cols : List Int) (row : List V) (Ac Ar : Option Addr) (cc cr : Nat) (w : World) (hlc : cols.length <= 9223372036854775807) (hlr : row.length <= 9223372036854775807) (hc : yU w Ac cols) (hr : xi w Ar row) (R : Int) (hR : x6 cols row = R) :
  Calls Tryz.prog 78 #[.slice Ac cols.length cc, .slice Ar row.length cr] w fun en w' => en = .returned (.int .i64 R) /\ za w w' := by
 by_cases hlen : row.length = cols.length
 ·have hR' : Qe (row.drop 0) (cols.drop 0) = R := by
   rw [List.drop_zero, List.drop_zero, <- hR]; unfold x6; rw [if_neg ur_]
  have HR := hh_ hR'; have Hc := hh_ hc; have Hr := hh_ hr; have d1 : ((cols.length : Int) != (row.length : Int)) = false := by simp; omega
  have Hlen := hh_ hlen; clear hR hR' hc hr hlen; go_enter Tryz.func78, Tryz.ntmps78; go_wp2
  go_loopw [14] (fun i wr => ∃ k : Nat, k <= row.length /\ i = .int .i64 k /\ Qe (row.drop k) (cols.drop k) = R /\ za w wr) (fun i _ => row.length - (intOf i).toNat)
  case atStart => exact ⟨0, Nat.zero_le _, rfl, HR.out, za.refl _⟩
  case round =>
   obtain ⟨k, hk, rfl, hinv, hg⟩ := hrel; have xt := hh_ hinv; clear hinv
   by_cases hlt : k < row.length
   ·obtain ⟨x, hxk⟩ : ∃ x, row[k]? = some x := ⟨_, qQ_ hlt⟩
    obtain ⟨t, htk⟩ : ∃ t, cols[k]? = some t := ⟨_, qQ_ (by have := Hlen.out; omega)⟩
    obtain ⟨gx, ox, rfl, hx1, hx2, hx3⟩ := Hr.out k x hxk; obtain ⟨gc, oc, rfl, ht1⟩ := Hc.out k t htk; have c1 := hg.cell hx1; have c2 := hg.cell hx2; have c3 := hg.cell hx3; have ct := hg.cell ht1; have inv2 := (TI hxk htk).symm.trans xt.out; have hlt2 : k < cols.length := by have := Hlen.out; omega
    clear hxk htk
    by_cases hw : zY x = 0
    ·have dw : (zY x != 0) = false := by simpa using hw
     rw [if_neg uD_] at inv2; have Inv2 := hh_ inv2; clear inv2 hw
     by_cases hb : x.k ≠ 1 /\ x.k ≠ t
     ·have e : R = 9 := by
       have := Inv2.out; rw [if_pos hb] at this; exact this.symm
      subst e; have b1 : (x.k != 1) = true := by simpa using hb.1
      have b2 : (x.k != t) = true := by simpa using hb.2
      clear hb Inv2 xt
      go_wp2_with ((go_at_call 109; ((with_reducible refine (qi x _).mono ?_); rintro en w2 ⟨rfl, hg2⟩; have G2 := hg.trans hg2; clear c1 c2 c3 ct; have ct := G2.cell ht1; have c1 := G2.cell hx1)))
      go_quiet (fail)
      go_wp2; go_ret; exact ⟨rfl, G2.drewN _⟩
     ·have Inv3 := hh_ (show Qe (row.drop (k + 1)) (cols.drop (k + 1)) = R by
       have := Inv2.out
       rwa [if_neg hb] at this)
      clear Inv2 xt
      have hb' : (x.k != t) = false \/ (x.k != t) = true /\ (x.k != 1) = false := by
       by_cases h1 : x.k = 1
       ·by_cases h2 : x.k = t; (left; simpa using h2); (right; exact ⟨by simpa using h2, by simpa using h1⟩)
       ·have h2 : x.k = t := Classical.byContradiction fun h => hb ⟨h1, h⟩
        left; simpa using h2
      clear hb; rcases hb' with b1 | ⟨b1, b2⟩
      ·exact yW_
      ·exact yW_
    ·have dw : (zY x != 0) = true := by simpa using hw
     have e : R = zY x := by rw [if_pos uD_] at inv2; exact inv2.symm
     subst e; clear hw inv2 xt
     go_wp2_with ((go_at_call 109; ((with_reducible refine (qi x _).mono ?_); rintro en w2 ⟨rfl, hg2⟩; have G2 := hg.trans hg2; clear c1 c2 c3 ct; have ct := G2.cell ht1; have c1 := G2.cell hx1)))
     go_ret; exact ⟨rfl, G2⟩
   ·exact xj_
 ·have e : R = 8 := by rw [<- hR]; unfold x6; rw [if_pos hlen]
  subst e; have d1 : ((cols.length : Int) != (row.length : Int)) = true := by simp; omega
  clear hR hlen; go_enter Tryz.func78, Tryz.ntmps78; go_wp2; go_ret; exact ⟨rfl, za.refl _⟩
theorem zcr : VB zV := ⟨⟨by decide, by decide⟩, ⟨by decide, by decide⟩, Nat.zero_le _⟩
