/- Parts of a proof. No condition. -/
import Derived.Test.YthhbiemnbkfobaaGreatGG
set_option maxRecDepth 100000
set_option maxHeartbeats 4000000
set_option maxRecDepth 100000
set_option linter.unusedSimpArgs false
set_option linter.unusedVariables false
namespace Go
variable {p : Prop}
theorem oY_ (h : p := by simp [results, Tryz.results125, go_sem, hc]) : p := h
theorem oZ_ (h : p := by simp [results, Tryz.results87, go_sem, x3]) : p := h
theorem vA_ (h : p := by simpa using hlen) : p := h
theorem vK_ (h : p := by simpa using h2) : p := h
theorem ui_ (h : p := by
 intro w1 hw1 hF K hK; obtain ⟨g, hpt, B⟩ := hF _ (List.mem_cons_self ..) ⟨_, rfl, by decide⟩; subst hpt; obtain ⟨z1, z2⟩ := B.rules; go_simp; exact hK _ (za.refl _)) : p := h
theorem up_ (h : p := by
 intro w1 hw1 hF K hK; obtain ⟨g, hsl, B⟩ := hF _ (List.mem_cons_self ..) ⟨_, rfl, by decide⟩; subst hsl; go_simp; exact hK _ _ (za.refl _) ⟨_, rfl, B⟩) : p := h
theorem uu_ (h : p := by
 exact ⟨fun v w w' hg ⟨g, e, hb⟩ => ⟨g, e, hb.grow hg⟩, fun v w w' hg ⟨g, e, hb⟩ => ⟨g, e, hb.grow hg⟩, trivial⟩) : p := h
theorem wD_ (h : p := by
 exact ⟨k + 1, by omega, by go_num, Inv3.out, G2.drewN _⟩) : p := h
theorem wL_ (h : p := by
 go_wp2_with ((go_at_call 83; ((with_reducible refine (qA x _).mono ?_); rintro en w2 ⟨rfl, hg2⟩; have Bx := zc.grow (zc.new wr 24 #[.int .i64 x.k, .int .i64 x.n, .string x.s]) hg2; have G2 := (hg.al _).trans hg2; obtain ⟨cx, fx⟩ := Bx.rules; clear c1 c2 c3 ct; have ct := G2.cell ht1)))
 go_quiet (fail)
 go_wp2; go_roundw
 case rel => exact wD_
 case measure => exact vZ_) : p := h
end Go
namespace Go.Proofs.YthhbiemnbkfobaaGreat
open Go.RowKit Go.Calm
theorem Ki (k : Int) (a b : V) (hk : 6 <= k /\ k <= 11) (w : World) : Calls Tryz.prog 125 #[.int .i64 k, a.val, b.val] w fun e w' => e = .returned (yn k a b).val /\ za w w' := by
  have : k = 6 \/ k = 7 \/ k = 8 \/ k = 9 \/ k = 10 \/ k = 11 := by omega
  have r1 := (CI a b).rb; have r2 := (KN a b).rb; have r3 := (KN b a).rb; clear hk; rcases this with rfl | rfl | rfl | rfl | rfl | rfl
  · rw [show yn 6 a b = LS a b from rfl]
    unfold V.val; go_enter Tryz.func125, Tryz.ntmps125
    go_wp2_with ((go_at_call 151; ((with_reducible refine (TA a b _).mono ?_); rintro e w' ⟨rfl, hg⟩; obtain ⟨hc, hf, hz⟩ := hg.rules)))
    exact qX_ oY_ rfl ⟨rfl, zi⟩
  · rw [show yn 7 a b = js (LS a b) from rfl]
    unfold V.val; go_enter Tryz.func125, Tryz.ntmps125
    go_wp2_with (first | (go_at_call 151; ((with_reducible refine (TA a b _).mono ?_); rintro e w' ⟨rfl, hg⟩; obtain ⟨hc, hf, hz⟩ := hg.rules)) | (go_at_call 119; ((with_reducible refine (VX _ r1 _).mono ?_); rintro e w2' ⟨rfl, hg2⟩; replace hg := hg.trans hg2; clear hg2 hc hf hz; obtain ⟨hc, hf, hz⟩ := hg.rules)))
    exact qX_ oY_ rfl ⟨rfl, zi⟩
  · rw [show yn 8 a b = xS a b from rfl]
    unfold V.val; go_enter Tryz.func125, Tryz.ntmps125
    go_wp2_with ((go_at_call 152; ((with_reducible refine (YK a b _).mono ?_); rintro e w' ⟨rfl, hg⟩; obtain ⟨hc, hf, hz⟩ := hg.rules)))
    exact qX_ oY_ rfl ⟨rfl, zi⟩
  · rw [show yn 9 a b = js (xS b a) from rfl]
    unfold V.val; go_enter Tryz.func125, Tryz.ntmps125
    go_wp2_with (first | (go_at_call 152; ((with_reducible refine (YK b a _).mono ?_); rintro e w' ⟨rfl, hg⟩; obtain ⟨hc, hf, hz⟩ := hg.rules)) | (go_at_call 119; ((with_reducible refine (VX _ r3 _).mono ?_); rintro e w2' ⟨rfl, hg2⟩; replace hg := hg.trans hg2; clear hg2 hc hf hz; obtain ⟨hc, hf, hz⟩ := hg.rules)))
    exact qX_ oY_ rfl ⟨rfl, zi⟩
  · rw [show yn 10 a b = xS b a from rfl]
    unfold V.val; go_enter Tryz.func125, Tryz.ntmps125
    go_wp2_with ((go_at_call 152; ((with_reducible refine (YK b a _).mono ?_); rintro e w' ⟨rfl, hg⟩; obtain ⟨hc, hf, hz⟩ := hg.rules)))
    exact qX_ oY_ rfl ⟨rfl, zi⟩
  · rw [show yn 11 a b = js (xS a b) from rfl]
    unfold V.val; go_enter Tryz.func125, Tryz.ntmps125
    go_wp2_with (first | (go_at_call 152; ((with_reducible refine (YK a b _).mono ?_); rintro e w' ⟨rfl, hg⟩; obtain ⟨hc, hf, hz⟩ := hg.rules)) | (go_at_call 119; ((with_reducible refine (VX _ r2 _).mono ?_); rintro e w2' ⟨rfl, hg2⟩; replace hg := hg.trans hg2; clear hg2 hc hf hz; obtain ⟨hc, hf, hz⟩ := hg.rules)))
    exact qX_ oY_ rfl ⟨rfl, zi⟩
def FU (row : List V) (A : Option Addr) (cr : Nat) (e : E) : Prop := ∀ (gx ox : Nat) (w0 w : World), EX w0 e -> zA w0 gx ox e -> xd w0 A row -> za w0 w ->
  Calls Tryz.prog 87 #[.pointer (some ⟨gx, ox, none⟩), .slice A row.length cr] w fun en w' => en = .returned (yk row e).val /\ za w w'
theorem Dy (row : List V) (A : Option Addr) (cr : Nat) (e : E) (j : Nat) (iv : Int) (hiv : iv = j) (hj : j < e.n) (a : V) (ha : yk row (e.kid j) = a) (ih : FU row A cr (e.kid j)) (gx ox b1 b2 : Nat) (w0 w : World) (hE : EX w0 e) (hx : zA w0 gx ox e) (hrow : xd w0 A row) (hg : za w0 w)
    (B1 : zc w b1 104 #[.pointer (some ⟨gx, ox, none⟩)]) (B2 : zc w b2 52 #[.slice A row.length cr]) :
    Calls Tryz.prog 118 #[.int .i64 iv, .pointer (some ⟨b1, 0, none⟩), .pointer (some ⟨b2, 0, none⟩)] w fun en w' => en = .returned a.val /\ za w w' := by
  subst hiv ha
  obtain ⟨gk, ok, hA, hck, hEk, hl⟩ : ∃ gk ok, e.A = some ⟨gk, ok, none⟩ /\ zA w0 gk (ok + j * 6) (e.kid j) /\ EX w0 (e.kid j) /\ e.n <= maxLen := by
    cases hE with
    | leaf => exact absurd hj (Nat.not_lt_zero _)
    | mk hn' hc hk hv hi =>
      obtain ⟨gk, ok, h1, h2⟩ := hc j hj; exact ⟨gk, ok, h1, h2, hk j hj, hn'⟩
  have hc5 := hx.c5; rw [hA] at hc5; have lt1 := B1.lt; have lt2 := B2.lt; have ct := fun W (h : za w0 W) => ih gk (ok + j * 6) w0 W hEk hck hrow h
  clear hE hx hck hEk ih; go_enter Tryz.func118, Tryz.ntmps118; go_wp2; refine zd (fun W => zc W w.heap.size 24 #[.int .i64 0, .int .i64 0, .string es] /\ za w W) ⟨zc.new _ _ _, (za.refl _).al _⟩ ?_; rintro W ⟨B, G⟩; apply zb 8 vP_ vP_
  case h' =>
    intro Q0 hQ0; simp only [List.take_succ_cons, List.take_zero]
    repeat ((first | ((first | apply zh rfl | apply zo rfl rfl rfl); case h1 => (intro w1 hw1 hF K hK; obtain ⟨c1, f1⟩ := (zc.grow B1 (G.trans hw1)).rules; obtain ⟨c2, f2⟩ := (zc.grow B2 (G.trans hw1)).rules; have c5 := (hg.trans (G.trans hw1)).cell hc5; go_simp; first | exact hK _ (za.refl _) | (go_at_call 87; ((with_reducible refine (ct _ (hg.trans (G.trans hw1))).mono ?_); rintro e w' ⟨rfl, hg⟩; exact ⟨_, rfl, hK _ hg⟩)))) | apply zm rfl rfl rfl rfl); intro K hK; go_simp; apply hK; clear hK K)
    refine zk ?_; intro w1 hw1 hF; apply hQ0; clear hQ0; simp only [List.drop_succ_cons, List.drop_zero]; clear hF; obtain ⟨cb, fb⟩ := (zc.grow B hw1).rules; go_wp2; exact qX_ (by simp [results, Tryz.results118, go_sem, cb]) rfl ⟨rfl, zi⟩
  case hp' => trivial
structure qU (W : World) (b : Nat) (gx ox : Nat) (A : Option Addr) (n cr : Nat) : Prop where
  b1 : zc W b 104 #[.pointer (some ⟨gx, ox, none⟩)]
  b2 : zc W (b + 1) 52 #[.slice A n cr]
  b3 : zc W (b + 2) 24 #[.int .i64 0, .int .i64 0, .string es]
abbrev KC (row : List V) (A : Option Addr) (cr gx ox : Nat) (w : World) (i : Int) (v : V) : Prop := ∀ W, qU W w.heap.size gx ox A row.length cr -> za w W -> Calls Tryz.prog 118 #[.int .i64 i, .pointer (some ⟨w.heap.size, 0, none⟩), .pointer (some ⟨w.heap.size + 1, 0, none⟩)] W fun en w' => en = .returned v.val /\ za W w'
theorem qU.grow {W W' : World} {b gx ox : Nat} {A : Option Addr} {n cr : Nat} (h : qU W b gx ox A n cr) (hg : za W W') : qU W' b gx ox A n cr := ⟨h.b1.grow hg, h.b2.grow hg, h.b3.grow hg⟩
theorem DO (row : List V) (A : Option Addr) (cr : Nat) (gx ox : Nat) (w0 w : World) (hrow : xd w0 A row) (hg : za w0 w) (e : E) (hx : zA w0 gx ox e) (hk : e.kind = 1) :
    Calls Tryz.prog 87 #[.pointer (some ⟨gx, ox, none⟩), .slice A row.length cr] w fun en w' => en = .returned (bare e.v).val /\ za w w' := by
  go_enter Tryz.func87, Tryz.ntmps87; go_upto_region 2 with fail
  refine zd (fun W => qU W w.heap.size gx ox A row.length cr /\ za w W) ⟨⟨((zc.new _ _ _).al _).al _, (zc.new' _ _ _ vV_).al _, zc.new' _ _ _ vV_⟩, zi⟩ ?_; rintro W ⟨X, G⟩; obtain ⟨c0, c1, c2, c3, c4, c5⟩ := hx.grow (hg.trans G); rw [hk] at c0; obtain ⟨x1, y1⟩ := X.b1.rules; obtain ⟨x3, y3⟩ := X.b3.rules; have l3 := X.b3.lt
  go_wp2_with ((go_at_call 78; ((with_reducible refine (Yw e.v _).mono ?_); rintro e w' ⟨rfl, hg⟩; obtain ⟨hc, hf, hz⟩ := hg.rules)))
  exact qX_ (by simp [results, Tryz.results87, go_sem, hc, l3, x3]) rfl ⟨rfl, zi⟩
theorem DN (row : List V) (A : Option Addr) (cr : Nat) (gx ox : Nat) (w0 w : World) (hrow : xd w0 A row) (hg : za w0 w) (e : E) (hx : zA w0 gx ox e) (hk : e.kind = 2) (j : Nat) (hj : e.col = j) (v : V) (hv : row[j]? = some v) (hlen : row.length <= 9223372036854775807) :
    Calls Tryz.prog 87 #[.pointer (some ⟨gx, ox, none⟩), .slice A row.length cr] w fun en w' => en = .returned (bare v).val /\ za w w' := by
  have hjl : j < row.length := (qQ9.1 hv).1; obtain ⟨ga, oa, rfl, hvc⟩ := hrow j v hv; go_enter Tryz.func87, Tryz.ntmps87; go_upto_region 2 with fail
  refine zd (fun W => qU W w.heap.size gx ox (some ⟨ga, oa, none⟩) row.length cr /\ za w W) ⟨⟨((zc.new _ _ _).al _).al _, (zc.new' _ _ _ vV_).al _, zc.new' _ _ _ vV_⟩, zi⟩ ?_; rintro W ⟨X, G⟩; obtain ⟨c0, c1, c2, c3, c4, c5⟩ := hx.grow (hg.trans G); rw [hk] at c0; rw [hj] at c4; have d4 : decide ((row.length : Int) <= (j : Int)) = false := by simp; omega
  have hx4 := hx.c4; rw [hj] at hx4; clear hx hj hk; have l3 := X.b3.lt; have x1 := X.b1.rules.1; have x2 := X.b2.rules.1; go_wp2
  go_quiet (fail)
  go_wp2; refine zd (fun W => qU W w.heap.size gx ox (some ⟨ga, oa, none⟩) row.length cr /\ za w W) ⟨X.grow zi, zi⟩ ?_; clear X G c0 c1 c2 c3 c4 c5 x1 x2 l3; rintro W ⟨X, G⟩; apply zb 8 vP_ vP_
  case h' =>
    intro Q0 hQ0; simp only [List.take_succ_cons, List.take_zero]
    repeat ((first | ((first | apply zh rfl | apply zo rfl rfl rfl); case h1 => (intro w1 hw1 hF K hK; obtain ⟨x1, y1⟩ := (X.grow hw1).b1.rules; obtain ⟨x2, y2⟩ := (X.grow hw1).b2.rules; have c4 := (hg.trans (G.trans hw1)).cell hx4; obtain ⟨v1, v2, v3⟩ := hvc.grow (hg.trans (G.trans hw1)); go_simp; first | exact hK _ (za.refl _) | (go_at_call 78; ((with_reducible refine (Yw v _).mono ?_); rintro e w' ⟨rfl, hg⟩; exact ⟨_, rfl, hK _ hg⟩)))) | apply zm rfl rfl rfl rfl); intro K hK; go_simp; apply hK; clear hK K)
    refine zk ?_; intro w1 hw1 hF; apply hQ0; clear hQ0; simp only [List.drop_succ_cons, List.drop_zero]; clear hF; obtain ⟨x3, y3⟩ := (X.grow hw1).b3.rules; go_wp2; exact qX_ oZ_ rfl ⟨rfl, zi⟩
  case hp' => trivial
theorem DQ (row : List V) (A : Option Addr) (cr : Nat) (gx ox : Nat) (w0 w : World) (hrow : xd w0 A row) (hg : za w0 w) (e : E) (hx : zA w0 gx ox e) (hk : e.kind = 3) (a : V) (ra : RV a) (K0 : KC row A cr gx ox w 0 a) :
    Calls Tryz.prog 87 #[.pointer (some ⟨gx, ox, none⟩), .slice A row.length cr] w fun en w' => en = .returned (js a).val /\ za w w' := by
  go_enter Tryz.func87, Tryz.ntmps87; go_upto_region 2 with fail
  refine zd (fun W => qU W w.heap.size gx ox A row.length cr /\ za w W) ⟨⟨((zc.new _ _ _).al _).al _, (zc.new' _ _ _ vV_).al _, zc.new' _ _ _ vV_⟩, zi⟩ ?_; rintro W ⟨X, G⟩; have hx0 := (hx.grow (hg.trans G)).c0; rw [hk] at hx0; clear hx hk; obtain ⟨x1, y1⟩ := X.b1.rules; obtain ⟨x2, y2⟩ := X.b2.rules; obtain ⟨x3, y3⟩ := X.b3.rules
  go_wp2_with (first | (go_at_call 118; ((with_reducible refine (K0 _ X G).mono ?_); rintro en w2 ⟨rfl, hg2⟩; replace X := X.grow hg2; replace G := G.trans hg2; clear hg2 x1 y1 x2 y2 x3 y3; obtain ⟨x1, y1⟩ := X.b1.rules; obtain ⟨x2, y2⟩ := X.b2.rules; obtain ⟨x3, y3⟩ := X.b3.rules)) | (go_at_call 119; ((with_reducible refine (VX _ ra.rb _).mono ?_); rintro en w2 ⟨rfl, hg2⟩; replace X := X.grow hg2; replace G := G.trans hg2; clear hg2 x1 y1 x2 y2 x3 y3; obtain ⟨x1, y1⟩ := X.b1.rules; obtain ⟨x2, y2⟩ := X.b2.rules; obtain ⟨x3, y3⟩ := X.b3.rules; have l3 := X.b3.lt)))
  exact qX_ oZ_ rfl ⟨rfl, zi⟩
theorem DJ (row : List V) (A : Option Addr) (cr : Nat) (gx ox : Nat) (w0 w : World) (hrow : xd w0 A row) (hg : za w0 w) (e : E) (hx : zA w0 gx ox e) (hk : e.kind = 4) (a b : V) (ra : RV a) (rb : RV b) (K0 : KC row A cr gx ox w 0 a) (K1 : KC row A cr gx ox w 1 b) :
    Calls Tryz.prog 87 #[.pointer (some ⟨gx, ox, none⟩), .slice A row.length cr] w fun en w' => en = .returned (kG a b).val /\ za w w' := by
  go_enter Tryz.func87, Tryz.ntmps87; go_upto_region 2 with fail
  refine zd (fun W => qU W w.heap.size gx ox A row.length cr /\ za w W) ⟨⟨((zc.new _ _ _).al _).al _, (zc.new' _ _ _ vV_).al _, zc.new' _ _ _ vV_⟩, zi⟩ ?_; rintro W ⟨X, G⟩; have hx0 := (hx.grow (hg.trans G)).c0; rw [hk] at hx0; clear hx hk; obtain ⟨x1, y1⟩ := X.b1.rules; obtain ⟨x2, y2⟩ := X.b2.rules; obtain ⟨x3, y3⟩ := X.b3.rules
  go_wp2_with (first | (go_at_call 118; ((with_reducible refine (K0 _ X G).mono ?_); rintro en w2 ⟨rfl, hg2⟩; replace X := X.grow hg2; replace G := G.trans hg2; clear hg2 x1 y1 x2 y2 x3 y3; obtain ⟨x1, y1⟩ := X.b1.rules; obtain ⟨x2, y2⟩ := X.b2.rules; obtain ⟨x3, y3⟩ := X.b3.rules)) | (go_at_call 118; ((with_reducible refine (K1 _ X G).mono ?_); rintro en w2 ⟨rfl, hg2⟩; replace X := X.grow hg2; replace G := G.trans hg2; clear hg2 x1 y1 x2 y2 x3 y3; obtain ⟨x1, y1⟩ := X.b1.rules; obtain ⟨x2, y2⟩ := X.b2.rules; obtain ⟨x3, y3⟩ := X.b3.rules)) | (go_at_call 120; ((with_reducible refine (Vk _ _ ra.rb rb.rb _).mono ?_); rintro en w2 ⟨rfl, hg2⟩; replace X := X.grow hg2; replace G := G.trans hg2; clear hg2 x1 y1 x2 y2 x3 y3; obtain ⟨x1, y1⟩ := X.b1.rules; obtain ⟨x2, y2⟩ := X.b2.rules; obtain ⟨x3, y3⟩ := X.b3.rules; have l3 := X.b3.lt)))
  exact qX_ oZ_ rfl ⟨rfl, zi⟩
theorem Fi (row : List V) (A : Option Addr) (cr : Nat) (gx ox : Nat) (w0 w : World) (hrow : xd w0 A row) (hg : za w0 w) (e : E) (hx : zA w0 gx ox e) (hk : e.kind = 5) (a b : V) (ra : RV a) (rb : RV b) (K0 : KC row A cr gx ox w 0 a) (K1 : KC row A cr gx ox w 1 b) :
    Calls Tryz.prog 87 #[.pointer (some ⟨gx, ox, none⟩), .slice A row.length cr] w fun en w' => en = .returned (K5 a b).val /\ za w w' := by
  go_enter Tryz.func87, Tryz.ntmps87; go_upto_region 2 with fail
  refine zd (fun W => qU W w.heap.size gx ox A row.length cr /\ za w W) ⟨⟨((zc.new _ _ _).al _).al _, (zc.new' _ _ _ vV_).al _, zc.new' _ _ _ vV_⟩, zi⟩ ?_; rintro W ⟨X, G⟩; have hx0 := (hx.grow (hg.trans G)).c0; rw [hk] at hx0; clear hx hk; obtain ⟨x1, y1⟩ := X.b1.rules; obtain ⟨x2, y2⟩ := X.b2.rules; obtain ⟨x3, y3⟩ := X.b3.rules
  go_wp2_with (first | (go_at_call 118; ((with_reducible refine (K0 _ X G).mono ?_); rintro en w2 ⟨rfl, hg2⟩; replace X := X.grow hg2; replace G := G.trans hg2; clear hg2 x1 y1 x2 y2 x3 y3; obtain ⟨x1, y1⟩ := X.b1.rules; obtain ⟨x2, y2⟩ := X.b2.rules; obtain ⟨x3, y3⟩ := X.b3.rules)) | (go_at_call 118; ((with_reducible refine (K1 _ X G).mono ?_); rintro en w2 ⟨rfl, hg2⟩; replace X := X.grow hg2; replace G := G.trans hg2; clear hg2 x1 y1 x2 y2 x3 y3; obtain ⟨x1, y1⟩ := X.b1.rules; obtain ⟨x2, y2⟩ := X.b2.rules; obtain ⟨x3, y3⟩ := X.b3.rules)) | (go_at_call 121; ((with_reducible refine (DW _ _ ra.rb rb.rb _).mono ?_); rintro en w2 ⟨rfl, hg2⟩; replace X := X.grow hg2; replace G := G.trans hg2; clear hg2 x1 y1 x2 y2 x3 y3; obtain ⟨x1, y1⟩ := X.b1.rules; obtain ⟨x2, y2⟩ := X.b2.rules; obtain ⟨x3, y3⟩ := X.b3.rules; have l3 := X.b3.lt)))
  exact qX_ oZ_ rfl ⟨rfl, zi⟩
theorem DK (row : List V) (A : Option Addr) (cr : Nat) (gx ox : Nat) (w0 w : World) (hrow : xd w0 A row) (hg : za w0 w) (e : E) (hx : zA w0 gx ox e) (hk : e.kind = 15) (a b : V) (ra : RV a) (rb : RV b) (K0 : KC row A cr gx ox w 0 a) (K1 : KC row A cr gx ox w 1 b) :
    Calls Tryz.prog 87 #[.pointer (some ⟨gx, ox, none⟩), .slice A row.length cr] w fun en w' => en = .returned (qg a b).val /\ za w w' := by
  go_enter Tryz.func87, Tryz.ntmps87; go_upto_region 2 with fail
  refine zd (fun W => qU W w.heap.size gx ox A row.length cr /\ za w W) ⟨⟨((zc.new _ _ _).al _).al _, (zc.new' _ _ _ vV_).al _, zc.new' _ _ _ vV_⟩, zi⟩ ?_; rintro W ⟨X, G⟩; have hx0 := (hx.grow (hg.trans G)).c0; rw [hk] at hx0; clear hx hk; obtain ⟨x1, y1⟩ := X.b1.rules; obtain ⟨x2, y2⟩ := X.b2.rules; obtain ⟨x3, y3⟩ := X.b3.rules
  go_wp2_with (first | (go_at_call 118; ((with_reducible refine (K0 _ X G).mono ?_); rintro en w2 ⟨rfl, hg2⟩; replace X := X.grow hg2; replace G := G.trans hg2; clear hg2 x1 y1 x2 y2 x3 y3; obtain ⟨x1, y1⟩ := X.b1.rules; obtain ⟨x2, y2⟩ := X.b2.rules; obtain ⟨x3, y3⟩ := X.b3.rules)) | (go_at_call 118; ((with_reducible refine (K1 _ X G).mono ?_); rintro en w2 ⟨rfl, hg2⟩; replace X := X.grow hg2; replace G := G.trans hg2; clear hg2 x1 y1 x2 y2 x3 y3; obtain ⟨x1, y1⟩ := X.b1.rules; obtain ⟨x2, y2⟩ := X.b2.rules; obtain ⟨x3, y3⟩ := X.b3.rules)) | (go_at_call 123; ((with_reducible refine (TW _ _ ra rb _).mono ?_); rintro en w2 ⟨rfl, hg2⟩; replace X := X.grow hg2; replace G := G.trans hg2; clear hg2 x1 y1 x2 y2 x3 y3; obtain ⟨x1, y1⟩ := X.b1.rules; obtain ⟨x2, y2⟩ := X.b2.rules; obtain ⟨x3, y3⟩ := X.b3.rules; have l3 := X.b3.lt)))
  exact qX_ oZ_ rfl ⟨rfl, zi⟩
theorem Sk (row : List V) (A : Option Addr) (cr : Nat) (gx ox : Nat) (w0 w : World) (hrow : xd w0 A row) (hg : za w0 w) (e : E) (hx : zA w0 gx ox e) (hk : e.kind = 17) (a b : V) (ra : RV a) (hr : (ym a == 2) = true) (K0 : KC row A cr gx ox w 0 a) (K1 : KC row A cr gx ox w 1 b) :
    Calls Tryz.prog 87 #[.pointer (some ⟨gx, ox, none⟩), .slice A row.length cr] w fun en w' => en = .returned b.val /\ za w w' := by
  go_enter Tryz.func87, Tryz.ntmps87; go_upto_region 2 with fail
  refine zd (fun W => qU W w.heap.size gx ox A row.length cr /\ za w W) ⟨⟨((zc.new _ _ _).al _).al _, (zc.new' _ _ _ vV_).al _, zc.new' _ _ _ vV_⟩, zi⟩ ?_; rintro W ⟨X, G⟩; have hx0 := (hx.grow (hg.trans G)).c0; rw [hk] at hx0; clear hx hk; obtain ⟨x1, y1⟩ := X.b1.rules; obtain ⟨x2, y2⟩ := X.b2.rules; obtain ⟨x3, y3⟩ := X.b3.rules; have ct := fun W => YZ a ra.rb W
  rw [hr] at ct
  go_wp2_with (first | (go_at_call 118; ((with_reducible refine (K0 _ X G).mono ?_); rintro en w2 ⟨rfl, hg2⟩; replace X := X.grow hg2; replace G := G.trans hg2; clear hg2 x1 y1 x2 y2 x3 y3; obtain ⟨x1, y1⟩ := X.b1.rules; obtain ⟨x2, y2⟩ := X.b2.rules; obtain ⟨x3, y3⟩ := X.b3.rules; have l3 := X.b3.lt)) | (go_at_call 118; ((with_reducible refine (K1 _ X G).mono ?_); rintro en w2 ⟨rfl, hg2⟩; replace X := X.grow hg2; replace G := G.trans hg2; clear hg2 x1 y1 x2 y2 x3 y3; obtain ⟨x1, y1⟩ := X.b1.rules; obtain ⟨x2, y2⟩ := X.b2.rules; obtain ⟨x3, y3⟩ := X.b3.rules; have l3 := X.b3.lt)) | (go_at_call 86; ((with_reducible refine (ct _).mono ?_); rintro en w2 ⟨rfl, hg2⟩; replace X := X.grow hg2; replace G := G.trans hg2; clear hg2 x1 y1 x2 y2 x3 y3; obtain ⟨x1, y1⟩ := X.b1.rules; obtain ⟨x2, y2⟩ := X.b2.rules; obtain ⟨x3, y3⟩ := X.b3.rules; have l3 := X.b3.lt)))
  have l3 := X.b3.lt; exact qX_ oZ_ rfl ⟨rfl, zi⟩
theorem Sj (row : List V) (A : Option Addr) (cr : Nat) (gx ox : Nat) (w0 w : World) (hrow : xd w0 A row) (hg : za w0 w) (e : E) (hx : zA w0 gx ox e) (hk : e.kind = 17) (a d : V) (ra : RV a) (hr : (ym a == 2) = false) (K0 : KC row A cr gx ox w 0 a) (K2 : KC row A cr gx ox w 2 d) :
    Calls Tryz.prog 87 #[.pointer (some ⟨gx, ox, none⟩), .slice A row.length cr] w fun en w' => en = .returned d.val /\ za w w' := by
  go_enter Tryz.func87, Tryz.ntmps87; go_upto_region 2 with fail
  refine zd (fun W => qU W w.heap.size gx ox A row.length cr /\ za w W) ⟨⟨((zc.new _ _ _).al _).al _, (zc.new' _ _ _ vV_).al _, zc.new' _ _ _ vV_⟩, zi⟩ ?_; rintro W ⟨X, G⟩; have hx0 := (hx.grow (hg.trans G)).c0; rw [hk] at hx0; clear hx hk; obtain ⟨x1, y1⟩ := X.b1.rules; obtain ⟨x2, y2⟩ := X.b2.rules; obtain ⟨x3, y3⟩ := X.b3.rules; have ct := fun W => YZ a ra.rb W
  rw [hr] at ct
  go_wp2_with (first | (go_at_call 118; ((with_reducible refine (K0 _ X G).mono ?_); rintro en w2 ⟨rfl, hg2⟩; replace X := X.grow hg2; replace G := G.trans hg2; clear hg2 x1 y1 x2 y2 x3 y3; obtain ⟨x1, y1⟩ := X.b1.rules; obtain ⟨x2, y2⟩ := X.b2.rules; obtain ⟨x3, y3⟩ := X.b3.rules; have l3 := X.b3.lt)) | (go_at_call 118; ((with_reducible refine (K2 _ X G).mono ?_); rintro en w2 ⟨rfl, hg2⟩; replace X := X.grow hg2; replace G := G.trans hg2; clear hg2 x1 y1 x2 y2 x3 y3; obtain ⟨x1, y1⟩ := X.b1.rules; obtain ⟨x2, y2⟩ := X.b2.rules; obtain ⟨x3, y3⟩ := X.b3.rules; have l3 := X.b3.lt)) | (go_at_call 86; ((with_reducible refine (ct _).mono ?_); rintro en w2 ⟨rfl, hg2⟩; replace X := X.grow hg2; replace G := G.trans hg2; clear hg2 x1 y1 x2 y2 x3 y3; obtain ⟨x1, y1⟩ := X.b1.rules; obtain ⟨x2, y2⟩ := X.b2.rules; obtain ⟨x3, y3⟩ := X.b3.rules; have l3 := X.b3.lt)))
  have l3 := X.b3.lt; exact qX_ oZ_ rfl ⟨rfl, zi⟩
theorem Sl (row : List V) (A : Option Addr) (cr : Nat) (gx ox : Nat) (w0 w : World) (hrow : xd w0 A row) (hg : za w0 w) (e : E) (hx : zA w0 gx ox e) (hk : e.kind = 18) (a : V) (ha : (a.k != 1) = true) (K0 : KC row A cr gx ox w 0 a) :
    Calls Tryz.prog 87 #[.pointer (some ⟨gx, ox, none⟩), .slice A row.length cr] w fun en w' => en = .returned a.val /\ za w w' := by
  go_enter Tryz.func87, Tryz.ntmps87; go_upto_region 2 with fail
  refine zd (fun W => qU W w.heap.size gx ox A row.length cr /\ za w W) ⟨⟨((zc.new _ _ _).al _).al _, (zc.new' _ _ _ vV_).al _, zc.new' _ _ _ vV_⟩, zi⟩ ?_; rintro W ⟨X, G⟩; have hx0 := (hx.grow (hg.trans G)).c0; rw [hk] at hx0; clear hx hk; obtain ⟨x1, y1⟩ := X.b1.rules; obtain ⟨x2, y2⟩ := X.b2.rules; obtain ⟨x3, y3⟩ := X.b3.rules; have l3 := X.b3.lt
  go_wp2_with (first | (go_at_call 118; ((with_reducible refine (K0 _ X G).mono ?_); rintro en w2 ⟨rfl, hg2⟩; replace X := X.grow hg2; replace G := G.trans hg2; clear hg2 x1 y1 x2 y2 x3 y3; obtain ⟨x1, y1⟩ := X.b1.rules; obtain ⟨x2, y2⟩ := X.b2.rules; obtain ⟨x3, y3⟩ := X.b3.rules; have l3 := X.b3.lt)))
  have l4 : w.heap.size + 1 + 1 < w2.heap.size := l3; have l5 : ¬ (w.heap.size + 1 + 1 = w2.heap.size) := Nat.ne_of_lt l4; exact qX_ (by simp [results, Tryz.results87, go_sem, x3, l4, l5]) rfl ⟨rfl, zi⟩
theorem Sm (row : List V) (A : Option Addr) (cr : Nat) (gx ox : Nat) (w0 w : World) (hrow : xd w0 A row) (hg : za w0 w) (e : E) (hx : zA w0 gx ox e) (hk : e.kind = 18) (a b : V) (ha : (a.k != 1) = false) (K0 : KC row A cr gx ox w 0 a) (K1 : KC row A cr gx ox w 1 b) :
    Calls Tryz.prog 87 #[.pointer (some ⟨gx, ox, none⟩), .slice A row.length cr] w fun en w' => en = .returned b.val /\ za w w' := by
  go_enter Tryz.func87, Tryz.ntmps87; go_upto_region 2 with fail
  refine zd (fun W => qU W w.heap.size gx ox A row.length cr /\ za w W) ⟨⟨((zc.new _ _ _).al _).al _, (zc.new' _ _ _ vV_).al _, zc.new' _ _ _ vV_⟩, zi⟩ ?_; rintro W ⟨X, G⟩; have hx0 := (hx.grow (hg.trans G)).c0; rw [hk] at hx0; clear hx hk; obtain ⟨x1, y1⟩ := X.b1.rules; obtain ⟨x2, y2⟩ := X.b2.rules; obtain ⟨x3, y3⟩ := X.b3.rules; have l3 := X.b3.lt
  go_wp2_with (first | (go_at_call 118; ((with_reducible refine (K0 _ X G).mono ?_); rintro en w2 ⟨rfl, hg2⟩; replace X := X.grow hg2; replace G := G.trans hg2; clear hg2 x1 y1 x2 y2 x3 y3; obtain ⟨x1, y1⟩ := X.b1.rules; obtain ⟨x2, y2⟩ := X.b2.rules; obtain ⟨x3, y3⟩ := X.b3.rules; have l3 := X.b3.lt)) | (go_at_call 118; ((with_reducible refine (K1 _ (X.grow zi) (G.trans zi)).mono ?_); rintro en w3 ⟨rfl, hg3⟩; have X3 := (X.grow zi).grow hg3; clear x1 y1 x2 y2 x3 y3; obtain ⟨x3, y3⟩ := X3.b3.rules)))
  exact qX_ oZ_ rfl ⟨rfl, zi⟩
theorem DL (row : List V) (A : Option Addr) (cr : Nat) (gx ox : Nat) (w0 w : World) (hrow : xd w0 A row) (hg : za w0 w) (e : E) (k : Int) (hx : zA w0 gx ox e) (hk : e.kind = k) (h6 : 6 <= k /\ k <= 11) (a b : V) (K0 : KC row A cr gx ox w 0 a) (K1 : KC row A cr gx ox w 1 b) :
    Calls Tryz.prog 87 #[.pointer (some ⟨gx, ox, none⟩), .slice A row.length cr] w fun en w' => en = .returned (yn k a b).val /\ za w w' := by
  go_enter Tryz.func87, Tryz.ntmps87; go_upto_region 2 with fail
  refine zd (fun W => qU W w.heap.size gx ox A row.length cr /\ za w W) ⟨⟨((zc.new _ _ _).al _).al _, (zc.new' _ _ _ vV_).al _, zc.new' _ _ _ vV_⟩, zi⟩ ?_; rintro W ⟨X, G⟩; have c0 := hx.c0; rw [hk] at c0; have hx0 := (hg.trans G).cell c0; clear hx hk; have x1 := X.b1.rules.1; have e1 : (k == 1) = false := by simp; omega
  have e2 : (k == 2) = false := by simp; omega
  have e3 : (k == 3) = false := by simp; omega
  have e4 : (k == 4) = false := by simp; omega
  have e5 : (k == 5) = false := by simp; omega
  have e12 : (k == 12) = false := by simp; omega
  have e13 : (k == 13) = false := by simp; omega
  have e14 : (k == 14) = false := by simp; omega
  have e15 : (k == 15) = false := by simp; omega
  have e16 : (k == 16) = false := by simp; omega
  have e17 : (k == 17) = false := by simp; omega
  have e18 : (k == 18) = false := by simp; omega
  go_wp2; refine zd (fun W => qU W w.heap.size gx ox A row.length cr /\ za w W) ⟨X, G⟩ ?_; clear X G hx0 x1; rintro W ⟨X, G⟩; apply zb 9 vP_ vP_
  case h' =>
    intro Q0 hQ0; simp only [List.take_succ_cons, List.take_zero]
    repeat ((first | ((first | apply zh rfl | apply zo rfl rfl rfl); case h1 => (intro w1 hw1 hF K hK; obtain ⟨x1, y1⟩ := (X.grow hw1).b1.rules; obtain ⟨x2, y2⟩ := (X.grow hw1).b2.rules; have hx0 := (hg.trans (G.trans hw1)).cell c0; go_simp; first | exact hK _ (za.refl _) | (go_at_call 118; ((with_reducible refine (K0 _ (X.grow hw1) (G.trans hw1)).mono ?_); rintro e w' ⟨rfl, hg⟩; exact ⟨_, rfl, hK _ hg⟩)) | (go_at_call 118; ((with_reducible refine (K1 _ (X.grow hw1) (G.trans hw1)).mono ?_); rintro e w' ⟨rfl, hg⟩; exact ⟨_, rfl, hK _ hg⟩)) | (go_at_call 125; ((with_reducible refine (Ki k a b h6 _).mono ?_); rintro e w' ⟨rfl, hg⟩; exact ⟨_, rfl, hK _ hg⟩)))) | apply zm rfl rfl rfl rfl); intro K hK; go_simp; apply hK; clear hK K)
    refine zk ?_; intro w1 hw1 hF; apply hQ0; clear hQ0; simp only [List.drop_succ_cons, List.drop_zero]; clear hF; obtain ⟨x3, y3⟩ := (X.grow hw1).b3.rules; go_wp2; exact qX_ oZ_ rfl ⟨rfl, zi⟩
  case hp' => trivial
theorem DI (row : List V) (A : Option Addr) (cr : Nat) (gx ox : Nat) (w0 w : World) (hrow : xd w0 A row) (hg : za w0 w) (e : E) (hx : zA w0 gx ox e) (hk : e.kind = 12) (a b : V) (ra : RV a) (rb : RV b) (K0 : KC row A cr gx ox w 0 a) (K1 : KC row A cr gx ox w 1 b) :
    Calls Tryz.prog 87 #[.pointer (some ⟨gx, ox, none⟩), .slice A row.length cr] w fun en w' => en = .returned (yi 43 a b).val /\ za w w' := by
  go_enter Tryz.func87, Tryz.ntmps87; go_upto_region 2 with fail
  refine zd (fun W => qU W w.heap.size gx ox A row.length cr /\ za w W) ⟨⟨((zc.new _ _ _).al _).al _, (zc.new' _ _ _ vV_).al _, zc.new' _ _ _ vV_⟩, zi⟩ ?_; rintro W ⟨X, G⟩; have c0 := hx.c0; rw [hk] at c0; have hx0 := (hg.trans G).cell c0; clear hx hk; have x1 := X.b1.rules.1; go_wp2; refine zd (fun W => qU W w.heap.size gx ox A row.length cr /\ za w W) ⟨X, G⟩ ?_; clear X G hx0 x1; rintro W ⟨X, G⟩; apply zb 13 vP_ vP_
  case h' =>
    intro Q0 hQ0; simp only [List.take_succ_cons, List.take_zero]; apply ze (fun v W => ∃ g, v = .slice (some ⟨g, 0, none⟩) 3 3 /\ zc W g 21 #[.int .i32 43, .int .i32 45, .int .i32 42]) rfl
    case h1 => exact vY_
    intro sl K hK; go_simp; apply hK; clear hK K
    repeat ((first | ((first | apply zh rfl | apply zo rfl rfl rfl); case h1 => (intro w1 hw1 hF K hK; obtain ⟨x1, y1⟩ := (X.grow hw1).b1.rules; obtain ⟨x2, y2⟩ := (X.grow hw1).b2.rules; have hx0 := (hg.trans (G.trans hw1)).cell c0; go_simp; first | exact hK _ (za.refl _))) | apply zm rfl rfl rfl rfl); intro K hK; go_simp; apply hK; clear hK K)
    apply ze (fun v W => ∃ g, v = .pointer (some ⟨g, 0, none⟩) /\ zc W g 21 #[.int .i32 43, .int .i32 45, .int .i32 42]) rfl
    case h1 => exact up_
    intro pt K hK; go_simp; apply hK; clear hK K; apply zh rfl
    case h1 => exact ui_
    intro K hK; go_simp; apply hK; clear hK K
    repeat ((first | ((first | apply zh rfl | apply zo rfl rfl rfl); case h1 => (intro w1 hw1 hF K hK; obtain ⟨x1, y1⟩ := (X.grow hw1).b1.rules; obtain ⟨x2, y2⟩ := (X.grow hw1).b2.rules; have hx0 := (hg.trans (G.trans hw1)).cell c0; go_simp; first | exact hK _ (za.refl _) | (go_at_call 118; ((with_reducible refine (K0 _ (X.grow hw1) (G.trans hw1)).mono ?_); rintro e w' ⟨rfl, hg⟩; exact ⟨_, rfl, hK _ hg⟩)) | (go_at_call 118; ((with_reducible refine (K1 _ (X.grow hw1) (G.trans hw1)).mono ?_); rintro e w' ⟨rfl, hg⟩; exact ⟨_, rfl, hK _ hg⟩)) | (go_at_call 122; ((with_reducible refine (Yf 43 a b ra rb _).mono ?_); rintro e w' ⟨rfl, hg⟩; exact ⟨_, rfl, hK _ hg⟩)))) | apply zm rfl rfl rfl rfl); intro K hK; go_simp; apply hK; clear hK K)
    refine zk ?_; intro w1 hw1 hF; apply hQ0; clear hQ0; simp only [List.drop_succ_cons, List.drop_zero]; clear hF; obtain ⟨x3, y3⟩ := (X.grow hw1).b3.rules; go_wp2; exact qX_ oZ_ rfl ⟨rfl, zi⟩
  case hp' => exact uu_
theorem DS (row : List V) (A : Option Addr) (cr : Nat) (gx ox : Nat) (w0 w : World) (hrow : xd w0 A row) (hg : za w0 w) (e : E) (hx : zA w0 gx ox e) (hk : e.kind = 13) (a b : V) (ra : RV a) (rb : RV b) (K0 : KC row A cr gx ox w 0 a) (K1 : KC row A cr gx ox w 1 b) :
    Calls Tryz.prog 87 #[.pointer (some ⟨gx, ox, none⟩), .slice A row.length cr] w fun en w' => en = .returned (yi 45 a b).val /\ za w w' := by
  go_enter Tryz.func87, Tryz.ntmps87; go_upto_region 2 with fail
  refine zd (fun W => qU W w.heap.size gx ox A row.length cr /\ za w W) ⟨⟨((zc.new _ _ _).al _).al _, (zc.new' _ _ _ vV_).al _, zc.new' _ _ _ vV_⟩, zi⟩ ?_; rintro W ⟨X, G⟩; have c0 := hx.c0; rw [hk] at c0; have hx0 := (hg.trans G).cell c0; clear hx hk; have x1 := X.b1.rules.1; go_wp2; refine zd (fun W => qU W w.heap.size gx ox A row.length cr /\ za w W) ⟨X, G⟩ ?_; clear X G hx0 x1; rintro W ⟨X, G⟩; apply zb 13 vP_ vP_
  case h' =>
    intro Q0 hQ0; simp only [List.take_succ_cons, List.take_zero]; apply ze (fun v W => ∃ g, v = .slice (some ⟨g, 0, none⟩) 3 3 /\ zc W g 21 #[.int .i32 43, .int .i32 45, .int .i32 42]) rfl
    case h1 => exact vY_
    intro sl K hK; go_simp; apply hK; clear hK K
    repeat ((first | ((first | apply zh rfl | apply zo rfl rfl rfl); case h1 => (intro w1 hw1 hF K hK; obtain ⟨x1, y1⟩ := (X.grow hw1).b1.rules; obtain ⟨x2, y2⟩ := (X.grow hw1).b2.rules; have hx0 := (hg.trans (G.trans hw1)).cell c0; go_simp; first | exact hK _ (za.refl _))) | apply zm rfl rfl rfl rfl); intro K hK; go_simp; apply hK; clear hK K)
    apply ze (fun v W => ∃ g, v = .pointer (some ⟨g, 1, none⟩) /\ zc W g 21 #[.int .i32 43, .int .i32 45, .int .i32 42]) rfl
    case h1 => exact up_
    intro pt K hK; go_simp; apply hK; clear hK K; apply zh rfl
    case h1 => exact ui_
    intro K hK; go_simp; apply hK; clear hK K
    repeat ((first | ((first | apply zh rfl | apply zo rfl rfl rfl); case h1 => (intro w1 hw1 hF K hK; obtain ⟨x1, y1⟩ := (X.grow hw1).b1.rules; obtain ⟨x2, y2⟩ := (X.grow hw1).b2.rules; have hx0 := (hg.trans (G.trans hw1)).cell c0; go_simp; first | exact hK _ (za.refl _) | (go_at_call 118; ((with_reducible refine (K0 _ (X.grow hw1) (G.trans hw1)).mono ?_); rintro e w' ⟨rfl, hg⟩; exact ⟨_, rfl, hK _ hg⟩)) | (go_at_call 118; ((with_reducible refine (K1 _ (X.grow hw1) (G.trans hw1)).mono ?_); rintro e w' ⟨rfl, hg⟩; exact ⟨_, rfl, hK _ hg⟩)) | (go_at_call 122; ((with_reducible refine (Yf 45 a b ra rb _).mono ?_); rintro e w' ⟨rfl, hg⟩; exact ⟨_, rfl, hK _ hg⟩)))) | apply zm rfl rfl rfl rfl); intro K hK; go_simp; apply hK; clear hK K)
    refine zk ?_; intro w1 hw1 hF; apply hQ0; clear hQ0; simp only [List.drop_succ_cons, List.drop_zero]; clear hF; obtain ⟨x3, y3⟩ := (X.grow hw1).b3.rules; go_wp2; exact qX_ oZ_ rfl ⟨rfl, zi⟩
  case hp' => exact uu_
theorem DP (row : List V) (A : Option Addr) (cr : Nat) (gx ox : Nat) (w0 w : World) (hrow : xd w0 A row) (hg : za w0 w) (e : E) (hx : zA w0 gx ox e) (hk : e.kind = 14) (a b : V) (ra : RV a) (rb : RV b) (K0 : KC row A cr gx ox w 0 a) (K1 : KC row A cr gx ox w 1 b) :
    Calls Tryz.prog 87 #[.pointer (some ⟨gx, ox, none⟩), .slice A row.length cr] w fun en w' => en = .returned (yi 42 a b).val /\ za w w' := by
  go_enter Tryz.func87, Tryz.ntmps87; go_upto_region 2 with fail
  refine zd (fun W => qU W w.heap.size gx ox A row.length cr /\ za w W) ⟨⟨((zc.new _ _ _).al _).al _, (zc.new' _ _ _ vV_).al _, zc.new' _ _ _ vV_⟩, zi⟩ ?_; rintro W ⟨X, G⟩; have c0 := hx.c0; rw [hk] at c0; have hx0 := (hg.trans G).cell c0; clear hx hk; have x1 := X.b1.rules.1; go_wp2; refine zd (fun W => qU W w.heap.size gx ox A row.length cr /\ za w W) ⟨X, G⟩ ?_; clear X G hx0 x1; rintro W ⟨X, G⟩; apply zb 13 vP_ vP_
  case h' =>
    intro Q0 hQ0; simp only [List.take_succ_cons, List.take_zero]; apply ze (fun v W => ∃ g, v = .slice (some ⟨g, 0, none⟩) 3 3 /\ zc W g 21 #[.int .i32 43, .int .i32 45, .int .i32 42]) rfl
    case h1 => exact vY_
    intro sl K hK; go_simp; apply hK; clear hK K
    repeat ((first | ((first | apply zh rfl | apply zo rfl rfl rfl); case h1 => (intro w1 hw1 hF K hK; obtain ⟨x1, y1⟩ := (X.grow hw1).b1.rules; obtain ⟨x2, y2⟩ := (X.grow hw1).b2.rules; have hx0 := (hg.trans (G.trans hw1)).cell c0; go_simp; first | exact hK _ (za.refl _))) | apply zm rfl rfl rfl rfl); intro K hK; go_simp; apply hK; clear hK K)
    apply ze (fun v W => ∃ g, v = .pointer (some ⟨g, 2, none⟩) /\ zc W g 21 #[.int .i32 43, .int .i32 45, .int .i32 42]) rfl
    case h1 => exact up_
    intro pt K hK; go_simp; apply hK; clear hK K; apply zh rfl
    case h1 => exact ui_
    intro K hK; go_simp; apply hK; clear hK K
    repeat ((first | ((first | apply zh rfl | apply zo rfl rfl rfl); case h1 => (intro w1 hw1 hF K hK; obtain ⟨x1, y1⟩ := (X.grow hw1).b1.rules; obtain ⟨x2, y2⟩ := (X.grow hw1).b2.rules; have hx0 := (hg.trans (G.trans hw1)).cell c0; go_simp; first | exact hK _ (za.refl _) | (go_at_call 118; ((with_reducible refine (K0 _ (X.grow hw1) (G.trans hw1)).mono ?_); rintro e w' ⟨rfl, hg⟩; exact ⟨_, rfl, hK _ hg⟩)) | (go_at_call 118; ((with_reducible refine (K1 _ (X.grow hw1) (G.trans hw1)).mono ?_); rintro e w' ⟨rfl, hg⟩; exact ⟨_, rfl, hK _ hg⟩)) | (go_at_call 122; ((with_reducible refine (Yf 42 a b ra rb _).mono ?_); rintro e w' ⟨rfl, hg⟩; exact ⟨_, rfl, hK _ hg⟩)))) | apply zm rfl rfl rfl rfl); intro K hK; go_simp; apply hK; clear hK K)
    refine zk ?_; intro w1 hw1 hF; apply hQ0; clear hQ0; simp only [List.drop_succ_cons, List.drop_zero]; clear hF; obtain ⟨x3, y3⟩ := (X.grow hw1).b3.rules; go_wp2; exact qX_ oZ_ rfl ⟨rfl, zi⟩
  case hp' => exact uu_
theorem V4 (row : List V) (A : Option Addr) (cr : Nat) (gx ox : Nat) (w0 w : World) (hrow : xd w0 A row) (hg : za w0 w) (e : E) (hx : zA w0 gx ox e) (hk : e.kind = 16) (a : V) (K0 : KC row A cr gx ox w 0 a) :
    Calls Tryz.prog 87 #[.pointer (some ⟨gx, ox, none⟩), .slice A row.length cr] w fun en w' => en = .returned (xO (a.k == 1)).val /\ za w w' := by
  unfold KC V.val at K0; have hfd : ∀ W : World, (Instr.field 24 (.agg #[.int .i64 a.k, .int .i64 a.n, .string a.s]) 0).run Tryz.prog W = .ok (.int .i64 a.k) W := fun _ => by kernel_rfl
  go_enter Tryz.func87, Tryz.ntmps87; go_upto_region 2 with fail
  refine zd (fun W => qU W w.heap.size gx ox A row.length cr /\ za w W) ⟨⟨((zc.new _ _ _).al _).al _, (zc.new' _ _ _ vV_).al _, zc.new' _ _ _ vV_⟩, zi⟩ ?_; rintro W ⟨X, G⟩; have hx0 := (hx.grow (hg.trans G)).c0; rw [hk] at hx0; clear hx hk; obtain ⟨x1, y1⟩ := X.b1.rules; obtain ⟨x2, y2⟩ := X.b2.rules; obtain ⟨x3, y3⟩ := X.b3.rules
  go_wp2_with (first | (go_at_call 118; ((with_reducible refine (K0 _ X G).mono ?_); rintro en w2 ⟨rfl, hg2⟩; replace X := X.grow hg2; replace G := G.trans hg2; clear hg2 x1 y1 x2 y2 x3 y3; obtain ⟨x1, y1⟩ := X.b1.rules; obtain ⟨x2, y2⟩ := X.b2.rules; obtain ⟨x3, y3⟩ := X.b3.rules)) | (go_at_call 124; ((with_reducible refine (Yz _ _).mono ?_); rintro en w2 ⟨rfl, hg2⟩; replace X := X.grow hg2; replace G := G.trans hg2; clear hg2 x1 y1 x2 y2 x3 y3; obtain ⟨x1, y1⟩ := X.b1.rules; obtain ⟨x2, y2⟩ := X.b2.rules; obtain ⟨x3, y3⟩ := X.b3.rules; have l3 := X.b3.lt)))
  exact qX_ oZ_ rfl ⟨rfl, zi⟩
theorem Ky (row : List V) (A : Option Addr) (cr : Nat) (hlen : row.length <= 9223372036854775807) (hr : ∀ x ∈ row, RV x) (e : E) (hre : RE row.length e) : FU row A cr e := by
  induction hre with
  | @mk k v c Ak n cap kid h0 hn hv hc hk ih =>
    intro gx ox w0 w hE hx hrow hg; have rv : ∀ i, i < n -> RV (yk row (kid i)) := fun i hi => XM row hr _ (hk i hi)
    have K : ∀ (j : Nat) (iv : Int), iv = j -> j < n -> ∀ W, qU W w.heap.size gx ox A row.length cr -> za w W -> Calls Tryz.prog 118 #[.int .i64 iv, .pointer (some ⟨w.heap.size, 0, none⟩), .pointer (some ⟨w.heap.size + 1, 0, none⟩)] W fun en w' => en = .returned (yk row (kid j)).val /\ za W w' :=
      fun j iv hiv hj W X G => Dy row A cr (.mk k v c Ak n cap kid) j iv hiv hj _ rfl (ih j hj) gx ox w.heap.size (w.heap.size + 1) w0 W hE hx hrow (hg.trans G) X.b1 X.b2
    have e0 : yk row (.mk k v c Ak n cap kid) = if k = 1 then bare v else if k = 2 then bare (row.getD c.toNat zR) else JC k (yk row (kid 0)) (yk row (kid 1)) (yk row (kid 2)) := rfl
    rw [e0]; clear e0; rcases kinds h0 with h | h | h | h | h | h | h | h | h | h | h | h | h
    · subst h
      exact DO row A cr gx ox w0 w hrow hg (.mk 1 v c Ak n cap kid) hx rfl
    · subst h
      obtain ⟨c0, c1⟩ := hc rfl; have hl : c.toNat < row.length := by omega
      rw [if_neg vT_, if_pos rfl, List.getD_eq_getElem?_getD, qQ_ hl]; exact DN row A cr gx ox w0 w hrow hg (.mk 2 v c Ak n cap kid) hx rfl c.toNat (by show c = _; omega) _ (qQ_ hl) hlen
    · subst h
      have kn : zy 3 = 1 := rfl; exact DQ row A cr gx ox w0 w hrow hg (.mk 3 v c Ak n cap kid) hx rfl _ (rv 0 vU_) (K 0 0 rfl vU_)
    · subst h
      have kn : zy 4 = 2 := rfl; exact DJ row A cr gx ox w0 w hrow hg (.mk 4 v c Ak n cap kid) hx rfl _ _ (rv 0 vU_) (rv 1 vU_) (K 0 0 rfl vU_) (K 1 1 rfl vU_)
    · subst h
      have kn : zy 5 = 2 := rfl; exact Fi row A cr gx ox w0 w hrow hg (.mk 5 v c Ak n cap kid) hx rfl _ _ (rv 0 vU_) (rv 1 vU_) (K 0 0 rfl vU_) (K 1 1 rfl vU_)
    · have kn : zy k = 2 := by
        unfold zy; rw [if_neg vU_, if_neg vU_, if_pos vU_]
      rw [if_neg vU_, if_neg vU_, Ud h]; exact DL row A cr gx ox w0 w hrow hg (.mk k v c Ak n cap kid) k hx rfl h _ _ (K 0 0 rfl vU_) (K 1 1 rfl vU_)
    · subst h
      have kn : zy 12 = 2 := rfl; exact DI row A cr gx ox w0 w hrow hg (.mk 12 v c Ak n cap kid) hx rfl _ _ (rv 0 vU_) (rv 1 vU_) (K 0 0 rfl vU_) (K 1 1 rfl vU_)
    · subst h
      have kn : zy 13 = 2 := rfl; exact DS row A cr gx ox w0 w hrow hg (.mk 13 v c Ak n cap kid) hx rfl _ _ (rv 0 vU_) (rv 1 vU_) (K 0 0 rfl vU_) (K 1 1 rfl vU_)
    · subst h
      have kn : zy 14 = 2 := rfl; exact DP row A cr gx ox w0 w hrow hg (.mk 14 v c Ak n cap kid) hx rfl _ _ (rv 0 vU_) (rv 1 vU_) (K 0 0 rfl vU_) (K 1 1 rfl vU_)
    · subst h
      have kn : zy 15 = 2 := rfl; exact DK row A cr gx ox w0 w hrow hg (.mk 15 v c Ak n cap kid) hx rfl _ _ (rv 0 vU_) (rv 1 vU_) (K 0 0 rfl vU_) (K 1 1 rfl vU_)
    · subst h
      have kn : zy 16 = 1 := rfl; exact V4 row A cr gx ox w0 w hrow hg (.mk 16 v c Ak n cap kid) hx rfl _ (K 0 0 rfl vU_)
    · subst h
      have kn : zy 17 = 3 := rfl; rw [if_neg vT_, if_neg vT_, show JC 17 (yk row (kid 0)) (yk row (kid 1)) (yk row (kid 2)) = (if ym (yk row (kid 0)) = 2 then yk row (kid 1) else yk row (kid 2)) from rfl]
      by_cases h2 : ym (yk row (kid 0)) = 2
      · rw [if_pos h2]
        exact Sk row A cr gx ox w0 w hrow hg (.mk 17 v c Ak n cap kid) hx rfl _ _ (rv 0 vU_) vK_ (K 0 0 rfl vU_) (K 1 1 rfl vU_)
      · rw [if_neg h2]
        exact Sj row A cr gx ox w0 w hrow hg (.mk 17 v c Ak n cap kid) hx rfl _ _ (rv 0 vU_) vK_ (K 0 0 rfl vU_) (K 2 2 rfl vU_)
    · subst h
      have kn : zy 18 = 2 := rfl; rw [if_neg vT_, if_neg vT_, show JC 18 (yk row (kid 0)) (yk row (kid 1)) (yk row (kid 2)) = (if (yk row (kid 0)).k = 1 then yk row (kid 1) else yk row (kid 0)) from rfl]
      by_cases h2 : (yk row (kid 0)).k = 1
      · rw [if_pos h2]
        exact Sm row A cr gx ox w0 w hrow hg (.mk 18 v c Ak n cap kid) hx rfl _ _ vK_ (K 0 0 rfl vU_) (K 1 1 rfl vU_)
      · rw [if_neg h2]
        exact Sl row A cr gx ox w0 w hrow hg (.mk 18 v c Ak n cap kid) hx rfl _ vK_ (K 0 0 rfl vU_)
theorem VI {row : List V} {cols : List Int} {k : Nat} {x : V} {t : Int} (hx : row[k]? = some x) (ht : cols[k]? = some t) :
    QL (row.drop k) (cols.drop k) = if yC x ≠ 0 then yC x else if x.k ≠ 1 /\ x.k ≠ t then 9 else QL (row.drop (k + 1)) (cols.drop (k + 1)) := by
  obtain ⟨h1, e1⟩ := qQ9.1 hx; obtain ⟨h2, e2⟩ := qQ9.1 ht; rw [List.drop_eq_getElem_cons h1, List.drop_eq_getElem_cons h2, e1, e2]
  conv => lhs; unfold QL
  simp
theorem TJ (cols : List Int) (row : List V) (Ac Ar : Option Addr) (cc cr : Nat) (w : World) (hlc : cols.length <= 9223372036854775807) (hlr : row.length <= 9223372036854775807) (hc : xc w Ac cols) (hr : xd w Ar row) (R : Int) (hR : x6 cols row = R) :
    Calls Tryz.prog 47 #[.slice Ac cols.length cc, .slice Ar row.length cr] w fun en w' => en = .returned (.int .i64 R) /\ za w w' := by
  by_cases hlen : row.length = cols.length
  · have hR' : QL (row.drop 0) (cols.drop 0) = R := by
      rw [List.drop_zero, List.drop_zero, <- hR]; unfold x6; rw [if_neg vA_]
    have HR := hh_ hR'; have Hc := hh_ hc; have Hr := hh_ hr; have d1 : ((row.length : Int) != (cols.length : Int)) = false := by simp; omega
    have Hlen := hh_ hlen; clear hR hR' hc hr hlen; go_enter Tryz.func47, Tryz.ntmps47; go_wp2
    go_loopw [15] (fun i wr => ∃ k : Nat, k <= row.length /\ i = .int .i64 k /\ QL (row.drop k) (cols.drop k) = R /\ za w wr) (fun i _ => row.length - (intOf i).toNat)
    case atStart => exact ⟨0, Nat.zero_le _, rfl, HR.out, za.refl _⟩
    case round =>
      obtain ⟨k, hk, rfl, hinv, hg⟩ := hrel; have kL := hh_ hinv; clear hinv
      by_cases hlt : k < row.length
      · obtain ⟨x, hxk⟩ : ∃ x, row[k]? = some x := ⟨_, qQ_ hlt⟩
        obtain ⟨t, htk⟩ : ∃ t, cols[k]? = some t := ⟨_, qQ_ (by have := Hlen.out; omega)⟩
        obtain ⟨gx, ox, rfl, hx1, hx2, hx3⟩ := Hr.out k x hxk; obtain ⟨gc, oc, rfl, ht1⟩ := Hc.out k t htk; have c1 := hg.cell hx1; have c2 := hg.cell hx2; have c3 := hg.cell hx3; have ct := hg.cell ht1; have inv2 := (VI hxk htk).symm.trans kL.out; have hlt2 : k < cols.length := by have := Hlen.out; omega
        clear hxk htk
        by_cases hw : yC x = 0
        · have dw : (yC x != 0) = false := by simpa using hw
          rw [if_neg (by simpa using hw)] at inv2; have Inv2 := hh_ inv2; clear inv2 hw
          by_cases hb : x.k ≠ 1 /\ x.k ≠ t
          · have e : R = 9 := by
              have := Inv2.out; rw [if_pos hb] at this; exact this.symm
            subst e; have b1 : (x.k != 1) = true := by simpa using hb.1
            have b2 : (x.k != t) = true := by simpa using hb.2
            clear hb Inv2 kL
            go_wp2_with ((go_at_call 83; ((with_reducible refine (qA x _).mono ?_); rintro en w2 ⟨rfl, hg2⟩; have Bx := zc.grow (zc.new wr 24 #[.int .i64 x.k, .int .i64 x.n, .string x.s]) hg2; have G2 := (hg.al _).trans hg2; obtain ⟨cx, fx⟩ := Bx.rules; clear c1 c2 c3 ct; have ct := G2.cell ht1)))
            go_quiet (fail)
            go_wp2; go_ret; exact ⟨rfl, G2.drewN _⟩
          · have Inv3 := hh_ (show QL (row.drop (k + 1)) (cols.drop (k + 1)) = R by
              have := Inv2.out
              rwa [if_neg hb] at this)
            clear Inv2 kL
            have hb' : (x.k != 1) = false \/ (x.k != 1) = true /\ (x.k != t) = false := by
              by_cases h1 : x.k = 1
              · left; simpa using h1
              · have h2 : x.k = t := Classical.byContradiction fun h => hb ⟨h1, h⟩
                right; exact ⟨by simpa using h1, by simpa using h2⟩
            clear hb; rcases hb' with b1 | ⟨b1, b2⟩
            · exact wL_
            · exact wL_
        · have dw : (yC x != 0) = true := by simpa using hw
          have e : R = yC x := by rw [if_pos (by simpa using hw)] at inv2; exact inv2.symm
          subst e; clear hw inv2 kL
          go_wp2_with ((go_at_call 83; ((with_reducible refine (qA x _).mono ?_); rintro en w2 ⟨rfl, hg2⟩; have Bx := zc.grow (zc.new wr 24 #[.int .i64 x.k, .int .i64 x.n, .string x.s]) hg2; have G2 := (hg.al _).trans hg2; obtain ⟨cx, fx⟩ := Bx.rules; clear c1 c2 c3 ct; have ct := G2.cell ht1)))
          go_ret; exact ⟨rfl, G2⟩
      · have e : R = 0 := by
          have := kL.out; rw [List.drop_eq_nil_of_le vU_] at this; exact this.symm
        subst e; clear kL; go_wp2; go_ret; exact ⟨rfl, hg⟩
  · have e : R = 8 := by rw [<- hR]; unfold x6; rw [if_pos hlen]
    subst e; have d1 : ((row.length : Int) != (cols.length : Int)) = true := by simp; omega
    clear hR hlen; go_enter Tryz.func47, Tryz.ntmps47; go_wp2; go_ret; exact ⟨rfl, za.refl _⟩
