/- Parts of a proof. No condition. -/
import Derived.Test.YtphaeahdmfapgaaGreatGS
set_option maxRecDepth 100000
set_option maxHeartbeats 2000000
set_option maxRecDepth 100000
set_option linter.unusedSimpArgs false
set_option linter.unusedVariables false
namespace Go
variable {p : Prop}
theorem w2_ (h : p := by
 rcases h.2 with ⟨e, _⟩ | ⟨g', cap', cur, e, hB, hgb, _, _, _, ht⟩
 ·simp at e
 ·simp at e; obtain ⟨rfl, rfl⟩ := e; refine ⟨⟨cur.toList.drop (n * 2), ?_⟩, hB⟩; unfold zc; rw [<- ht, List.take_append_drop]; simpa using hgb) : p := h
theorem xw_ (h : p := by
 exact ⟨fun v w w' hg ⟨B, c, e, h⟩ => ⟨B, c, e, h.grow hg⟩, fun v w w' hg ⟨B, c, e, h⟩ => ⟨B, c, e, h.grow hg⟩, trivial⟩) : p := h
end Go
namespace Go.Proofs.YtphaeahdmfapgaaGreat
open Go.RowKit Go.Calm
def ZI (w : World) (g : Nat) (xs : List I) : Prop := ∃ rest : List Value, zc w g 59 (zx xs ++ rest).toArray
theorem ZI.lt {w : World} {g : Nat} {xs : List I} (h : ZI w g xs) : g < w.heap.size := by
 obtain ⟨r, h⟩ := h; exact zc.lt h
theorem ZI.at {w : World} {g : Nat} {xs : List I} (h : ZI w g xs) {i : Nat} {x : I} (hx : xs[i]? = some x) : w.cell? ⟨g, i * 2, none⟩ = some (.slice x.A x.row.length x.cap) /\ w.cell? ⟨g, i * 2 + 1, none⟩ = some (.int .i64 x.w) := by
 obtain ⟨r, h⟩ := h; obtain ⟨a, b⟩ := xI xs i x hx; have la := (qQ9.1 a).1; have lb := (qQ9.1 b).1; rw [zc.cell h, zc.cell h]; rw [List.getElem?_toArray, List.getElem?_toArray, List.getElem?_append_left la, List.getElem?_append_left lb]; exact ⟨a, b⟩
theorem ZI.frozen {w : World} {g : Nat} {xs : List I} (h : ZI w g xs) (i : Nat) : w.frozen? ⟨g, i, none⟩ = false := by
 obtain ⟨r, h⟩ := h; exact zc.frozen h i
theorem ZI.grow {w w' : World} {g : Nat} {xs : List I} (h : ZI w g xs) (hg : za w w') : ZI w' g xs := by
 obtain ⟨r, h⟩ := h; exact ⟨r, zc.grow h hg⟩
theorem ZI.drew {w : World} {g : Nat} {xs : List I} (h : ZI w g xs) : ZI w.drew g xs := h
theorem ZI.put {w : World} {g : Nat} {xs : List I} (h : ZI w g xs) {i : Nat} (hi : i < xs.length) (y : I) : ZI ((w.setCell ⟨g, i * 2, none⟩ (.slice y.A y.row.length y.cap)).setCell ⟨g, i * 2 + 1, none⟩ (.int .i64 y.w)) g (xs.set i y) := by
 obtain ⟨r, h⟩ := h; have hb := ((zc.set h (i * 2) (.slice y.A y.row.length y.cap)).set (i * 2 + 1) (.int .i64 y.w))
 refine ⟨r, ?_⟩; rw [<- Yl xs i y hi]; have l1 : i * 2 < (zx xs).length := by rw [yW]; omega
 have l2 : i * 2 + 1 < ((zx xs).set (i * 2) (.slice y.A y.row.length y.cap)).length := by rw [List.length_set, yW]; omega
 simp only [List.setIfInBounds_toArray, List.set_append_left _ _ l1, List.set_append_left _ _ l2] at hb; exact hb
theorem U5 {w : World} {base n cap g : Nat} {xs : List I} (h : w.ownsRow base 59 2 (.slice (some ⟨g, 0, none⟩) n cap) n (zx xs)) : ZI w g xs /\ base <= g := w2_
theorem ZI.zin {w : World} {g : Nat} {xs : List I} (h : ZI w g xs) (hv : ∀ x ∈ xs, yS w x.A x.row) : xc w (some ⟨g, 0, none⟩) xs := fun i x hx => by
 obtain ⟨a, b⟩ := h.at hx; exact ⟨g, 0, rfl, by simpa using a, by simpa using b, hv x (qZ_ hx)⟩
structure KS where
 es : List E
 A : Option Addr
 c : Nat
 gk : Nat
def YP (K : KS) (x : I) : List V := K.es.map (yd x.row)
def R2 (K : KS) (x y : I) : Int := zC xT (YP K x) (YP K y)
def Wa (K : KS) (x y : I) : Int := if zC zH (YP K x) (YP K y) ≠ 0 then zC zH (YP K x) (YP K y) else zC zH x.row y.row
def tg (x y : I) : Prop := zZ x.row y.row < 0
structure j0 (K : KS) (g : Nat) (w0 : World) (x : I) : Prop where
 sl : ∀ W, GX g w0 W -> yS W x.A x.row
 ks : ∀ W, GX g w0 W -> zc W K.gk 25 #[.slice K.A K.es.length K.c] /\ Xa W K.A K.es
 len : x.row.length <= 9223372036854775807
 kl : K.es.length <= 1000
 rv : ∀ v ∈ x.row, RV v
 re : ∀ e ∈ K.es, RE x.row.length e
theorem j0.kv {K : KS} {g : Nat} {w0 : World} {x : I} (h : j0 K g w0 x) : ∀ v ∈ YP K x, RV v := fun v hv => by
 obtain ⟨e, he, rfl⟩ := List.mem_map.1 hv; exact XW x.row h.rv e (h.re e he)
theorem R6 {K : KS} {g : Nat} {w0 : World} {x y : I} (hx : j0 K g w0 x) (hy : j0 K g w0 y) : Wa K y x = - Wa K x y := by
 have h1 := yu zH yr (YP K x) (YP K y); have h2 := yu zH yr x.row y.row; unfold Wa; split <;> split <;> omega
theorem Yv (a b c : List V) : (zC zH a b <= 0 -> zC zH b c <= 0 -> zC zH a c <= 0) /\ (zC zH a b <= 0 -> zC zH b c <= 0 -> zC zH a c = 0 -> zC zH a b = 0 /\ zC zH b c = 0) := by
 have t1 := qc a b c; have t2 := qc c a b; have t3 := qc b c a; have s1 := yu zH yr a b; have s2 := yu zH yr b c; have s3 := yu zH yr a c; refine ⟨t1, fun h1 h2 h3 => ?_⟩; omega
theorem NV {K : KS} {g : Nat} {w0 : World} {x y z : I} (hx : j0 K g w0 x) (hy : j0 K g w0 y) (hz : j0 K g w0 z) (h1 : Wa K x y <= 0) (h2 : Wa K y z <= 0) : Wa K x z <= 0 := by
 have k := Yv (YP K x) (YP K y) (YP K z); have r := Yv x.row y.row z.row; unfold Wa at *; split at h1 <;> split at h2 <;> split <;> omega
abbrev Gm (K : KS) (L : List I) : Prop := L.Pairwise (fun x y => Wa K x y <= 0)
theorem Cg {K : KS} {g : Nat} {w0 : World} {x y : I} (hx : j0 K g w0 x) (hy : j0 K g w0 y) (ht : tg y x) : Wa K x y < 0 ↔ R2 K x y < 0 := by
 have e := yv (YP K x) (YP K y) hx.kv hy.kv; have s := yu zH yr x.row y.row; unfold tg zZ at ht; unfold Wa R2; rw [e]; split <;> omega
theorem QY {w : World} {base cap n : Nat} {B : Option Addr} {ys : List V} (hn : ys.length = n) (h : w.ownsRow base 24 3 (.slice B n cap) n (zF ys)) : yS w B ys := by
 rw [<- hn] at h; obtain ⟨B', c', e, hv⟩ := Yt h; simp at e; rw [e.1]; exact hv
def Gk (n : Nat) (vs : List V) (v : Value) (W : World) : Prop := ∃ (B : Option Addr) (cap : Nat), v = .slice B n cap /\ yS W B vs
theorem Ch (K : KS) (x y : I) (g : Nat) (w0 w : World) (hx : j0 K g w0 x) (hy : j0 K g w0 y) (hg : GX g w0 w) : Calls Tryz.prog 95 #[x.val, y.val, .pointer (some ⟨K.gk, 0, none⟩)] w fun e w' => e = .returned (.int .i64 (R2 K x y)) /\ za w w' := by
 have cx := fun W (h : za w W) => Xt K.es K.A K.c x.row x.A x.cap W hx.kl hx.len (hx.ks _ (hg.grow h)).2 hx.re hx.rv (hx.sl _ (hg.grow h))
 have cy := fun W (h : za w W) => Xt K.es K.A K.c y.row y.A y.cap W hx.kl hy.len (hx.ks _ (hg.grow h)).2 hy.re hy.rv (hy.sl _ (hg.grow h))
 have KB := hh_ (hx.ks _ hg).1; have lk := hx.kl; obtain ⟨KX, hKX⟩ : ∃ q, K.es.map (yd x.row) = q := ⟨_, rfl⟩
 obtain ⟨KY, hKY⟩ : ∃ q, K.es.map (yd y.row) = q := ⟨_, rfl⟩
 have lx : KX.length = K.es.length := by rw [<- hKX]; simp
 have ly : KY.length = K.es.length := by rw [<- hKY]; simp
 rw [hKX] at cx; rw [hKY] at cy; have fin : R2 K x y = zC xT KX KY := by unfold R2 YP; rw [hKX, hKY]
 rw [fin]; have cr := fun B1 c1 B2 c2 W (h1 : yS W B1 KX) (h2 : yS W B2 KY) => jJ KX KY B1 B2 c1 c2 W u4_ u4_ h1 h2
 rw [lx, ly] at cr; have Lx := hh_ lx; have Ly := hh_ ly; clear hKX hKY fin hx hy hg lx ly; unfold I.val; go_enter Tryz.func95, Tryz.ntmps95; go_upto_region 1 with fail
 refine zb (fun X => zc X w.heap.size 59 #[.slice x.A x.row.length x.cap, .int .i64 x.w] /\ zc X (w.heap.size + 1) 59 #[.slice y.A y.row.length y.cap, .int .i64 y.w] /\ za w X) ⟨(zc.new _ _ _).grow ((za.refl _).al _), zc.new' _ _ _ u5_, ((za.refl _).al _).al _⟩ ?_; generalize w.heap.size + 1 = g2; generalize w.heap.size = g1; rintro X ⟨B1, B2, G⟩; have BX := hh_ B1; have BY := hh_ B2; have BK := hh_ (KB.out.grow G); clear B1 B2 KB; apply ze 10 uY_ uY_
 case h' =>
  intro Q0 hQ0; simp only [List.take_succ_cons, List.take_zero]
  repeat ((first | ((first | apply zu rfl | apply zw rfl rfl rfl); case h1 => (intro w1 hw1 hF K hK; obtain ⟨bx, fx⟩ := (BX.out.grow hw1).rules; obtain ⟨by1, fy⟩ := (BY.out.grow hw1).rules; obtain ⟨bk, fk⟩ := (BK.out.grow hw1).rules; go_simp; first | exact hK _ (za.refl _))) | apply zz rfl rfl rfl rfl); intro K hK; go_simp; apply hK; clear hK K)
  apply zN (Gk K.es.length KX) rfl
  case h1 =>
   intro w1 hw1 hF K1 hK1; go_simp
   go_at_call 82
   refine (cx w1 (G.trans hw1)).mono ?_; rintro en w' ⟨B, cap, rfl, ho, hg'⟩; exact ⟨_, rfl, hK1 _ _ hg' ⟨B, cap, rfl, QY Lx.out ho⟩⟩
  intro v9 K1 hK1; go_simp; apply hK1; clear hK1 K1
  repeat ((first | ((first | apply zu rfl | apply zw rfl rfl rfl); case h1 => (intro w1 hw1 hF K hK; obtain ⟨bx, fx⟩ := (BX.out.grow hw1).rules; obtain ⟨by1, fy⟩ := (BY.out.grow hw1).rules; obtain ⟨bk, fk⟩ := (BK.out.grow hw1).rules; go_simp; first | exact hK _ (za.refl _))) | apply zz rfl rfl rfl rfl); intro K hK; go_simp; apply hK; clear hK K)
  apply zN (Gk K.es.length KY) rfl
  case h1 =>
   intro w1 hw1 hF K1 hK1; go_simp
   go_at_call 82
   refine (cy w1 (G.trans hw1)).mono ?_; rintro en w' ⟨B, cap, rfl, ho, hg'⟩; exact ⟨_, rfl, hK1 _ _ hg' ⟨B, cap, rfl, QY Ly.out ho⟩⟩
  intro v13 K1 hK1; go_simp; apply hK1; clear hK1 K1; apply zu rfl
  case h1 =>
   intro w1 hw1 hF K1 hK1; obtain ⟨B2, c2, hv2, h2⟩ := hF _ (List.mem_cons_self ..) ⟨_, rfl, by decide⟩; obtain ⟨B1, c1, hv1, h1⟩ := hF _ (List.mem_cons_of_mem _ (List.mem_cons_self ..)) ⟨_, rfl, by decide⟩; subst hv1 hv2; go_simp
   go_at_call 71
   refine (cr B1 c1 B2 c2 w1 h1 h2).mono ?_; rintro en w' ⟨rfl, hg'⟩; exact ⟨_, rfl, hK1 _ hg'⟩
  intro K1 hK1; go_simp; apply hK1; clear hK1 K1
  repeat ((first | ((first | apply zu rfl | apply zw rfl rfl rfl); case h1 => (intro w1 hw1 hF K hK; obtain ⟨bx, fx⟩ := (BX.out.grow hw1).rules; go_simp; first | exact hK _ (za.refl _))) | apply zz rfl rfl rfl rfl); intro K hK; go_simp; apply hK; clear hK K)
  refine zo ?_; intro w1 hw1 hF; apply hQ0; clear hQ0; simp only [List.drop_succ_cons, List.drop_zero]; clear hF; go_wp2; go_ret; exact ⟨rfl, G.trans hw1⟩
 case hp' => exact xw_
theorem jc {w : World} {g : Nat} {t t' : TypeId} {cs cs' : Array Value} (h : zc w g t cs) (h' : zc w g t' cs') : t = t' := by
 unfold zc at h h'; rw [h] at h'; simp at h'; exact h'.2
def KV (w : World) (A : Option Addr) (row : List V) : Prop := yS w A row /\ ∀ (i : Nat) (x : V), row[i]? = some x -> ∃ g o cs, A = some ⟨g, o, none⟩ /\ zc w g 24 cs
theorem KV.grow {w w' : World} {A : Option Addr} {row : List V} (h : KV w A row) (hg : za w w') : KV w' A row := ⟨h.1.grow hg, fun i x hx => by
 obtain ⟨g, o, cs, a, b⟩ := h.2 i x hx
 exact ⟨g, o, cs, a, b.grow hg⟩⟩
theorem KV.gx {w w' : World} {A : Option Addr} {row : List V} {g : Nat} {t : TypeId} {cs : Array Value} (h : KV w A row) (hb : zc w g t cs) (ht : t ≠ 24) (hg : w.grownBy w' (some g)) : KV w' A row := by
 refine ⟨fun i x hx => ?_, fun i x hx => ?_⟩
 ·obtain ⟨g1, o1, e1, a, b, c⟩ := h.1 i x hx; obtain ⟨g2, o2, cs2, e2, b2⟩ := h.2 i x hx; rw [e1] at e2; simp at e2; have hne : g1 ≠ g := fun e => ht (by rw [e2.1] at e; rw [e] at b2; exact jc hb b2)
  exact ⟨g1, o1, e1, World.grownBy.cell hg a uE_, World.grownBy.cell hg b uE_, World.grownBy.cell hg c uE_⟩
 ·obtain ⟨g2, o2, cs2, e2, b2⟩ := h.2 i x hx; have hne : g2 ≠ g := fun e => ht (by rw [e] at b2; exact jc hb b2)
  exact ⟨g2, o2, cs2, e2, GX.blk hg hne b2⟩
theorem WG {w : World} {base cap n : Nat} {B : Option Addr} {ys : List V} (hn : ys.length = n) (h : w.ownsRow base 24 3 (.slice B n cap) n (zF ys)) : KV w B ys := by
 refine ⟨QY hn h, fun i x hx => ?_⟩; rcases h.2 with ⟨e, h0⟩ | ⟨g', cap', cur, e, hB, hgb, _⟩
 ·rw [<- hn] at h0; have := List.length_eq_zero_iff.1 h0; subst this; simp at hx
 ·simp at e; exact ⟨g', 0, cur, e.1, hgb⟩
theorem qv {w : World} {base n s g : Nat} {e : TypeId} {v : Value} {xs : List Value} (h : w.ownsRow base e s v n xs) (hg : v.ownBlock = some g) : base <= g /\ ∃ cs, zc w g e cs := by
 rcases h.2 with ⟨rfl, _⟩ | ⟨g', cap, cur, rfl, hB, hgb, _⟩
 ·cases hg
 ·simp [Value.ownBlock] at hg; subst hg; exact ⟨hB, cur, hgb⟩
theorem Kl {w : World} {b1 b2 n1 n2 s1 s2 : Nat} {e1 e2 : TypeId} {v1 v2 : Value} {x1 x2 : List Value} (h1 : w.ownsRow b1 e1 s1 v1 n1 x1) (h2 : w.ownsRow b2 e2 s2 v2 n2 x2) (hne : e1 ≠ e2) : v1.ownBlock = none \/ v1.ownBlock ≠ v2.ownBlock := by
 cases e : v1.ownBlock with
 | none => exact .inl rfl
 | some g =>
  refine .inr (fun e' => ?_); obtain ⟨_, cs, c1⟩ := qv h1 e; obtain ⟨_, cs', c2⟩ := qv h2 e'.symm; exact hne (jc c1 c2)
theorem Yi {w w' : World} {g base n s : Nat} {t e : TypeId} {cs : Array Value} {v : Value} {xs : List Value} (h : zc w g t cs) (own : w.ownsRow base e s v n xs) (hne : t ≠ e) (hg : w.grownBy w' v.ownBlock) : zc w' g t cs := by
 refine (hg.block g h.lt (fun e' => ?_)).trans h; obtain ⟨_, cs', c2⟩ := qv own e'.symm; exact hne (jc h c2)
theorem kq {w w' : World} {base n s : Nat} {e : TypeId} {v : Value} {xs : List Value} {A : Option Addr} {row : List V} (h : KV w A row) (own : w.ownsRow base e s v n xs) (he : e ≠ 24) (hg : w.grownBy w' v.ownBlock) : KV w' A row := by
 cases e' : v.ownBlock with
 | none =>
  rw [e'] at hg; exact h.grow (za.own (za.refl w) hg (fun i hi => by cases hi))
 | some g =>
  rw [e'] at hg; obtain ⟨_, cs, c⟩ := qv own e'; exact h.gx c he hg
