/- Parts of a proof. No condition. -/
import Derived.Test.YthhbiemnbkfobaaGreatGS
set_option maxRecDepth 100000
set_option maxHeartbeats 2000000
set_option maxRecDepth 100000
set_option linter.unusedSimpArgs false
set_option linter.unusedVariables false
namespace Go
variable {p : Prop}
theorem ue_ (h : p := by
 intro w1 hw1 hF K1 hK1; obtain ⟨B2, c2, hv2, h2⟩ := hF _ (List.mem_cons_self ..) ⟨_, rfl, by decide⟩; obtain ⟨B1, c1, hv1, h1⟩ := hF _ (List.mem_cons_of_mem _ (List.mem_cons_self ..)) ⟨_, rfl, by decide⟩; subst hv1 hv2; go_simp
 go_at_call 74
 refine (cr B1 c1 B2 c2 w1 h1 h2).mono ?_; rintro en w' ⟨rfl, hg'⟩; exact ⟨_, rfl, hK1 _ hg'⟩) : p := h
theorem uv_ (h : p := by
 rcases h.2 with ⟨e, _⟩ | ⟨g', cap', cur, e, hB, hgb, _, _, _, ht⟩
 · simp at e
 · simp at e
   obtain ⟨rfl, rfl⟩ := e; refine ⟨⟨cur.toList.drop (n * 2), ?_⟩, hB⟩; unfold zc; rw [<- ht, List.take_append_drop]; simpa using hgb) : p := h
theorem uA_ (h : p := by
 intro w1 hw1 hF K1 hK1; go_simp
 go_at_call 88
 refine (cx w1 (G.trans hw1)).mono ?_; rintro en w' ⟨B, cap, rfl, ho, hg'⟩; exact ⟨_, rfl, hK1 _ _ hg' ⟨B, cap, rfl, YO Lx.out ho⟩⟩) : p := h
theorem uB_ (h : p := by
 intro w1 hw1 hF K1 hK1; go_simp
 go_at_call 88
 refine (cy w1 (G.trans hw1)).mono ?_; rintro en w' ⟨B, cap, rfl, ho, hg'⟩; exact ⟨_, rfl, hK1 _ _ hg' ⟨B, cap, rfl, YO Ly.out ho⟩⟩) : p := h
theorem uM_ (h : p := by
 exact ⟨fun v w w' hg ⟨B, c, e, h⟩ => ⟨B, c, e, h.grow hg⟩, fun v w w' hg ⟨B, c, e, h⟩ => ⟨B, c, e, h.grow hg⟩, trivial⟩) : p := h
theorem uN_ (h : p := by
 have k := jC (qZ K x) (qZ K y) (qZ K z); have r := jC x.row y.row z.row; unfold jK at *; split at h1 <;> split at h2 <;> split <;> omega) : p := h
theorem u3_ (h : p := by
 have h1 := zY zX ya (qZ K x) (qZ K y); have h2 := zY zX ya x.row y.row; unfold jK; split <;> split <;> omega) : p := h
theorem wl_ (h : p := by
 obtain ⟨e, he, rfl⟩ := List.mem_map.1 hv; exact XM x.row h.rv e (h.re e he)) : p := h
end Go
namespace Go.Proofs.YthhbiemnbkfobaaGreat
open Go.RowKit Go.Calm
def kN (w : World) (g : Nat) (xs : List I) : Prop := ∃ rest : List Value, zc w g 54 (zq xs ++ rest).toArray
theorem kN.lt {w : World} {g : Nat} {xs : List I} (h : kN w g xs) : g < w.heap.size := by
  obtain ⟨r, h⟩ := h; exact zc.lt h
theorem kN.at {w : World} {g : Nat} {xs : List I} (h : kN w g xs) {i : Nat} {x : I} (hx : xs[i]? = some x) : w.cell? ⟨g, i * 2, none⟩ = some (.slice x.A x.row.length x.cap) /\ w.cell? ⟨g, i * 2 + 1, none⟩ = some (.int .i64 x.w) := by
  obtain ⟨r, h⟩ := h; obtain ⟨a, b⟩ := xI xs i x hx; have la := (qQ9.1 a).1; have lb := (qQ9.1 b).1; rw [zc.cell h, zc.cell h]; rw [List.getElem?_toArray, List.getElem?_toArray, List.getElem?_append_left la, List.getElem?_append_left lb]; exact ⟨a, b⟩
theorem kN.frozen {w : World} {g : Nat} {xs : List I} (h : kN w g xs) (i : Nat) : w.frozen? ⟨g, i, none⟩ = false := by
  obtain ⟨r, h⟩ := h; exact zc.frozen h i
theorem kN.grow {w w' : World} {g : Nat} {xs : List I} (h : kN w g xs) (hg : za w w') : kN w' g xs := by
  obtain ⟨r, h⟩ := h; exact ⟨r, zc.grow h hg⟩
theorem kN.drew {w : World} {g : Nat} {xs : List I} (h : kN w g xs) : kN w.drew g xs := h
theorem kN.put {w : World} {g : Nat} {xs : List I} (h : kN w g xs) {i : Nat} (hi : i < xs.length) (y : I) : kN ((w.setCell ⟨g, i * 2, none⟩ (.slice y.A y.row.length y.cap)).setCell ⟨g, i * 2 + 1, none⟩ (.int .i64 y.w)) g (xs.set i y) := by
  obtain ⟨r, h⟩ := h; have hb := ((zc.set h (i * 2) (.slice y.A y.row.length y.cap)).set (i * 2 + 1) (.int .i64 y.w))
  refine ⟨r, ?_⟩; rw [<- Zb xs i y hi]; have l1 : i * 2 < (zq xs).length := by rw [yS]; omega
  have l2 : i * 2 + 1 < ((zq xs).set (i * 2) (.slice y.A y.row.length y.cap)).length := by rw [List.length_set, yS]; omega
  simp only [List.setIfInBounds_toArray, List.set_append_left _ _ l1, List.set_append_left _ _ l2] at hb; exact hb
theorem NV {w : World} {base n cap g : Nat} {xs : List I} (h : w.ownsRow base 54 2 (.slice (some ⟨g, 0, none⟩) n cap) n (zq xs)) : kN w g xs /\ base <= g := uv_
theorem kN.zin {w : World} {g : Nat} {xs : List I} (h : kN w g xs) (hv : ∀ x ∈ xs, xd w x.A x.row) : yI w (some ⟨g, 0, none⟩) xs := fun i x hx => by
  obtain ⟨a, b⟩ := h.at hx; exact ⟨g, 0, rfl, by simpa using a, by simpa using b, hv x (qZ_ hx)⟩
structure KS where
  es : List E
  A : Option Addr
  c : Nat
  gk : Nat
def qZ (K : KS) (x : I) : List V := K.es.map (yk x.row)
def ZZ (K : KS) (x y : I) : Int := zB xP (qZ K x) (qZ K y)
def jK (K : KS) (x y : I) : Int := if zB zX (qZ K x) (qZ K y) ≠ 0 then zB zX (qZ K x) (qZ K y) else zB zX x.row y.row
def tg (x y : I) : Prop := zv x.row y.row < 0
structure jv (K : KS) (g : Nat) (w0 : World) (x : I) : Prop where
  sl : ∀ W, GX g w0 W -> xd W x.A x.row
  ks : ∀ W, GX g w0 W -> zc W K.gk 25 #[.slice K.A K.es.length K.c] /\ Y6 W K.A K.es
  len : x.row.length <= 9223372036854775807
  kl : K.es.length <= 1000
  rv : ∀ v ∈ x.row, RV v
  re : ∀ e ∈ K.es, RE x.row.length e
theorem jv.kv {K : KS} {g : Nat} {w0 : World} {x : I} (h : jv K g w0 x) : ∀ v ∈ qZ K x, RV v := fun v hv => wl_
theorem RA {K : KS} {g : Nat} {w0 : World} {x y : I} (hx : jv K g w0 x) (hy : jv K g w0 y) : jK K y x = - jK K x y := u3_
theorem jC (a b c : List V) : (zB zX a b <= 0 -> zB zX b c <= 0 -> zB zX a c <= 0) /\ (zB zX a b <= 0 -> zB zX b c <= 0 -> zB zX a c = 0 -> zB zX a b = 0 /\ zB zX b c = 0) := by
  have t1 := xL a b c; have t2 := xL c a b; have t3 := xL b c a; have s1 := zY zX ya a b; have s2 := zY zX ya b c; have s3 := zY zX ya a c; refine ⟨t1, fun h1 h2 h3 => ?_⟩; omega
theorem Nj {K : KS} {g : Nat} {w0 : World} {x y z : I} (hx : jv K g w0 x) (hy : jv K g w0 y) (hz : jv K g w0 z) (h1 : jK K x y <= 0) (h2 : jK K y z <= 0) : jK K x z <= 0 := uN_
abbrev FG (K : KS) (L : List I) : Prop := L.Pairwise (fun x y => jK K x y <= 0)
theorem Vs {K : KS} {g : Nat} {w0 : World} {x y : I} (hx : jv K g w0 x) (hy : jv K g w0 y) (ht : tg y x) : jK K x y < 0 ↔ ZZ K x y < 0 := by
  have e := yb (qZ K x) (qZ K y) hx.kv hy.kv; have s := zY zX ya x.row y.row; unfold tg zv at ht; unfold jK ZZ; rw [e]; split <;> omega
theorem YO {w : World} {base cap n : Nat} {B : Option Addr} {ys : List V} (hn : ys.length = n) (h : w.ownsRow base 24 3 (.slice B n cap) n (zG ys)) : xd w B ys := by
  rw [<- hn] at h; obtain ⟨B', c', e, hv⟩ := KL h; simp at e; rw [e.1]; exact hv
def FF (n : Nat) (vs : List V) (v : Value) (W : World) : Prop := ∃ (B : Option Addr) (cap : Nat), v = .slice B n cap /\ xd W B vs
theorem Vv (K : KS) (x y : I) (g : Nat) (w0 w : World) (hx : jv K g w0 x) (hy : jv K g w0 y) (hg : GX g w0 w) : Calls Tryz.prog 96 #[x.val, y.val, .pointer (some ⟨K.gk, 0, none⟩)] w fun e w' => e = .returned (.int .i64 (ZZ K x y)) /\ za w w' := by
  have cx := fun W (h : za w W) => xZ K.es K.A K.c x.row x.A x.cap W hx.kl hx.len (hx.ks _ (hg.grow h)).2 hx.re hx.rv (hx.sl _ (hg.grow h))
  have cy := fun W (h : za w W) => xZ K.es K.A K.c y.row y.A y.cap W hx.kl hy.len (hx.ks _ (hg.grow h)).2 hy.re hy.rv (hy.sl _ (hg.grow h))
  have KB := hh_ (hx.ks _ hg).1; have lk := hx.kl; obtain ⟨KX, hKX⟩ : ∃ q, K.es.map (yk x.row) = q := ⟨_, rfl⟩
  obtain ⟨KY, hKY⟩ : ∃ q, K.es.map (yk y.row) = q := ⟨_, rfl⟩
  have lx : KX.length = K.es.length := by rw [<- hKX]; simp
  have ly : KY.length = K.es.length := by rw [<- hKY]; simp
  rw [hKX] at cx; rw [hKY] at cy; have fin : ZZ K x y = zB xP KX KY := by unfold ZZ qZ; rw [hKX, hKY]
  rw [fin]; have cr := fun B1 c1 B2 c2 W (h1 : xd W B1 KX) (h2 : xd W B2 KY) => qd KX KY B1 B2 c1 c2 W vU_ vU_ h1 h2
  rw [lx, ly] at cr; have Lx := hh_ lx; have Ly := hh_ ly; clear hKX hKY fin hx hy hg lx ly; unfold I.val; go_enter Tryz.func96, Tryz.ntmps96; go_upto_region 1 with fail
  refine zd (fun X => zc X w.heap.size 54 #[.slice x.A x.row.length x.cap, .int .i64 x.w] /\ zc X (w.heap.size + 1) 54 #[.slice y.A y.row.length y.cap, .int .i64 y.w] /\ za w X) ⟨(zc.new _ _ _).grow ((za.refl _).al _), zc.new' _ _ _ vV_, ((za.refl _).al _).al _⟩ ?_; generalize w.heap.size + 1 = g2; generalize w.heap.size = g1; rintro X ⟨B1, B2, G⟩; have BX := hh_ B1; have BY := hh_ B2; have BK := hh_ (KB.out.grow G); clear B1 B2 KB; apply zb 10 vP_ vP_
  case h' =>
    intro Q0 hQ0; simp only [List.take_succ_cons, List.take_zero]
    repeat ((first | ((first | apply zh rfl | apply zo rfl rfl rfl); case h1 => (intro w1 hw1 hF K hK; obtain ⟨bx, fx⟩ := (BX.out.grow hw1).rules; obtain ⟨by1, fy⟩ := (BY.out.grow hw1).rules; obtain ⟨bk, fk⟩ := (BK.out.grow hw1).rules; go_simp; first | exact hK _ (za.refl _))) | apply zm rfl rfl rfl rfl); intro K hK; go_simp; apply hK; clear hK K)
    apply ze (FF K.es.length KX) rfl
    case h1 => exact uA_
    intro v9 K1 hK1; go_simp; apply hK1; clear hK1 K1
    repeat ((first | ((first | apply zh rfl | apply zo rfl rfl rfl); case h1 => (intro w1 hw1 hF K hK; obtain ⟨bx, fx⟩ := (BX.out.grow hw1).rules; obtain ⟨by1, fy⟩ := (BY.out.grow hw1).rules; obtain ⟨bk, fk⟩ := (BK.out.grow hw1).rules; go_simp; first | exact hK _ (za.refl _))) | apply zm rfl rfl rfl rfl); intro K hK; go_simp; apply hK; clear hK K)
    apply ze (FF K.es.length KY) rfl
    case h1 => exact uB_
    intro v13 K1 hK1; go_simp; apply hK1; clear hK1 K1; apply zh rfl
    case h1 => exact ue_
    intro K1 hK1; go_simp; apply hK1; clear hK1 K1
    repeat ((first | ((first | apply zh rfl | apply zo rfl rfl rfl); case h1 => (intro w1 hw1 hF K hK; obtain ⟨bx, fx⟩ := (BX.out.grow hw1).rules; go_simp; first | exact hK _ (za.refl _))) | apply zm rfl rfl rfl rfl); intro K hK; go_simp; apply hK; clear hK K)
    refine zk ?_; intro w1 hw1 hF; apply hQ0; clear hQ0; simp only [List.drop_succ_cons, List.drop_zero]; clear hF; go_wp2; go_ret; exact ⟨rfl, G.trans hw1⟩
  case hp' => exact uM_
theorem qH {w : World} {g : Nat} {t t' : TypeId} {cs cs' : Array Value} (h : zc w g t cs) (h' : zc w g t' cs') : t = t' := by
  unfold zc at h h'; rw [h] at h'; simp at h'; exact h'.2
def KV (w : World) (A : Option Addr) (row : List V) : Prop := xd w A row /\ ∀ (i : Nat) (x : V), row[i]? = some x -> ∃ g o cs, A = some ⟨g, o, none⟩ /\ zc w g 24 cs
theorem KV.grow {w w' : World} {A : Option Addr} {row : List V} (h : KV w A row) (hg : za w w') : KV w' A row := ⟨h.1.grow hg, fun i x hx => by
  obtain ⟨g, o, cs, a, b⟩ := h.2 i x hx
  exact ⟨g, o, cs, a, b.grow hg⟩⟩
theorem KV.gx {w w' : World} {A : Option Addr} {row : List V} {g : Nat} {t : TypeId} {cs : Array Value} (h : KV w A row) (hb : zc w g t cs) (ht : t ≠ 24) (hg : w.grownBy w' (some g)) : KV w' A row := by
  refine ⟨fun i x hx => ?_, fun i x hx => ?_⟩
  · obtain ⟨g1, o1, e1, a, b, c⟩ := h.1 i x hx
    obtain ⟨g2, o2, cs2, e2, b2⟩ := h.2 i x hx; rw [e1] at e2; simp at e2; have hne : g1 ≠ g := fun e => ht (by rw [e2.1] at e; rw [e] at b2; exact qH hb b2)
    exact ⟨g1, o1, e1, World.grownBy.cell hg a vB_, World.grownBy.cell hg b vB_, World.grownBy.cell hg c vB_⟩
  · obtain ⟨g2, o2, cs2, e2, b2⟩ := h.2 i x hx
    have hne : g2 ≠ g := fun e => ht (by rw [e] at b2; exact qH hb b2)
    exact ⟨g2, o2, cs2, e2, GX.blk hg hne b2⟩
theorem Uf {w : World} {base cap n : Nat} {B : Option Addr} {ys : List V} (hn : ys.length = n) (h : w.ownsRow base 24 3 (.slice B n cap) n (zG ys)) : KV w B ys := by
  refine ⟨YO hn h, fun i x hx => ?_⟩; rcases h.2 with ⟨e, h0⟩ | ⟨g', cap', cur, e, hB, hgb, _⟩
  · rw [<- hn] at h0
    have := List.length_eq_zero_iff.1 h0; subst this; simp at hx
  · simp at e
    exact ⟨g', 0, cur, e.1, hgb⟩
theorem xT {w : World} {base n s g : Nat} {e : TypeId} {v : Value} {xs : List Value} (h : w.ownsRow base e s v n xs) (hg : v.ownBlock = some g) : base <= g /\ ∃ cs, zc w g e cs := by
  rcases h.2 with ⟨rfl, _⟩ | ⟨g', cap, cur, rfl, hB, hgb, _⟩
  · cases hg
  · simp [Value.ownBlock] at hg
    subst hg; exact ⟨hB, cur, hgb⟩
theorem JF {w : World} {b1 b2 n1 n2 s1 s2 : Nat} {e1 e2 : TypeId} {v1 v2 : Value} {x1 x2 : List Value} (h1 : w.ownsRow b1 e1 s1 v1 n1 x1) (h2 : w.ownsRow b2 e2 s2 v2 n2 x2) (hne : e1 ≠ e2) : v1.ownBlock = none \/ v1.ownBlock ≠ v2.ownBlock := by
  cases e : v1.ownBlock with
  | none => exact .inl rfl
  | some g =>
    refine .inr (fun e' => ?_); obtain ⟨_, cs, c1⟩ := xT h1 e; obtain ⟨_, cs', c2⟩ := xT h2 e'.symm; exact hne (qH c1 c2)
theorem Xt {w w' : World} {g base n s : Nat} {t e : TypeId} {cs : Array Value} {v : Value} {xs : List Value} (h : zc w g t cs) (own : w.ownsRow base e s v n xs) (hne : t ≠ e) (hg : w.grownBy w' v.ownBlock) : zc w' g t cs := by
  refine (hg.block g h.lt (fun e' => ?_)).trans h; obtain ⟨_, cs', c2⟩ := xT own e'.symm; exact hne (qH h c2)
theorem kW {w w' : World} {base n s : Nat} {e : TypeId} {v : Value} {xs : List Value} {A : Option Addr} {row : List V} (h : KV w A row) (own : w.ownsRow base e s v n xs) (he : e ≠ 24) (hg : w.grownBy w' v.ownBlock) : KV w' A row := by
  cases e' : v.ownBlock with
  | none =>
    rw [e'] at hg; exact h.grow (za.own (za.refl w) hg (fun i hi => by cases hi))
  | some g =>
    rw [e'] at hg; obtain ⟨_, cs, c⟩ := xT own e'; exact h.gx c he hg
