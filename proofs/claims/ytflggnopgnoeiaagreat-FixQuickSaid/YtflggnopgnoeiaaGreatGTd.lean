/- Parts of a proof. No condition. -/
import Derived.Test.YtflggnopgnoeiaaGreatGS
set_option maxRecDepth 100000
set_option maxHeartbeats 2000000
set_option maxRecDepth 100000
set_option linter.unusedSimpArgs false
set_option linter.unusedVariables false
namespace Go
variable {p : Prop}
theorem wM_ (h : p := by
 rcases h.2 with ⟨e, _⟩ | ⟨g', cap', cur, e, hB, hgb, _, _, _, ht⟩
 ·simp at e
 ·simp at e; obtain ⟨rfl, rfl⟩ := e; refine ⟨⟨cur.toList.drop (n * 2), ?_⟩, hB⟩; unfold zb; rw [<- ht, List.take_append_drop]; simpa using hgb) : p := h
end Go
namespace Go.Proofs.YtflggnopgnoeiaaGreat
open Go.RowKit Go.Calm
def YE (w : World) (g : Nat) (xs : List I) : Prop := ∃ rest : List Value, zb w g 53 (zr xs ++ rest).toArray
theorem YE.lt {w : World} {g : Nat} {xs : List I} (h : YE w g xs) : g < w.heap.size := by
 obtain ⟨r, h⟩ := h; exact zb.lt h
theorem YE.at {w : World} {g : Nat} {xs : List I} (h : YE w g xs) {i : Nat} {x : I} (hx : xs[i]? = some x) : w.cell? ⟨g, i * 2, none⟩ = some (.slice x.A x.row.length x.cap) /\ w.cell? ⟨g, i * 2 + 1, none⟩ = some (.int .i64 x.w) := by
 obtain ⟨r, h⟩ := h; obtain ⟨a, b⟩ := qp xs i x hx; have la := (qQ9.1 a).1; have lb := (qQ9.1 b).1; rw [zb.cell h, zb.cell h]; rw [List.getElem?_toArray, List.getElem?_toArray, List.getElem?_append_left la, List.getElem?_append_left lb]; exact ⟨a, b⟩
theorem YE.frozen {w : World} {g : Nat} {xs : List I} (h : YE w g xs) (i : Nat) : w.frozen? ⟨g, i, none⟩ = false := by
 obtain ⟨r, h⟩ := h; exact zb.frozen h i
theorem YE.grow {w w' : World} {g : Nat} {xs : List I} (h : YE w g xs) (hg : za w w') : YE w' g xs := by
 obtain ⟨r, h⟩ := h; exact ⟨r, zb.grow h hg⟩
theorem YE.drew {w : World} {g : Nat} {xs : List I} (h : YE w g xs) : YE w.drew g xs := h
theorem YE.put {w : World} {g : Nat} {xs : List I} (h : YE w g xs) {i : Nat} (hi : i < xs.length) (y : I) : YE ((w.setCell ⟨g, i * 2, none⟩ (.slice y.A y.row.length y.cap)).setCell ⟨g, i * 2 + 1, none⟩ (.int .i64 y.w)) g (xs.set i y) := by
 obtain ⟨r, h⟩ := h; have hb := ((zb.set h (i * 2) (.slice y.A y.row.length y.cap)).set (i * 2 + 1) (.int .i64 y.w))
 refine ⟨r, ?_⟩; rw [<- QO xs i y hi]; have l1 : i * 2 < (zr xs).length := by rw [xv]; omega
 have l2 : i * 2 + 1 < ((zr xs).set (i * 2) (.slice y.A y.row.length y.cap)).length := by rw [List.length_set, xv]; omega
 simp only [List.setIfInBounds_toArray, List.set_append_left _ _ l1, List.set_append_left _ _ l2] at hb; exact hb
theorem SL {w : World} {base n cap g : Nat} {xs : List I} (h : w.ownsRow base 53 2 (.slice (some ⟨g, 0, none⟩) n cap) n (zr xs)) : YE w g xs /\ base <= g := wM_
theorem YE.zin {w : World} {g : Nat} {xs : List I} (h : YE w g xs) (hv : ∀ x ∈ xs, xi w x.A x.row) : xe w (some ⟨g, 0, none⟩) xs := fun i x hx => by
 obtain ⟨a, b⟩ := h.at hx; exact ⟨g, 0, rfl, by simpa using a, by simpa using b, hv x (qZ_ hx)⟩
structure KS where
 es : List E
 A : Option Addr
 c : Nat
 gk : Nat
def Zy (K : KS) (x : I) : List V := K.es.map (yu x.row)
def UG (K : KS) (x y : I) : Int := zv x4 (Zy K x) (Zy K y)
def Js (K : KS) (x y : I) : Int := if zv zO (Zy K x) (Zy K y) ≠ 0 then zv zO (Zy K x) (Zy K y) else zv zO x.row y.row
def tg (x y : I) : Prop := zK x.row y.row < 0
structure kP (K : KS) (g : Nat) (w0 : World) (x : I) : Prop where
 sl : ∀ W, GX g w0 W -> xi W x.A x.row
 ks : ∀ W, GX g w0 W -> zb W K.gk 23 #[.slice K.A K.es.length K.c] /\ WW W K.A K.es
 len : x.row.length <= 9223372036854775807
 kl : K.es.length <= 1000
 rv : ∀ v ∈ x.row, RV v
 re : ∀ e ∈ K.es, RE x.row.length e
theorem kP.kv {K : KS} {g : Nat} {w0 : World} {x : I} (h : kP K g w0 x) : ∀ v ∈ Zy K x, RV v := fun v hv => by
 obtain ⟨e, he, rfl⟩ := List.mem_map.1 hv; exact Qu x.row h.rv e (h.re e he)
theorem UK {K : KS} {g : Nat} {w0 : World} {x y : I} (hx : kP K g w0 x) (hy : kP K g w0 y) : Js K y x = - Js K x y := by
 have h1 := yo zO yq (Zy K x) (Zy K y); have h2 := yo zO yq x.row y.row; unfold Js; split <;> split <;> omega
theorem Za (a b c : List V) : (zv zO a b <= 0 -> zv zO b c <= 0 -> zv zO a c <= 0) /\ (zv zO a b <= 0 -> zv zO b c <= 0 -> zv zO a c = 0 -> zv zO a b = 0 /\ zv zO b c = 0) := by
 have t1 := qt a b c; have t2 := qt c a b; have t3 := qt b c a; have s1 := yo zO yq a b; have s2 := yo zO yq b c; have s3 := yo zO yq a c; refine ⟨t1, fun h1 h2 h3 => ?_⟩; omega
theorem R9 {K : KS} {g : Nat} {w0 : World} {x y z : I} (hx : kP K g w0 x) (hy : kP K g w0 y) (hz : kP K g w0 z) (h1 : Js K x y <= 0) (h2 : Js K y z <= 0) : Js K x z <= 0 := by
 have k := Za (Zy K x) (Zy K y) (Zy K z); have r := Za x.row y.row z.row; unfold Js at *; split at h1 <;> split at h2 <;> split <;> omega
abbrev UpT (K : KS) (L : List I) : Prop := L.Pairwise (fun x y => Js K x y <= 0)
theorem Gn {K : KS} {g : Nat} {w0 : World} {x y : I} (hx : kP K g w0 x) (hy : kP K g w0 y) (ht : tg y x) : Js K x y < 0 ↔ UG K x y < 0 := by
 have e := yg (Zy K x) (Zy K y) hx.kv hy.kv; have s := yo zO yq x.row y.row; unfold tg zK at ht; unfold Js UG; rw [e]; split <;> omega
theorem NC {w : World} {base cap n : Nat} {B : Option Addr} {ys : List V} (hn : ys.length = n) (h : w.ownsRow base 33 3 (.slice B n cap) n (zN ys)) : xi w B ys := by
 rw [<- hn] at h; obtain ⟨B', c', e, hv⟩ := Qq h; simp at e; rw [e.1]; exact hv
def PVs (n : Nat) (vs : List V) (v : Value) (W : World) : Prop := ∃ (B : Option Addr) (cap : Nat), v = .slice B n cap /\ xi W B vs
theorem Gp (K : KS) (x y : I) (g : Nat) (w0 w : World) (hx : kP K g w0 x) (hy : kP K g w0 y) (hg : GX g w0 w) : Calls Tryz.prog 201 #[x.val, y.val, .pointer (some ⟨K.gk, 0, none⟩)] w fun e w' => e = .returned (.int .i64 (UG K x y)) /\ za w w' := by
 have cx := fun W (h : za w W) => XS K.es K.A K.c x.row x.A x.cap W hx.kl hx.len (hx.ks _ (hg.grow h)).2 hx.re hx.rv (hx.sl _ (hg.grow h))
 have cy := fun W (h : za w W) => XS K.es K.A K.c y.row y.A y.cap W hx.kl hy.len (hx.ks _ (hg.grow h)).2 hy.re hy.rv (hy.sl _ (hg.grow h))
 have KB := hh_ (hx.ks _ hg).1; have lk := hx.kl; obtain ⟨KX, hKX⟩ : ∃ q, K.es.map (yu x.row) = q := ⟨_, rfl⟩
 obtain ⟨KY, hKY⟩ : ∃ q, K.es.map (yu y.row) = q := ⟨_, rfl⟩
 have lx : KX.length = K.es.length := by rw [<- hKX]; simp
 have ly : KY.length = K.es.length := by rw [<- hKY]; simp
 rw [hKX] at cx; rw [hKY] at cy; have fin : UG K x y = zv x4 KX KY := by unfold UG Zy; rw [hKX, hKY]
 rw [fin]; have cr := fun B1 c1 B2 c2 W (h1 : xi W B1 KX) (h2 : xi W B2 KY) => qY KX KY B1 B2 c1 c2 W uX_ uX_ h1 h2
 rw [lx, ly] at cr; have Lx := hh_ lx; have Ly := hh_ ly; clear hKX hKY fin hx hy hg lx ly; unfold I.val; go_enter Tryz.func201, Tryz.ntmps201; go_upto_region 1 with fail
 refine zc (fun X => zb X w.heap.size 53 #[.slice x.A x.row.length x.cap, .int .i64 x.w] /\ zb X (w.heap.size + 1) 53 #[.slice y.A y.row.length y.cap, .int .i64 y.w] /\ za w X) ⟨(zb.new _ _ _).grow ((za.refl _).al _), zb.new' _ _ _ uY_, ((za.refl _).al _).al _⟩ ?_; generalize w.heap.size + 1 = g2; generalize w.heap.size = g1; rintro X ⟨B1, B2, G⟩; have BX := hh_ B1; have BY := hh_ B2; have BK := hh_ (KB.out.grow G); clear B1 B2 KB; apply wp_region_calm 10 uQ_ uQ_
 case h' =>
  intro Q0 hQ0; simp only [List.take_succ_cons, List.take_zero]
  repeat ((first | ((first | apply calm_p rfl | apply zu rfl rfl rfl); case h1 => (intro w1 hw1 hF K hK; obtain ⟨bx, fx⟩ := (BX.out.grow hw1).rules; obtain ⟨by1, fy⟩ := (BY.out.grow hw1).rules; obtain ⟨bk, fk⟩ := (BK.out.grow hw1).rules; go_simp; first | exact hK _ (za.refl _))) | apply zw rfl rfl rfl rfl); intro K hK; go_simp; apply hK; clear hK K)
  apply calm_fp (PVs K.es.length KX) rfl
  case h1 =>
   intro w1 hw1 hF K1 hK1; go_simp
   go_at_call 24
   refine (cx w1 (G.trans hw1)).mono ?_; rintro en w' ⟨B, cap, rfl, ho, hg'⟩; exact ⟨_, rfl, hK1 _ _ hg' ⟨B, cap, rfl, NC Lx.out ho⟩⟩
  intro v9 K1 hK1; go_simp; apply hK1; clear hK1 K1
  repeat ((first | ((first | apply calm_p rfl | apply zu rfl rfl rfl); case h1 => (intro w1 hw1 hF K hK; obtain ⟨bx, fx⟩ := (BX.out.grow hw1).rules; obtain ⟨by1, fy⟩ := (BY.out.grow hw1).rules; obtain ⟨bk, fk⟩ := (BK.out.grow hw1).rules; go_simp; first | exact hK _ (za.refl _))) | apply zw rfl rfl rfl rfl); intro K hK; go_simp; apply hK; clear hK K)
  apply calm_fp (PVs K.es.length KY) rfl
  case h1 =>
   intro w1 hw1 hF K1 hK1; go_simp
   go_at_call 24
   refine (cy w1 (G.trans hw1)).mono ?_; rintro en w' ⟨B, cap, rfl, ho, hg'⟩; exact ⟨_, rfl, hK1 _ _ hg' ⟨B, cap, rfl, NC Ly.out ho⟩⟩
  intro v13 K1 hK1; go_simp; apply hK1; clear hK1 K1; apply calm_p rfl
  case h1 =>
   intro w1 hw1 hF K1 hK1; obtain ⟨B2, c2, hv2, h2⟩ := hF _ (List.mem_cons_self ..) ⟨_, rfl, by decide⟩; obtain ⟨B1, c1, hv1, h1⟩ := hF _ (List.mem_cons_of_mem _ (List.mem_cons_self ..)) ⟨_, rfl, by decide⟩; subst hv1 hv2; go_simp
   go_at_call 27
   refine (cr B1 c1 B2 c2 w1 h1 h2).mono ?_; rintro en w' ⟨rfl, hg'⟩; exact ⟨_, rfl, hK1 _ hg'⟩
  intro K1 hK1; go_simp; apply hK1; clear hK1 K1
  repeat ((first | ((first | apply calm_p rfl | apply zu rfl rfl rfl); case h1 => (intro w1 hw1 hF K hK; obtain ⟨bx, fx⟩ := (BX.out.grow hw1).rules; go_simp; first | exact hK _ (za.refl _))) | apply zw rfl rfl rfl rfl); intro K hK; go_simp; apply hK; clear hK K)
  refine calm_nil ?_; intro w1 hw1 hF; apply hQ0; clear hQ0; simp only [List.drop_succ_cons, List.drop_zero]; clear hF; go_wp2; go_ret; exact ⟨rfl, G.trans hw1⟩
 case hp' => exact ⟨fun v w w' hg ⟨B, c, e, h⟩ => ⟨B, c, e, h.grow hg⟩, fun v w w' hg ⟨B, c, e, h⟩ => ⟨B, c, e, h.grow hg⟩, trivial⟩
theorem xk {w : World} {g : Nat} {t t' : TypeId} {cs cs' : Array Value} (h : zb w g t cs) (h' : zb w g t' cs') : t = t' := by
 unfold zb at h h'; rw [h] at h'; simp at h'; exact h'.2
def KV (w : World) (A : Option Addr) (row : List V) : Prop := xi w A row /\ ∀ (i : Nat) (x : V), row[i]? = some x -> ∃ g o cs, A = some ⟨g, o, none⟩ /\ zb w g 33 cs
theorem KV.grow {w w' : World} {A : Option Addr} {row : List V} (h : KV w A row) (hg : za w w') : KV w' A row := ⟨h.1.grow hg, fun i x hx => by
 obtain ⟨g, o, cs, a, b⟩ := h.2 i x hx
 exact ⟨g, o, cs, a, b.grow hg⟩⟩
theorem KV.gx {w w' : World} {A : Option Addr} {row : List V} {g : Nat} {t : TypeId} {cs : Array Value} (h : KV w A row) (hb : zb w g t cs) (ht : t ≠ 33) (hg : w.grownBy w' (some g)) : KV w' A row := by
 refine ⟨fun i x hx => ?_, fun i x hx => ?_⟩
 ·obtain ⟨g1, o1, e1, a, b, c⟩ := h.1 i x hx; obtain ⟨g2, o2, cs2, e2, b2⟩ := h.2 i x hx; rw [e1] at e2; simp at e2; have hne : g1 ≠ g := fun e => ht (by rw [e2.1] at e; rw [e] at b2; exact xk hb b2)
  exact ⟨g1, o1, e1, World.grownBy.cell hg a us_, World.grownBy.cell hg b us_, World.grownBy.cell hg c us_⟩
 ·obtain ⟨g2, o2, cs2, e2, b2⟩ := h.2 i x hx; have hne : g2 ≠ g := fun e => ht (by rw [e] at b2; exact xk hb b2)
  exact ⟨g2, o2, cs2, e2, GX.blk hg hne b2⟩
theorem Ef {w : World} {base cap n : Nat} {B : Option Addr} {ys : List V} (hn : ys.length = n) (h : w.ownsRow base 33 3 (.slice B n cap) n (zN ys)) : KV w B ys := by
 refine ⟨NC hn h, fun i x hx => ?_⟩; rcases h.2 with ⟨e, h0⟩ | ⟨g', cap', cur, e, hB, hgb, _⟩
 ·rw [<- hn] at h0; have := List.length_eq_zero_iff.1 h0; subst this; simp at hx
 ·simp at e; exact ⟨g', 0, cur, e.1, hgb⟩
theorem qr {w : World} {base n s g : Nat} {e : TypeId} {v : Value} {xs : List Value} (h : w.ownsRow base e s v n xs) (hg : v.ownBlock = some g) : base <= g /\ ∃ cs, zb w g e cs := by
 rcases h.2 with ⟨rfl, _⟩ | ⟨g', cap, cur, rfl, hB, hgb, _⟩
 ·cases hg
 ·simp [Value.ownBlock] at hg; subst hg; exact ⟨hB, cur, hgb⟩
theorem Ml {w : World} {b1 b2 n1 n2 s1 s2 : Nat} {e1 e2 : TypeId} {v1 v2 : Value} {x1 x2 : List Value} (h1 : w.ownsRow b1 e1 s1 v1 n1 x1) (h2 : w.ownsRow b2 e2 s2 v2 n2 x2) (hne : e1 ≠ e2) : v1.ownBlock = none \/ v1.ownBlock ≠ v2.ownBlock := by
 cases e : v1.ownBlock with
 | none => exact .inl rfl
 | some g =>
  refine .inr (fun e' => ?_); obtain ⟨_, cs, c1⟩ := qr h1 e; obtain ⟨_, cs', c2⟩ := qr h2 e'.symm; exact hne (xk c1 c2)
theorem XB {w w' : World} {g base n s : Nat} {t e : TypeId} {cs : Array Value} {v : Value} {xs : List Value} (h : zb w g t cs) (own : w.ownsRow base e s v n xs) (hne : t ≠ e) (hg : w.grownBy w' v.ownBlock) : zb w' g t cs := by
 refine (hg.block g h.lt (fun e' => ?_)).trans h; obtain ⟨_, cs', c2⟩ := qr own e'.symm; exact hne (xk h c2)
theorem Ym {w w' : World} {base n s : Nat} {e : TypeId} {v : Value} {xs : List Value} {A : Option Addr} {row : List V} (h : KV w A row) (own : w.ownsRow base e s v n xs) (he : e ≠ 33) (hg : w.grownBy w' v.ownBlock) : KV w' A row := by
 cases e' : v.ownBlock with
 | none =>
  rw [e'] at hg; exact h.grow (za.own (za.refl w) hg (fun i hi => by cases hi))
 | some g =>
  rw [e'] at hg; obtain ⟨_, cs, c⟩ := qr own e'; exact h.gx c he hg
