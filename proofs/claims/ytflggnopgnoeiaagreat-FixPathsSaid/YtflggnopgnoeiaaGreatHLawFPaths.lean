/-
 The law FixPaths. No condition beside the row's own.
-/
import Derived.Test.YtflggnopgnoeiaaGreatGFw
set_option maxRecDepth 100000
set_option maxHeartbeats 16000000
set_option maxRecDepth 100000
set_option linter.unusedSimpArgs false
set_option linter.unusedVariables false
namespace Go
variable {p : Prop}
theorem vd_ (h : p := by subst hW; exact (zb.new' _ _ _ (by simp)).al _) : p := h
theorem vt_ (h : p := by subst hW; exact ((zb.new _ _ _).al _).al _) : p := h
theorem vH_ (h : p := by subst hW; exact zb.new' _ _ _ (by simp)) : p := h
theorem v1_ (h : p := by rw [HG3.out]; exact Nat.le_refl _) : p := h
end Go
namespace Go.Proofs.YtflggnopgnoeiaaGreat
open Go.RowKit Go.Calm
/-! ten rows of ten truths -/
def qZ (w : World) (g : Nat) (W : Nat -> Nat -> Bool) : Prop := ∃ cs : Array Value, zb w g 50 cs /\ ∀ i j : Nat, i < 10 -> j < 10 -> cs[i * 10 + j]? = some (.bool (W i j))
section
variable {w w' : World} {g : Nat} {W : Nat -> Nat -> Bool}
theorem qZ.grow (h : qZ w g W) (hg : za w w') : qZ w' g W := by obtain ⟨cs, h1, h2⟩ := h; exact ⟨cs, h1.grow hg, h2⟩
theorem qZ.cell (h : qZ w g W) {i j : Nat} (hi : i < 10) (hj : j < 10) : w.cell? ⟨g, i * 10 + j, none⟩ = some (.bool (W i j)) := by obtain ⟨cs, h1, h2⟩ := h; rw [h1.cell]; exact h2 i j hi hj
theorem qZ.frozen (h : qZ w g W) (i : Nat) : w.frozen? ⟨g, i, none⟩ = false := by obtain ⟨cs, h1, _⟩ := h; exact h1.frozen i
theorem qZ.same {V : Nat -> Nat -> Bool} (h : qZ w g W) (e : ∀ i j : Nat, i < 10 -> j < 10 -> V i j = W i j) : qZ w g V := by obtain ⟨cs, h1, h2⟩ := h; exact ⟨cs, h1, fun i j hi hj => by rw [e i j hi hj]; exact h2 i j hi hj⟩
theorem qZ.put (h : qZ w g W) {i j : Nat} (hi : i < 10) (hj : j < 10) (b : Bool) : qZ (w.setCell ⟨g, i * 10 + j, none⟩ (.bool b)) g (fun a c => if a = i /\ c = j then b else W a c) := by
 obtain ⟨cs, h1, h2⟩ := h; refine ⟨_, h1.set (i * 10 + j) (.bool b), fun a c ha hc => ?_⟩
 have hs : i * 10 + j < cs.size := by
  have := h2 i j hi hj; exact (Array.getElem?_eq_some_iff.1 this).1
 rw [Array.getElem?_setIfInBounds]; show _ = some (Value.bool (if a = i /\ c = j then b else W a c))
 by_cases e : a = i /\ c = j
 ·rw [if_pos (by obtain ⟨rfl, rfl⟩ := e; rfl), if_pos hs, if_pos e]
 ·rw [if_neg (by intro e2; exact e uX_), if_neg e]; exact h2 a c ha hc
theorem qZ.own {base n s : Nat} {e : TypeId} {v : Value} {xs : List Value} (h : qZ w g W) (own : w.ownsRow base e s v n xs) (hne : 50 ≠ e) (hg : w.grownBy w' v.ownBlock) : qZ w' g W := by
 obtain ⟨cs, h1, h2⟩ := h; exact ⟨cs, XB h1 own hne hg, h2⟩
theorem qZ.ne {k : Nat} {t : TypeId} {cs : Array Value} (h : qZ w g W) (hb : zb w k t cs) (hne : t ≠ 50) : k ≠ g := fun e => by
 subst e; obtain ⟨cs', h1, _⟩ := h; exact hne (xk hb h1)
theorem qZ.kept {base n : Nat} {v : Value} {xs : List Value} (h : qZ w g W) (own : w.ownsRow base 53 2 v n xs) (hg : GX g w w') : w'.ownsRow base 53 2 v n xs := own.kept hg (by
 cases hv : v.ownBlock with
 | none => exact .inl rfl
 | some k =>
  right; intro e; simp at e; obtain ⟨_, cs, hb⟩ := qr own hv
  exact h.ne hb uW_ e)
end
def MT (w : World) (ps : List (Nat × Nat)) (ys : List I) : Prop := ys.map zh = Ca ps /\ ∀ y ∈ ys, ∃ g, y.A = some ⟨g, 0, none⟩ /\ DV w g y.row
theorem MT.grow {w w' : World} {ps : List (Nat × Nat)} {ys : List I} (h : MT w ps ys) (hg : za w w') : MT w' ps ys := ⟨h.1, fun y hy => by obtain ⟨g, e, k⟩ := h.2 y hy; exact ⟨g, e, k.grow hg⟩⟩
theorem MT.kept {w w' : World} {g : Nat} {W : Nat -> Nat -> Bool} {ps : List (Nat × Nat)} {ys : List I} (h : MT w ps ys) (hw : qZ w g W) (hg : GX g w w') : MT w' ps ys := ⟨h.1, fun y hy => by obtain ⟨k, e, d⟩ := h.2 y hy; exact ⟨k, e, GX.blk hg (hw.ne d uW_) d⟩⟩
theorem BM (w : World) : qZ (w.alloc (.cells Tryz.zeroCells50 50)) w.heap.size (K6 []) := ⟨_, zb.new _ _ _, fun i j hi hj => by
 have h : Tryz.zeroCells50 = Array.replicate 100 (.bool false) := by kernel_rfl
 rw [h, Array.getElem?_replicate, if_pos uX_]
 rfl⟩
theorem Db {ps : List (Nat × Nat)} {a b : Nat} (i j : Nat) : K6 (ps ++ [(a, b)]) i j = if i = a /\ j = b then true else K6 ps i j := by
 unfold K6; rw [List.any_append]
 by_cases h : i = a /\ j = b
 ·rw [if_pos h]; simp [h.1, h.2]
 ·rw [if_neg h]
  have : [(a, b)].any (fun p => decide (p.1 = i) && decide (p.2 = j)) = false := by
   simp only [List.any_cons, List.any_nil, Bool.or_false, Bool.and_eq_false_iff, decide_eq_false_iff_not]
   by_cases e : a = i
   ·right; intro e2; exact h ⟨e.symm, e2.symm⟩
   ·exact .inl e
  rw [this, Bool.or_false]
theorem Uf {W : World} {gt gi : Nat} (h1 : zb W gt 22 #[.slice (some ⟨gi, 0, none⟩) 2 2]) (h2 : zb W gi 3 #[.int .i64 3, .int .i64 3]) : WO W (some ⟨gt, 0, none⟩) [⟨some ⟨gi, 0, none⟩, [3, 3], 2⟩] := fun i s hs => by
 match i, hs with
 | 0, hs =>
  simp at hs; subst hs
  exact ⟨gt, 0, rfl, h1.cells rfl, fun i x hx => by
   match i, hx with
   | 0, hx => simp at hx; subst hx; exact ⟨gi, 0, rfl, h2.cells rfl⟩
   | 1, hx => simp at hx; subst hx; exact ⟨gi, 0, rfl, h2.cells rfl⟩⟩
theorem TM {W : World} {gs : Nat} {s : S} (h3 : zb W gs 25 #[.slice s.A s.xs.length s.cap]) (hs : In W s) : MW W (some ⟨gs, 0, none⟩) [s] 1 :=
 ⟨fun i x hx => by
  match i, hx with
  | 0, hx => simp at hx; subst hx; exact ⟨gs, 0, rfl, h3.cells rfl, hs.z⟩, fun x hx => by simp at hx; subst hx; exact hs, Km uY_, by simp⟩
theorem GC {W : World} {gt gi gs ps pj pe pk : Nat} {s : S} {z : List Z} {m : Int} (hf : Zs [[3, 3]] (jT 0) (yF ps pj pe pk) [s.z] = (z, m, 0)) (h1 : zb W gt 22 #[.slice (some ⟨gi, 0, none⟩) 2 2]) (h2 : zb W gi 3 #[.int .i64 3, .int .i64 3]) (h3 : zb W gs 25 #[.slice s.A s.xs.length s.cap]) (hs : In W s) (hp : PX W (yF ps pj pe pk)) :
  Calls Tryz.prog 10 #[.slice (some ⟨gt, 0, none⟩) 1 1, (jT 0).val, (yF ps pj pe pk).val, .slice (some ⟨gs, 0, none⟩) 1 1] W fun en w' => ∃ (B : Option Addr) (ys : List I) (cap : Nat), en = .returned (.tuple #[.slice B ys.length cap, .int .i64 m, .int .i64 0]) /\ xe w' B ys /\ ys.map zh = z /\ yf B ys.length cap /\ za W w' := by
 have h := Nf [⟨some ⟨gi, 0, none⟩, [3, 3], 2⟩] (some ⟨gt, 0, none⟩) 1 (jT 0) (yF ps pj pe pk) [s] (some ⟨gs, 0, none⟩) 1 W (show 1 <= zp by decide) (fun t ht => by simp at ht; subst ht; show 2 <= zp; decide) (Uf h1 h2) (Rf W ⟨by decide, by decide⟩) hp (TM h3 hs); have e : Zs (zg [⟨some ⟨gi, 0, none⟩, [3, 3], 2⟩]) (jT 0) (yF ps pj pe pk) ([s].map S.z) = (z, m, 0) := hf; rw [e] at h; exact h
theorem VS {W : World} {gt gi gs ps pj pe pk : Nat} {s : S} {z : List Z} (hf : jy [[3, 3]] (jT 0) (yF ps pj pe pk) [s.z] = (z, 0)) (h1 : zb W gt 22 #[.slice (some ⟨gi, 0, none⟩) 2 2]) (h2 : zb W gi 3 #[.int .i64 3, .int .i64 3]) (h3 : zb W gs 25 #[.slice s.A s.xs.length s.cap]) (hs : In W s) (hp : PX W (yF ps pj pe pk)) :
  Calls Tryz.prog 13 #[.slice (some ⟨gt, 0, none⟩) 1 1, (jT 0).val, (yF ps pj pe pk).val, .slice (some ⟨gs, 0, none⟩) 1 1] W fun en w' => ∃ (B : Option Addr) (ys : List I) (cap : Nat), en = .returned (.tuple #[.slice B ys.length cap, .int .i64 0]) /\ xe w' B ys /\ ys.map zh = z /\ yf B ys.length cap /\ za W w' := by
 have h := Mr [⟨some ⟨gi, 0, none⟩, [3, 3], 2⟩] (some ⟨gt, 0, none⟩) 1 (jT 0) (yF ps pj pe pk) [s] (some ⟨gs, 0, none⟩) 1 W (show 1 <= zp by decide) (fun t ht => by simp at ht; subst ht; show 2 <= zp; decide) (Uf h1 h2) (Rf W ⟨by decide, by decide⟩) hp (TM h3 hs); have e : jy (zg [⟨some ⟨gi, 0, none⟩, [3, 3], 2⟩]) (jT 0) (yF ps pj pe pk) ([s].map S.z) = (z, 0) := hf; rw [e] at h; exact h
def A8w (i j : Nat) (v : Value) (W : World) : Prop := ∃ g : Nat, v = .agg #[.slice (some ⟨g, 0, none⟩) 2 2, .int .i64 1] /\ DV W g (qP i j)
def A9w (i j : Nat) (v : Value) (W : World) : Prop := ∃ g : Nat, v = .slice (some ⟨g, 0, none⟩) 2 2 /\ DV W g (qP i j)
theorem A8w.pers (i j : Nat) : xQ (A8w i j) := fun v w w' hg ⟨a, e, h1⟩ => ⟨a, e, zb.grow h1 hg⟩
theorem A9w.pers (i j : Nat) : xQ (A9w i j) := fun v w w' hg ⟨a, e, h1⟩ => ⟨a, e, zb.grow h1 hg⟩
theorem Nr (xs : List Int) (A : Option Addr) (c : Nat) (w : World) (hl : xs.length <= 9223372036854775807) (hx : yU w A xs) :
  Calls Tryz.prog 6 #[.slice A xs.length c] w fun en w' => en = .returned (.bool true) /\ za w w' := by
 have mixed : Tryz.prog.follows .mixedOrders = true := by kernel_rfl
 have HX := hh_ hx; have cl := fun a b W => JX a b W
 clear hx; go_enter Tryz.func6, Tryz.ntmps6
 by_cases h60 : 60 < xs.length
 ·have d60 : decide ((60 : Int) < (xs.length : Int)) = true := decide_eq_true uX_; clear h60; go_wp2; go_ret; exact ⟨rfl, za.refl _⟩
 have d60 : decide ((60 : Int) < (xs.length : Int)) = false := decide_eq_false uX_; go_upto_region 5 with fail
 refine zc (fun X => qZ X w.heap.size (K6 []) /\ za w X) ⟨BM w, (za.refl w).al _⟩ ?_; rintro X ⟨W0, G0⟩; obtain ⟨g3, hg3⟩ : ∃ g, w.heap.size = g := ⟨_, rfl⟩
 rw [hg3] at W0 ⊢; have W0 := hh_ W0; have HG3 := hh_ hg3; clear hg3; go_wp2
 go_loopw [4, 5] (fun t i wr => ∃ (ps : List (Nat × Nat)) (ys : List I), i = .int .i64 ((2 * ps.length : Nat) : Int) /\ 2 * ps.length <= xs.length /\ (∀ p ∈ ps, p.1 < 10 /\ p.2 < 10) /\ wr.ownsRow w.heap.size 53 2 t ys.length (zr ys) /\ MT wr ps ys /\ qZ wr g3 (K6 ps) /\ za w wr) (fun _ i _ => xs.length - (intOf i).toNat)
 case atStart => exact ⟨[], [], rfl, Nat.zero_le _, fun p hp => by simp at hp, World.ownsRow_nil _ _ _ _, ⟨rfl, fun y hy => by simp at hy⟩, W0.out, G0⟩
 case round =>
  rename World => wr
  obtain ⟨ps, ys, rfl, hk, hps, hown, hed, hway, hg⟩ := hrel; have yl : ys.length = ps.length := by have := congrArg List.length hed.1; simpa [Ca] using this
  have YL := hh_ yl; obtain ⟨Bo, capo, rfl⟩ := yV hown; have Own := hh_ hown; have Ed := hh_ hed; have Wy := hh_ hway; have PS := hh_ hps; clear hown hed hway hps yl; obtain ⟨k, hk2⟩ : ∃ k : Nat, 2 * ps.length = k := ⟨_, rfl⟩
  rw [hk2] at hk ⊢; have HK2 := hh_ hk2; clear hk2; have hw1 : wrap64 ((k : Int) + 1) = (k : Int) + 1 := by unfold wrap64; omega
  have hw2 : wrap64 ((k : Int) + 2) = (k : Int) + 2 := by unfold wrap64; omega
  by_cases hlt : k + 1 < xs.length
  ·obtain ⟨x, hxk⟩ : ∃ x, xs[k]? = some x := ⟨_, qQ_ uX_⟩
   obtain ⟨y, hyk⟩ : ∃ y, xs[k + 1]? = some y := ⟨_, qQ_ hlt⟩
   obtain ⟨gx, ox, rfl, cx⟩ := (HX.out.grow hg) k x hxk; obtain ⟨gx', ox', ea, cy⟩ := (HX.out.grow hg) (k + 1) y hyk; simp at ea; obtain ⟨rfl, rfl⟩ := ea; have q0 : (0 : Int) <= (k : Int) := by omega
   have q1 : (k : Int) < (xs.length : Int) := by omega
   have q2 : (k : Int) + 1 < (xs.length : Int) := by omega
   have q3 : (0 : Int) <= (k : Int) + 1 := by omega
   have t1 : ((k : Int) + 1).toNat = k + 1 := by omega
   clear hxk hyk
   have st : ∀ (a b : Nat), a < 10 -> b < 10 -> (∀ p ∈ ps ++ [(a, b)], p.1 < 10 /\ p.2 < 10) /\ 2 * (ps ++ [(a, b)]).length = k + 2 := fun a b ha hb => ⟨fun p hp => by
    rcases List.mem_append.1 hp with h | h
    ·exact PS.out p h
    ·simp at h; subst h; exact ⟨ha, hb⟩, by simp; have := HK2.out; omega⟩
   have ST := hh_ st; clear st; go_upto_region 8 with fail
   go_quiet (fail)
   by_cases rng : (0 <= x /\ 0 <= y) /\ x <= 9 /\ y <= 9
   ·obtain ⟨a, rfl⟩ : ∃ a : Nat, x = (a : Int) := ⟨x.toNat, by omega⟩
    obtain ⟨b, rfl⟩ : ∃ b : Nat, y = (b : Int) := ⟨y.toNat, by omega⟩
    have ha : a < 10 := by omega
    have hb : b < 10 := by omega
    have d1 : decide ((a : Int) < 0) = false := decide_eq_false uX_; have d2 : decide ((b : Int) < 0) = false := decide_eq_false uX_; have d3 : decide ((9 : Int) < (a : Int)) = false := decide_eq_false uX_; have d4 : decide ((9 : Int) < (b : Int)) = false := decide_eq_false uX_; have r0 : (0 : Int) <= (a : Int) := by omega
    have r1 : (a : Int) < 10 := by omega
    have r2 : (0 : Int) <= (b : Int) := by omega
    have r3 : (b : Int) < 10 := by omega
    have HAB := hh_ (And.intro ha hb); clear rng ha hb; have gd : za wr (wr.drewN nq) := (za.refl wr).drewN nq; have cw := (Wy.out.grow gd).cell HAB.out.1 HAB.out.2; have fw := (Wy.out.grow gd).frozen; go_upto_region 12 with fail
    have gx3 : GX g3 (wr.drewN nq) ((wr.drewN nq).setCell ⟨g3, a * 10 + b, none⟩ (.bool true)) := (GX.refl g3 _).set _ _; have gw3 : za w ((wr.drewN nq).setCell ⟨g3, a * 10 + b, none⟩ (.bool true)) := za.set (hg.trans gd) v1_ _; refine zc (fun Z => qZ Z g3 (K6 (ps ++ [(a, b)])) /\ Z.ownsRow w.heap.size 53 2 (.slice Bo ys.length capo) ys.length (zr ys) /\ MT Z ps ys /\ za w Z) ⟨((Wy.out.grow gd).put HAB.out.1 HAB.out.2 true).same (fun i j hi hj => Db i j), (Wy.out.grow gd).kept (zi Own.out gd) gx3, (Ed.out.grow gd).kept (Wy.out.grow gd) gx3, gw3⟩ ?_; rintro Z ⟨Wz, Oz, Ez, Gz⟩; have Wz := hh_ Wz; have Oz := hh_ Oz; have Ez := hh_ Ez; clear cw fw gx3 gw3 gd cx cy
    go_wp2_with (first
     | (go_at_call 17; ((with_reducible refine (cl _ _ _).mono ?_); rintro e w4 ⟨gl, rfl, dv4, hg4⟩; have Dv4 := hh_ dv4; have O4 := hh_ (zi Oz.out hg4); clear dv4))
     | (at_builtin; refine zj rfl _ _ rfl w.heap.size _ ys.length ys rfl (O4.out.alloc _) _ [I.mk (some ⟨gl, 0, none⟩) (qP a b) 2 1] rfl (jD rfl (zb.new _ _ _)) (by simp; have := YL.out; have := HK2.out; omega) (by have := (Gz.trans hg4).size; simp; omega) ?_; intro v7 w7 own7 gr7))
    have oA := O4.out.alloc (.cells #[.slice (some ⟨gl, 0, none⟩) 2 2, .int .i64 1] 53); have G7 : za w w7 := zy ((Gz.trans hg4).al _) gr7 oA; have W7 := hh_ (((Wz.out.grow hg4).grow ((za.refl _).al _)).own oA uW_ gr7)
    have E7 : MT w7 (ps ++ [(a, b)]) (ys ++ [I.mk (some ⟨gl, 0, none⟩) (qP a b) 2 1]) := by
     refine ⟨by rw [List.map_append, Ez.out.1]; unfold Ca; rw [List.map_append]; rfl, fun y hy => ?_⟩; rcases List.mem_append.1 hy with hy | hy
     ·obtain ⟨g, e1, h1⟩ := ((Ez.out.grow hg4).grow ((za.refl _).al (.cells #[.slice (some ⟨gl, 0, none⟩) 2 2, .int .i64 1] 53))).2 y hy; exact ⟨g, e1, DV.kept h1 oA gr7⟩
     ·simp at hy; subst hy; exact ⟨gl, rfl, DV.kept (Dv4.out.grow ((za.refl _).al _)) oA gr7⟩
    have E7 := hh_ E7; have O7 := hh_ own7; clear own7 gr7 oA; go_roundw
    case rel => exact ⟨ps ++ [(a, b)], ys ++ [I.mk (some ⟨gl, 0, none⟩) (qP a b) 2 1], by rw [(ST.out a b HAB.out.1 HAB.out.2).2]; go_num, by rw [(ST.out a b HAB.out.1 HAB.out.2).2]; omega, (ST.out a b HAB.out.1 HAB.out.2).1, by simpa using O7.out, E7.out, W7.out, G7⟩
    case measure => exact u1_
   ·have gd : za w (wr.drewN nq) := hg.trans ((za.refl wr).drewN nq)
    by_cases x0 : x < 0
    ·have d1 : decide (x < 0) = true := decide_eq_true x0; clear rng; go_wp2; go_ret; exact ⟨rfl, gd⟩
    ·have d1 : decide (x < 0) = false := decide_eq_false x0
     by_cases y0 : y < 0
     ·have d2 : decide (y < 0) = true := decide_eq_true y0; clear rng; go_wp2; go_ret; exact ⟨rfl, gd⟩
     ·have d2 : decide (y < 0) = false := decide_eq_false y0
      by_cases x9 : 9 < x
      ·have d3 : decide (9 < x) = true := decide_eq_true x9; clear rng; go_wp2; go_ret; exact ⟨rfl, gd⟩
      ·have d3 : decide (9 < x) = false := decide_eq_false x9; have d4 : decide (9 < y) = true := decide_eq_true uX_; have y9 : 9 < y := by omega
       clear rng; go_wp2; go_ret; exact ⟨rfl, gd⟩
  ·have nlt : decide ((k : Int) + 1 < (xs.length : Int)) = false := decide_eq_false uX_; have pl : ps.length <= 30 := by have := HK2.out; omega
   have PLE := hh_ pl; obtain ⟨E, hE⟩ : ∃ E, K6 ps = E := ⟨_, rfl⟩
   rw [hE] at Wy; have HE := hh_ hE; clear pl hlt hE; go_upto_region 13 with fail
   clear hw1 hw2 nlt hk; go_wp2
   go_loopw [65] (fun i wx => ∃ k : Nat, k <= 10 /\ i = .int .i64 k /\ qZ wx g3 (xo E k) /\ GX g3 wr wx) (fun i _ => 10 - (intOf i).toNat)
   case atStart => exact ⟨0, Nat.zero_le _, rfl, Wy.out, GX.refl _ _⟩
   case round =>
    rename World => wa
    obtain ⟨k, hk, rfl, hwk, hgk⟩ := hrel; have HWK := hh_ (And.intro hwk hgk); clear hwk hgk
    by_cases hlt : k < 10
    ·go_upto_region 16 with fail
     go_wp2
     go_loopw [68] (fun i wx => ∃ i' : Nat, i' <= 10 /\ i = .int .i64 i' /\ qZ wx g3 (fun a c => if a < i' then xo E (k + 1) a c else xo E k a c) /\ GX g3 wr wx) (fun i _ => 10 - (intOf i).toNat)
     case atStart => exact ⟨0, Nat.zero_le _, rfl, HWK.out.1.same (fun a c _ _ => if_neg (Nat.not_lt_zero a)), HWK.out.2⟩
     case round =>
      rename World => wb
      obtain ⟨i, hi, rfl, hwi, hgi⟩ := hrel; have HWI := hh_ (And.intro hwi hgi); clear hwi hgi
      by_cases hlti : i < 10
      ·go_upto_region 19 with fail
       go_wp2
       go_loopw [71] (fun j wx => ∃ j' : Nat, j' <= 10 /\ j = .int .i64 j' /\ qZ wx g3 (fun a c => if a < i \/ (a = i /\ c < j') then xo E (k + 1) a c else xo E k a c) /\ GX g3 wr wx) (fun j _ => 10 - (intOf j).toNat)
       case atStart => exact ⟨0, Nat.zero_le _, rfl, HWI.out.1.same (fun a c _ _ => by
        by_cases h : a < i
        ·rw [if_pos (.inl h), if_pos h]
        ·rw [if_neg uX_, if_neg h]), HWI.out.2⟩
       case round =>
        rename World => wc
        obtain ⟨j, hj, rfl, hwj, hgj⟩ := hrel; have HWJ := hh_ (And.intro hwj hgj); clear hwj hgj
        by_cases hltj : j < 10
        ·go_upto_region 22 with fail
         have k1 : (0 : Int) <= (k : Int) := by omega
         have k2 : (k : Int) < 10 := by omega
         have i1 : (0 : Int) <= (i : Int) := by omega
         have i2 : (i : Int) < 10 := by omega
         have j1 : (0 : Int) <= (j : Int) := by omega
         have j2 : (j : Int) < 10 := by omega
         have cij := HWJ.out.1.cell hlti hltj; have cik := HWJ.out.1.cell hlti hlt; have ckj := HWJ.out.1.cell hlt hltj; have fz := HWJ.out.1.frozen; rw [if_neg uX_] at cij
         have eik : (if i < i \/ (i = i /\ k < j) then xo E (k + 1) i k else xo E k i k) = xo E k i k := by
          split
          ·show (xo E k i k || (xo E k i k && xo E k k k)) = _; cases xo E k i k <;> rfl
          ·rfl
         have ekj : (if k < i \/ (k = i /\ j < j) then xo E (k + 1) k j else xo E k k j) = xo E k k j := by
          split
          ·show (xo E k k j || (xo E k k k && xo E k k j)) = _; cases xo E k k j <;> cases xo E k k k <;> rfl
          ·rfl
         rw [eik] at cik; rw [ekj] at ckj; obtain ⟨b1, hb1⟩ : ∃ b, xo E k i j = b := ⟨_, rfl⟩
         obtain ⟨b2, hb2⟩ : ∃ b, xo E k i k = b := ⟨_, rfl⟩
         obtain ⟨b3, hb3⟩ : ∃ b, xo E k k j = b := ⟨_, rfl⟩
         rw [hb1] at cij; rw [hb2] at cik; rw [hb3] at ckj
         have nx : ∀ W, (W = wc.setCell ⟨g3, i * 10 + j, none⟩ (.bool (b1 || (b2 && b3)))) -> qZ W g3 (fun a c => if a < i \/ (a = i /\ c < j + 1) then xo E (k + 1) a c else xo E k a c) /\ GX g3 wr W := fun W e => by
          subst e; refine ⟨(HWJ.out.1.put hlti hltj _).same (fun a c _ _ => ?_), HWJ.out.2.set _ _⟩
          by_cases h : a = i /\ c = j
          ·rw [if_pos h, if_pos uX_]; obtain ⟨rfl, rfl⟩ := h; show (xo E k a c || (xo E k a k && xo E k k c)) = _; rw [hb1, hb2, hb3]
          ·rw [if_neg h]
           by_cases h2 : a < i \/ (a = i /\ c < j)
           ·rw [if_pos h2, if_pos uX_]
           ·rw [if_neg h2, if_neg uX_]
         have NX := hh_ nx; clear nx eik ekj hb1 hb2 hb3; cases b1 <;> cases b2 <;> cases b3
         all_goals
          have nx := NX.out _ rfl; have NX2 := hh_ (And.intro (nx.1.grow (za.refl _).drew) nx.2.drew); clear nx; go_big_region_o
          all_goals
           go_wp2; go_roundw
           case rel => exact ⟨j + 1, by omega, by go_num, NX2.out.1, NX2.out.2⟩
           case measure => exact u1_
        ·obtain rfl : j = 10 := by omega
         go_wp2; go_roundw
         case rel => exact ⟨i + 1, by omega, by go_num, HWJ.out.1.same (fun a c _ hc => by
          by_cases h : a < i + 1
          ·rw [if_pos h, if_pos uX_]
          ·rw [if_neg h, if_neg uX_]), HWJ.out.2⟩
         case measure => exact u1_
      ·obtain rfl : i = 10 := by omega
       go_wp2; go_roundw
       case rel => exact ⟨k + 1, by omega, by go_num, HWI.out.1.same (fun a c ha _ => (if_pos ha).symm), HWI.out.2⟩
       case measure => exact u1_
    ·obtain rfl : k = 10 := by omega
     obtain ⟨V, hV⟩ : ∃ V, xo E 10 = V := ⟨_, rfl⟩
     have hwa := HWK.out.1; rw [hV] at hwa; have ha0 := Wy.out.kept Own.out HWK.out.2; have hb0 := Ed.out.kept Wy.out HWK.out.2; have ga : za w wa := GX.base hg v1_ HWK.out.2; obtain ⟨B9, cap9, e9, hz9, hk9⟩ := yQ ha0 (fun y hy => by obtain ⟨g, h1, h2⟩ := hb0.2 y hy; rw [h1]; exact h2.vsl); simp only [Value.slice.injEq] at e9; obtain ⟨rfl, _, rfl⟩ := e9; have WV := hh_ hwa; have ZY := hh_ (And.intro hz9 (And.intro hb0.1 hk9)); have HV := hh_ hV
     have co := fun W (h : za wa W) => FT ys Bo capo W (by have := YL.out; have := PLE.out; omega) (hz9.grow h) (fun y hy => by
      have h1 : zh y ∈ Ca ps := by rw [<- hb0.1]; exact qZ9 hy
      obtain ⟨p, _, e⟩ := List.mem_map.1 h1; have : y.row = qP p.1 p.2 := (congrArg Prod.fst e).symm
      rw [this]; show 2 <= _; decide)
     obtain ⟨d, ed, hD⟩ : ∃ d e, D4 (Ca ps) = (d, e) := ⟨_, _, rfl⟩
     rw [hb0.1, hD] at co; unfold yr at co; simp only at co; have CO := hh_ co; have HD := hh_ hD; clear hwa ha0 hb0 hz9 hk9 hV hD co; have cp := WG wa; go_upto_region 27 with (go_at_call 18; ((with_reducible refine cp.mono ?_); rintro en w1 ⟨ge, gk, gs, gj, rfl, hp, hg1⟩)); clear cp; refine zc (fun X => zb X w1.heap.size 39 (pC (jT 0)) /\ zb X (w1.heap.size + 1) 39 (pC (yF gs gj ge gk)) /\ PX X (yF gs gj ge gk) /\ za wa X) ?_ ?_
     ·exact ⟨(zb.new w1 _ _).al _, zb.new' _ _ _ uY_, hp.grow (((za.refl w1).al _).al _), (hg1.al _).al _⟩
     rintro X ⟨BX0, BX1, HP, G⟩; generalize w1.heap.size = gp at *; have BX0 := hh_ BX0; have BX1 := hh_ BX1; have HP := hh_ HP; clear hp; go_upto_region 28 with (go_at_call 19; ((with_reducible refine (CO.out _ G).mono ?_); rintro en w2 ⟨B2, ys2, cap2, rfl, hz2, hm2, hk2, hg2⟩)); have O2 := hh_ (And.intro hz2 (And.intro hm2 hk2)); have G2 := G.trans hg2; clear hz2 hm2 hk2
     by_cases hed : ed = 0
     ·subst hed; have eo := Dc PS.out PLE.out HD.out; obtain ⟨z, m, hfx, hqk, dz, pz, hz⟩ := U3 (gs := gs) (gj := gj) (ge := ge) (gk := gk) eo.1; have eV : RL d = E := by rw [<- HE.out]; funext i j; exact eo.2 i j
      rw [eV] at hz; have ez : z = kE V 0 := En dz pz (fun i j hi hj => by rw [hz i j hi hj, HV.out]); have sml : ZJ z := dz.sml; have i2 : In w2 ⟨B2, ys2, cap2⟩ := In.sml O2.out.1 O2.out.2.2 (by rw [O2.out.2.1]; exact ke eo.1.r); have ed2 : S.z ⟨B2, ys2, cap2⟩ = d := O2.out.2.1; rw [<- ed2] at hfx hqk; have FX := hh_ hfx; have QK := hh_ hqk; have I2 := hh_ i2; have EZ := hh_ (And.intro ez sml); clear eo hfx hqk dz pz hz eV ez sml i2 ed2; obtain ⟨x0, y0⟩ := (BX0.out.grow hg2).rules; obtain ⟨x1, y1⟩ := (BX1.out.grow hg2).rules; have l0 := (BX0.out.grow hg2).lt; have l1 := (BX1.out.grow hg2).lt; have cf := fun W (hW : W = ((w2.alloc (.cells #[.int .i64 3, .int .i64 3] 3)).alloc (.cells #[.slice (some ⟨w2.heap.size, 0, none⟩) 2 2] 22)).alloc (.cells #[.slice B2 ys2.length cap2] 25)) => GC (W := W) (gt := w2.heap.size + 1) (gi := w2.heap.size) (gs := w2.heap.size + 2) (s := ⟨B2, ys2, cap2⟩) FX.out vd_ vt_ vH_ (by subst hW; exact I2.out.grow ((((za.refl w2).al _).al _).al _)) (by subst hW; exact HP.out.grow (hg2.trans ((((za.refl w2).al _).al _).al _)))
      have hGW : ∀ W, W = ((w2.alloc (.cells #[.int .i64 3, .int .i64 3] 3)).alloc (.cells #[.slice (some ⟨w2.heap.size, 0, none⟩) 2 2] 22)).alloc (.cells #[.slice B2 ys2.length cap2] 25) -> za w2 W := fun W hW => by subst hW; exact ((za.refl _).al _).al _ |>.al _
      have CF := hh_ (And.intro cf hGW); clear cf hGW; go_upto_region 31 with (go_at_call 10; have g3' := CF.out.2 _ rfl; ((refine (CF.out.1 _ rfl).mono ?_); rintro en w3 ⟨B3, ys3, cap3, rfl, hz3, hm3, hk3, hg3⟩)); have G3 := g3'.trans hg3; have O3 := hh_ (And.intro hz3 (And.intro hm3 hk3)); clear x0 y0 x1 y1 l0 l1 hz3 hm3 hk3 CF g3' hg3; obtain ⟨x0, y0⟩ := (BX0.out.grow (hg2.trans G3)).rules; obtain ⟨x1, y1⟩ := (BX1.out.grow (hg2.trans G3)).rules; have l0 := (BX0.out.grow (hg2.trans G3)).lt; have l1 := (BX1.out.grow (hg2.trans G3)).lt; have cf := fun W (hW : W = ((w3.alloc (.cells #[.int .i64 3, .int .i64 3] 3)).alloc (.cells #[.slice (some ⟨w3.heap.size, 0, none⟩) 2 2] 22)).alloc (.cells #[.slice B2 ys2.length cap2] 25)) => VS (W := W) (gt := w3.heap.size + 1) (gi := w3.heap.size) (gs := w3.heap.size + 2) (s := ⟨B2, ys2, cap2⟩) QK.out vd_ vt_ vH_ (by subst hW; exact I2.out.grow (((G3.al _).al _).al _)) (by subst hW; exact HP.out.grow (hg2.trans (((G3.al _).al _).al _)))
      have hGW : ∀ W, W = ((w3.alloc (.cells #[.int .i64 3, .int .i64 3] 3)).alloc (.cells #[.slice (some ⟨w3.heap.size, 0, none⟩) 2 2] 22)).alloc (.cells #[.slice B2 ys2.length cap2] 25) -> za w3 W := fun W hW => by subst hW; exact ((za.refl _).al _).al _ |>.al _
      have CF := hh_ (And.intro cf hGW); clear cf hGW; go_upto_region 32 with (go_at_call 13; have g4' := CF.out.2 _ rfl; ((refine (CF.out.1 _ rfl).mono ?_); rintro en w4 ⟨B4, ys4, cap4, rfl, hz4, hm4, hk4, hg4⟩)); have G4 := G3.trans (g4'.trans hg4); have i3 : In w4 ⟨B3, ys3, cap3⟩ := In.sml (O3.out.1.grow (g4'.trans hg4)) O3.out.2.2 (by rw [O3.out.2.1]; exact EZ.out.2); have i4 : In w4 ⟨B4, ys4, cap4⟩ := In.sml hz4 hk4 (by rw [hm4]; exact EZ.out.2)
      have cs := T3 ⟨B3, ys3, cap3⟩ ⟨B4, ys4, cap4⟩ w4 i3 i4 (by
       show ys3.map zh = ys4.map zh
       rw [O3.out.2.1, hm4])
      have CS := hh_ cs; have ZZ := hh_ (And.intro i3 (show ys3.map zh = kE V 0 by rw [O3.out.2.1]; exact EZ.out.1)); clear x0 y0 x1 y1 l0 l1 hz4 hm4 hk4 CF g4' hg4 i3 i4 cs; go_upto_region 34 with (go_at_call 9; ((with_reducible refine CS.out.mono ?_); rintro en w5 ⟨rfl, hg5⟩)); have GF := hh_ (ga.trans (G2.trans (G4.trans hg5))); have WF := hh_ (WV.out.grow (G2.trans (G4.trans hg5))); have ZF := hh_ (And.intro (ZZ.out.1.z.grow hg5) ZZ.out.2)
      have ZL : ys3.length <= 100 := by
       have h1 := congrArg List.length ZZ.out.2; have h2 := Y7 (Zn (W := V)) (fun y hy => by obtain ⟨k, j, _, h1, h2, _, rfl⟩ := j9.1 hy; exact ⟨k, j, h1, h2, rfl⟩); simp at h1; omega
      clear CS; go_wp2
      go_loopw [19, 144] (fun n i wx => ∃ n' i' : Nat, i' <= 10 /\ i = .int .i64 i' /\ n = .int .i64 n' /\ n' <= ys3.length /\ (ys3.map zh).drop n' = kE V i' /\ za w5 wx) (fun _ i _ => 10 - (intOf i).toNat)
      case atStart => exact ⟨0, 0, Nat.zero_le _, rfl, rfl, Nat.zero_le _, by rw [List.drop_zero]; exact ZF.out.2, za.refl _⟩
      case round =>
       rename World => wd
       obtain ⟨n, i, hi, rfl, rfl, hn, hdr, hgd⟩ := hrel; have DR := hh_ hdr; clear hdr
       by_cases hlti : i < 10
       ·have rs := SW (W := V) hlti; have RS := hh_ rs; have i1 : (0 : Int) <= (i : Int) := by omega
        have i2 : (i : Int) < 10 := by omega
        clear rs; go_upto_region 38 with fail
        go_wp2
        go_loopw [19, 147] (fun n j wx => ∃ n' j' : Nat, j' <= 10 /\ j = .int .i64 j' /\ n = .int .i64 n' /\ n' <= ys3.length /\ (ys3.map zh).drop n' = kS V i j' ++ kE V (i + 1) /\ za w5 wx) (fun _ j _ => 10 - (intOf j).toNat)
        case atStart => exact ⟨n, 0, Nat.zero_le _, rfl, rfl, hn, by rw [DR.out, RS.out], hgd⟩
        case round =>
         rename World => we
         obtain ⟨m', j, hj, rfl, rfl, hm', hdj, hge⟩ := hrel; have DJ := hh_ hdj; clear hdj
         by_cases hltj : j < 10
         ·have wc := (WF.out.grow hge).cell hlti hltj; have fz := (WF.out.grow hge).frozen; have j1 : (0 : Int) <= (j : Int) := by omega
          have j2 : (j : Int) < 10 := by omega
          obtain ⟨b, hb⟩ : ∃ b, V i j = b := ⟨_, rfl⟩
          rw [hb] at wc; cases b with
          | false =>
           have dn := DJ.out; rw [EC hltj hb] at dn; have DN := hh_ dn; clear dn hb; go_wp2; go_roundw
           case rel => exact ⟨m', j + 1, by omega, by go_num, rfl, hm', DN.out, hge⟩
           case measure => exact u1_
          | true =>
           have dn := DJ.out; rw [VZ hltj hb, List.cons_append] at dn
           have hlm : m' < ys3.length := by
            apply Classical.byContradiction; intro h; rw [List.drop_eq_nil_of_le uN_] at dn; cases dn
           have dnx : (ys3.map zh).drop (m' + 1) = kS V i (j + 1) ++ kE V (i + 1) := by
            rw [<- List.drop_drop, dn]; rfl
           obtain ⟨y, hy⟩ : ∃ y, ys3[m']? = some y := ⟨_, qQ_ hlm⟩
           have ey : y.row = qP i j := by
            have h1 := congrArg (fun l : List Z => l[0]?) dn; simp [List.getElem?_drop, hy] at h1; exact congrArg Prod.fst h1
           obtain ⟨gz, oz, rfl, c1, c2, hv⟩ := (ZF.out.1.grow hge) m' y hy; have DN := hh_ dnx; have HY := hh_ (And.intro c1 hv); have EY := hh_ ey; have m1 : (0 : Int) <= (m' : Int) := by omega
           have m2 : (m' : Int) < (ys3.length : Int) := by omega
           have dge : decide ((ys3.length : Int) <= (m' : Int)) = false := decide_eq_false uX_; have dgn : decide (ys3.length <= m') = false := decide_eq_false uX_; clear dn dnx hy ey hb c1 c2 hv; go_upto_region 42 with fail
           clear wc fz; apply wp_region_calm 17 uQ_ uQ_
           case h' =>
            intro Q0 hQ0; simp only [List.take_succ_cons, List.take_zero]
            repeat ((first | ((first | apply calm_p rfl | apply zu rfl rfl rfl); case h1 => (intro w1 hw1 hF K hK; have e1 := hw1.cell HY.out.1; go_simp; first | exact hK _ (za.refl _))) | apply zw rfl rfl rfl rfl); intro K hK; go_simp; apply hK; clear hK K)
            apply M5 (A8w i j) rfl rfl rfl
            case h1 => exact wz_
            intro v168 K hK; go_simp; apply hK; clear hK K; apply M5 (A9w i j) rfl rfl rfl
            case h1 =>
             intro w1 hw1 hF K hK; obtain ⟨g, hv, h1⟩ := hF _ (List.mem_cons_self ..) ⟨_, rfl, by decide⟩; subst hv; have hfd : ∀ W : World, (Instr.field 53 (.agg #[.slice (some ⟨g, 0, none⟩) 2 2, .int .i64 1]) 0).run Tryz.prog W = .ok (.slice (some ⟨g, 0, none⟩) 2 2) W := fun _ => by kernel_rfl
             go_simp; exact hK _ _ (za.refl _) ⟨g, rfl, h1⟩
            intro v169 K hK; go_simp; apply hK; clear hK K; apply zu rfl rfl rfl
            case h1 =>
             intro w1 hw1 hF K hK; obtain ⟨g, hv, h1⟩ := hF _ (List.mem_cons_self ..) ⟨_, rfl, by decide⟩; subst hv; have cr := Q7 y.row (qP i j) y.A (some ⟨g, 0, none⟩) y.cap 2 w1 (by rw [EY.out]; show 2 <= _; decide) (show 2 <= _ by decide) (HY.out.2.grow hw1) h1.vsl; have e0 : zv zO y.row (qP i j) = 0 := by rw [EY.out]; exact J9 _
             rw [e0] at cr; have e2 : (qP i j).length = 2 := rfl; rw [e2] at cr; have CR := hh_ cr; clear cr e0 e2 h1; go_simp
             go_at_call 20
             refine CR.out.mono ?_; rintro en w' ⟨rfl, hg'⟩; exact ⟨_, rfl, hK _ hg'⟩
            intro K hK; go_simp; apply hK; clear hK K
            repeat ((first | ((first | apply calm_p rfl | apply zu rfl rfl rfl); case h1 => (intro w1 hw1 hF K hK; go_simp; first | exact hK _ (za.refl _))) | apply zw rfl rfl rfl rfl); intro K hK; go_simp; apply hK; clear hK K)
            refine calm_nil ?_; intro w1 hw1 hF; apply hQ0; clear hQ0; simp only [List.drop_succ_cons, List.drop_zero]; clear hF; rename World => wf
            go_wp2; go_roundw
            case rel => exact ⟨m' + 1, j + 1, by omega, by go_num, by go_num, by omega, DN.out, hge.trans hw1⟩
            case measure => exact u1_
           case hp' => exact ⟨A8w.pers _ _, A9w.pers _ _, trivial⟩
         ·obtain rfl : j = 10 := by omega
          have dn := DJ.out; rw [VY, List.nil_append] at dn; have DN := hh_ dn; clear dn; go_wp2; go_roundw
          case rel => exact ⟨m', i + 1, by omega, by go_num, rfl, hm', DN.out, hge⟩
          case measure => exact u1_
       ·obtain rfl : i = 10 := by omega
        have dn := DR.out; rw [VX] at dn
        have hnl : n = ys3.length := by
         have h1 := congrArg List.length dn; simp at h1; omega
        subst hnl; clear dn; go_wp2; go_ret; exact ⟨rfl, GF.out.trans hgd⟩
     ·have ned : (ed != 0) = true := by simpa using hed
      clear hed; go_wp2; go_ret; exact ⟨rfl, ga.trans G2⟩
