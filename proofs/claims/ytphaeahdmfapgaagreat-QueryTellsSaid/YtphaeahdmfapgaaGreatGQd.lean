/- Parts of a proof. No condition. -/
import Derived.Test.YtphaeahdmfapgaaGreatGQb
import Derived.Test.YtphaeahdmfapgaaGreatGZd
import Derived.Test.YtphaeahdmfapgaaGreatGGb
import Derived.Test.YtphaeahdmfapgaaGreatGZc
import Derived.Test.YtphaeahdmfapgaaGreatGWe
set_option maxRecDepth 100000
set_option maxHeartbeats 8000000
set_option maxRecDepth 100000
set_option linter.unusedSimpArgs false
set_option linter.unusedVariables false
namespace Go
variable {p : Prop}
theorem vd_ (h : p := by simp [results, Tryz.results33, go_sem] <;> rfl) : p := h
theorem ve_ (h : p := by simp [results, Tryz.results16, go_sem] <;> rfl) : p := h
theorem vk_ (h : p := by simp [results, Tryz.results8, go_sem] <;> rfl) : p := h
theorem uc_ (h : p := by rw [hm4]; exact HSM0.out trivial) : p := h
theorem un_ (h : p := by rw [Fin.out] at h; exact h) : p := h
theorem uD_ (h : p := by simp only; omega) : p := h
theorem wA_ (h : p := by
 have d1 : (e0 != 0) = true := by simpa using h1
 have fin : R = ([], e0) := by rw [Fin0.out, if_pos h1]
 have Fin := hh_ fin; clear fin
 go_wp2_with (go_at_call 16; ((with_reducible refine (CI0.out _ G3).mono ?_); rintro en w4 ⟨v4, B4, ys4, cap4, rfl, hv4, hz4, hm4, hk4, hg4⟩; clear hz4 hm4 hk4 hv4))
 refine qX_ ve_ rfl ?_; exact ⟨_, none, [], 0, by rw [Fin.out]; rfl, fun h => absurd un_ h1, zy _ _, by rw [Fin.out]; rfl, zX.nil, G3.trans hg4⟩) : p := h
theorem xQ_ (h : p := by
 cases HP.out with
 | mk hm' hc hk =>
  obtain ⟨gk, ok, h1, h2⟩ := hc 0 u3_; exact ⟨gk, ok, h1, h2, hk 0 u3_⟩) : p := h
end Go
namespace Go.Proofs.YtphaeahdmfapgaaGreat
open Go.RowKit Go.Calm
theorem Vl (n : Int) (x : E) (xs : km) (ag : kf) (A : Option Addr) (mm cap : Nat) (kid : Nat -> PL) (a b : L2 Int) (s t : S) (w : World) (hP : PX w (.mk 2 n x xs ag A mm cap kid)) (hla : a.xs.length <= 140737488355328) (ha : yD w a.A a.xs) (his : In w s) (R : List Z × Int) (hR : x7 a.xs x s.z = R) :
  Calls Tryz.prog 33 #[PL.val (.mk 2 n x xs ag A mm cap kid), vL a, vL b, sL s, sL t] w fun en w' => z0 w w' en R := by
 obtain ⟨hEx, hES, hAG, hlens⟩ : EX w x /\ Xa w xs.A xs.l /\ qn w ag.A ag.l /\ (xs.l.length <= zm /\ ag.l.length <= zm) := by cases hP with | mk hm hc hk hx hs ha hl hi => exact ⟨hx, hs, ha, hl⟩
 unfold zm at hlens; have cq := fun W (h : za w W) => Nc a.xs a.A a.cap x s W u4_ (ha.grow h) (hEx.grow h) (his.grow h)
 unfold E.val at cq; simp only [hR] at cq; have CQ := hh_ cq; unfold PL.val; simp only [PL.k, PL.n, PL.x, PL.xs, PL.ag, PL.A, PL.m, PL.cap]; clear cq hR hP hEx hES hAG hla ha his hlens; go_enter Tryz.func33, Tryz.ntmps33; go_upto_region 1 with fail
 refine zb (fun X => zc X w.heap.size 31 #[.int .i64 2, .int .i64 n, .int .i64 x.kind, .int .i64 x.v.k, .int .i64 x.v.n, .string x.v.s, .int .i64 x.col, .slice x.A x.n x.cap, .slice xs.A xs.l.length xs.c, .slice ag.A ag.l.length ag.c, .slice A mm cap] /\ za w X) ⟨zc.new _ _ _, (za.refl w).al _⟩ ?_; rintro X ⟨BX, G⟩; obtain ⟨bx, fx⟩ := BX.rules; have lx := BX.lt
 go_wp2_with (go_at_call 58; ((with_reducible refine (CQ.out _ G).mono ?_); rintro en w4 ⟨B, ys, cap9, rfl, hz4, hm4, hk4, hg4⟩; have Out := hh_ (And.intro hz4 (And.intro hm4 hk4)); clear hz4 hm4 hk4))
 refine qX_ vd_ rfl ?_; exact ⟨B, ys, cap9, rfl, Out.out.1, Out.out.2.1, Out.out.2.2, G.trans hg4⟩
theorem Vm (n : Int) (x : E) (xs : km) (ag : kf) (A : Option Addr) (mm cap : Nat) (kid : Nat -> PL) (a b : L2 Int) (s t : S) (w : World) (hP : PX w (.mk 3 n x xs ag A mm cap kid)) (hla : a.xs.length <= 140737488355328) (ha : yD w a.A a.xs) (his : In w s) (R : List Z × Int) (hR : QO a.xs xs.l s.z = R) :
  Calls Tryz.prog 33 #[PL.val (.mk 3 n x xs ag A mm cap kid), vL a, vL b, sL s, sL t] w fun en w' => z0 w w' en R := by
 obtain ⟨hEx, hES, hAG, hlens⟩ : EX w x /\ Xa w xs.A xs.l /\ qn w ag.A ag.l /\ (xs.l.length <= zm /\ ag.l.length <= zm) := by cases hP with | mk hm hc hk hx hs ha hl hi => exact ⟨hx, hs, ha, hl⟩
 unfold zm at hlens; have cq := fun W (h : za w W) => Vk a.xs a.A a.cap xs.l xs.A xs.c s W u4_ u4_ (ha.grow h) (hES.grow h) (his.grow h)
 simp only [hR] at cq; have CQ := hh_ cq; unfold PL.val; simp only [PL.k, PL.n, PL.x, PL.xs, PL.ag, PL.A, PL.m, PL.cap]; clear cq hR hP hEx hES hAG hla ha his hlens; go_enter Tryz.func33, Tryz.ntmps33; go_upto_region 1 with fail
 refine zb (fun X => zc X w.heap.size 31 #[.int .i64 3, .int .i64 n, .int .i64 x.kind, .int .i64 x.v.k, .int .i64 x.v.n, .string x.v.s, .int .i64 x.col, .slice x.A x.n x.cap, .slice xs.A xs.l.length xs.c, .slice ag.A ag.l.length ag.c, .slice A mm cap] /\ za w X) ⟨zc.new _ _ _, (za.refl w).al _⟩ ?_; rintro X ⟨BX, G⟩; obtain ⟨bx, fx⟩ := BX.rules; have lx := BX.lt
 go_wp2_with (go_at_call 59; ((with_reducible refine (CQ.out _ G).mono ?_); rintro en w4 ⟨B, ys, cap9, rfl, hz4, hm4, hk4, hg4⟩; have Out := hh_ (And.intro hz4 (And.intro hm4 hk4)); clear hz4 hm4 hk4))
 refine qX_ vd_ rfl ?_; exact ⟨B, ys, cap9, rfl, Out.out.1, Out.out.2.1, Out.out.2.2, G.trans hg4⟩
theorem Vn (n : Int) (x : E) (xs : km) (ag : kf) (A : Option Addr) (mm cap : Nat) (kid : Nat -> PL) (a b : L2 Int) (s t : S) (w : World) (hP : PX w (.mk 4 n x xs ag A mm cap kid)) (hla : a.xs.length <= 140737488355328) (ha : yD w a.A a.xs) (his : In w s) (hlb : b.xs.length <= 140737488355328) (hb : yD w b.A b.xs) (hit : In w t) (R : List Z × Int) (hR : XO a.xs b.xs x s.z t.z = R) :
  Calls Tryz.prog 33 #[PL.val (.mk 4 n x xs ag A mm cap kid), vL a, vL b, sL s, sL t] w fun en w' => z0 w w' en R := by
 obtain ⟨hEx, hES, hAG, hlens⟩ : EX w x /\ Xa w xs.A xs.l /\ qn w ag.A ag.l /\ (xs.l.length <= zm /\ ag.l.length <= zm) := by cases hP with | mk hm hc hk hx hs ha hl hi => exact ⟨hx, hs, ha, hl⟩
 unfold zm at hlens; have cq := fun W (h : za w W) => Dj a b x s t W hla hlb (ha.grow h) (hb.grow h) (hEx.grow h) (his.grow h) (hit.grow h)
 unfold E.val at cq; simp only [hR] at cq; have CQ := hh_ cq; unfold PL.val; simp only [PL.k, PL.n, PL.x, PL.xs, PL.ag, PL.A, PL.m, PL.cap]; clear cq hR hP hEx hES hAG hla ha his hlens hlb hb hit; go_enter Tryz.func33, Tryz.ntmps33; go_upto_region 1 with fail
 refine zb (fun X => zc X w.heap.size 31 #[.int .i64 4, .int .i64 n, .int .i64 x.kind, .int .i64 x.v.k, .int .i64 x.v.n, .string x.v.s, .int .i64 x.col, .slice x.A x.n x.cap, .slice xs.A xs.l.length xs.c, .slice ag.A ag.l.length ag.c, .slice A mm cap] /\ za w X) ⟨zc.new _ _ _, (za.refl w).al _⟩ ?_; rintro X ⟨BX, G⟩; obtain ⟨bx, fx⟩ := BX.rules; have lx := BX.lt
 go_wp2_with (go_at_call 60; ((with_reducible refine (CQ.out _ G).mono ?_); rintro en w4 ⟨B, ys, cap9, rfl, hz4, hm4, hk4, hg4⟩; have Out := hh_ (And.intro hz4 (And.intro hm4 hk4)); clear hz4 hm4 hk4))
 refine qX_ vd_ rfl ?_; exact ⟨B, ys, cap9, rfl, Out.out.1, Out.out.2.1, Out.out.2.2, G.trans hg4⟩
theorem Vo (n : Int) (x : E) (xs : km) (ag : kf) (A : Option Addr) (mm cap : Nat) (kid : Nat -> PL) (a b : L2 Int) (s t : S) (w : World) (hP : PX w (.mk 5 n x xs ag A mm cap kid)) (hla : a.xs.length <= 140737488355328) (ha : yD w a.A a.xs) (his : In w s) (hlb : b.xs.length <= 140737488355328) (hb : yD w b.A b.xs) (hit : In w t) (R : List Z × Int) (hR : xY true a.xs b.xs x s.z t.z = R) :
  Calls Tryz.prog 33 #[PL.val (.mk 5 n x xs ag A mm cap kid), vL a, vL b, sL s, sL t] w fun en w' => z0 w w' en R := by
 obtain ⟨hEx, hES, hAG, hlens⟩ : EX w x /\ Xa w xs.A xs.l /\ qn w ag.A ag.l /\ (xs.l.length <= zm /\ ag.l.length <= zm) := by cases hP with | mk hm hc hk hx hs ha hl hi => exact ⟨hx, hs, ha, hl⟩
 unfold zm at hlens; have cq := fun W (h : za w W) => Dk a b x s t W hla hlb (ha.grow h) (hb.grow h) (hEx.grow h) (his.grow h) (hit.grow h)
 unfold E.val at cq; simp only [hR] at cq; have CQ := hh_ cq; unfold PL.val; simp only [PL.k, PL.n, PL.x, PL.xs, PL.ag, PL.A, PL.m, PL.cap]; clear cq hR hP hEx hES hAG hla ha his hlens hlb hb hit; go_enter Tryz.func33, Tryz.ntmps33; go_upto_region 1 with fail
 refine zb (fun X => zc X w.heap.size 31 #[.int .i64 5, .int .i64 n, .int .i64 x.kind, .int .i64 x.v.k, .int .i64 x.v.n, .string x.v.s, .int .i64 x.col, .slice x.A x.n x.cap, .slice xs.A xs.l.length xs.c, .slice ag.A ag.l.length ag.c, .slice A mm cap] /\ za w X) ⟨zc.new _ _ _, (za.refl w).al _⟩ ?_; rintro X ⟨BX, G⟩; obtain ⟨bx, fx⟩ := BX.rules; have lx := BX.lt
 go_wp2_with (go_at_call 60; ((with_reducible refine (CQ.out _ G).mono ?_); rintro en w4 ⟨B, ys, cap9, rfl, hz4, hm4, hk4, hg4⟩; have Out := hh_ (And.intro hz4 (And.intro hm4 hk4)); clear hz4 hm4 hk4))
 refine qX_ vd_ rfl ?_; exact ⟨B, ys, cap9, rfl, Out.out.1, Out.out.2.1, Out.out.2.2, G.trans hg4⟩
theorem Vp (n : Int) (x : E) (xs : km) (ag : kf) (A : Option Addr) (mm cap : Nat) (kid : Nat -> PL) (a b : L2 Int) (s t : S) (w : World) (hP : PX w (.mk 6 n x xs ag A mm cap kid)) (hla : a.xs.length <= 140737488355328) (ha : yD w a.A a.xs) (his : In w s) (hlb : b.xs.length <= 140737488355328) (hb : yD w b.A b.xs) (hit : In w t) (R : List Z × Int) (hR : xY false a.xs b.xs x s.z t.z = R) :
  Calls Tryz.prog 33 #[PL.val (.mk 6 n x xs ag A mm cap kid), vL a, vL b, sL s, sL t] w fun en w' => z0 w w' en R := by
 obtain ⟨hEx, hES, hAG, hlens⟩ : EX w x /\ Xa w xs.A xs.l /\ qn w ag.A ag.l /\ (xs.l.length <= zm /\ ag.l.length <= zm) := by cases hP with | mk hm hc hk hx hs ha hl hi => exact ⟨hx, hs, ha, hl⟩
 unfold zm at hlens; have cq := fun W (h : za w W) => Dl a b x s t W hla hlb (ha.grow h) (hb.grow h) (hEx.grow h) (his.grow h) (hit.grow h)
 unfold E.val at cq; simp only [hR] at cq; have CQ := hh_ cq; unfold PL.val; simp only [PL.k, PL.n, PL.x, PL.xs, PL.ag, PL.A, PL.m, PL.cap]; clear cq hR hP hEx hES hAG hla ha his hlens hlb hb hit; go_enter Tryz.func33, Tryz.ntmps33; go_upto_region 1 with fail
 refine zb (fun X => zc X w.heap.size 31 #[.int .i64 6, .int .i64 n, .int .i64 x.kind, .int .i64 x.v.k, .int .i64 x.v.n, .string x.v.s, .int .i64 x.col, .slice x.A x.n x.cap, .slice xs.A xs.l.length xs.c, .slice ag.A ag.l.length ag.c, .slice A mm cap] /\ za w X) ⟨zc.new _ _ _, (za.refl w).al _⟩ ?_; rintro X ⟨BX, G⟩; obtain ⟨bx, fx⟩ := BX.rules; have lx := BX.lt
 go_wp2_with (go_at_call 60; ((with_reducible refine (CQ.out _ G).mono ?_); rintro en w4 ⟨B, ys, cap9, rfl, hz4, hm4, hk4, hg4⟩; have Out := hh_ (And.intro hz4 (And.intro hm4 hk4)); clear hz4 hm4 hk4))
 refine qX_ vd_ rfl ?_; exact ⟨B, ys, cap9, rfl, Out.out.1, Out.out.2.1, Out.out.2.2, G.trans hg4⟩
theorem Vq (n : Int) (x : E) (xs : km) (ag : kf) (A : Option Addr) (mm cap : Nat) (kid : Nat -> PL) (a b : L2 Int) (s t : S) (w : World) (hP : PX w (.mk 7 n x xs ag A mm cap kid)) (hla : a.xs.length <= 140737488355328) (ha : yD w a.A a.xs) (his : In w s) (hlb : b.xs.length <= 140737488355328) (hb : yD w b.A b.xs) (hit : In w t) (R : List Z × Int) (hR : XQ a.xs b.xs x s.z t.z = R) :
  Calls Tryz.prog 33 #[PL.val (.mk 7 n x xs ag A mm cap kid), vL a, vL b, sL s, sL t] w fun en w' => z0 w w' en R := by
 obtain ⟨hEx, hES, hAG, hlens⟩ : EX w x /\ Xa w xs.A xs.l /\ qn w ag.A ag.l /\ (xs.l.length <= zm /\ ag.l.length <= zm) := by cases hP with | mk hm hc hk hx hs ha hl hi => exact ⟨hx, hs, ha, hl⟩
 unfold zm at hlens; have cq := fun W (h : za w W) => Dn a b x s t W hla hlb (ha.grow h) (hb.grow h) (hEx.grow h) (his.grow h) (hit.grow h)
 unfold E.val at cq; simp only [hR] at cq; have CQ := hh_ cq; unfold PL.val; simp only [PL.k, PL.n, PL.x, PL.xs, PL.ag, PL.A, PL.m, PL.cap]; clear cq hR hP hEx hES hAG hla ha his hlens hlb hb hit; go_enter Tryz.func33, Tryz.ntmps33; go_upto_region 1 with fail
 refine zb (fun X => zc X w.heap.size 31 #[.int .i64 7, .int .i64 n, .int .i64 x.kind, .int .i64 x.v.k, .int .i64 x.v.n, .string x.v.s, .int .i64 x.col, .slice x.A x.n x.cap, .slice xs.A xs.l.length xs.c, .slice ag.A ag.l.length ag.c, .slice A mm cap] /\ za w X) ⟨zc.new _ _ _, (za.refl w).al _⟩ ?_; rintro X ⟨BX, G⟩; obtain ⟨bx, fx⟩ := BX.rules; have lx := BX.lt
 go_wp2_with (go_at_call 60; ((with_reducible refine (CQ.out _ G).mono ?_); rintro en w4 ⟨B, ys, cap9, rfl, hz4, hm4, hk4, hg4⟩; have Out := hh_ (And.intro hz4 (And.intro hm4 hk4)); clear hz4 hm4 hk4))
 refine qX_ vd_ rfl ?_; exact ⟨B, ys, cap9, rfl, Out.out.1, Out.out.2.1, Out.out.2.2, G.trans hg4⟩
theorem Vr (n : Int) (x : E) (xs : km) (ag : kf) (A : Option Addr) (mm cap : Nat) (kid : Nat -> PL) (a b : L2 Int) (s t : S) (w : World) (hP : PX w (.mk 8 n x xs ag A mm cap kid)) (hla : a.xs.length <= 140737488355328) (ha : yD w a.A a.xs) (his : In w s) (hlb : b.xs.length <= 140737488355328) (hb : yD w b.A b.xs) (hit : In w t) (R : List Z × Int) (hR : xE (s.xs.map zg) (t.xs.map zg) 1 = R) :
  Calls Tryz.prog 33 #[PL.val (.mk 8 n x xs ag A mm cap kid), vL a, vL b, sL s, sL t] w fun en w' => z0 w w' en R := by
 obtain ⟨hEx, hES, hAG, hlens⟩ : EX w x /\ Xa w xs.A xs.l /\ qn w ag.A ag.l /\ (xs.l.length <= zm /\ ag.l.length <= zm) := by cases hP with | mk hm hc hk hx hs ha hl hi => exact ⟨hx, hs, ha, hl⟩
 unfold zm at hlens; have cq := fun W (h : za w W) => Kr s.xs t.xs s.A t.A s.cap t.cap 1 u4_ W (his.grow h) (hit.grow h)
 simp only [hR] at cq; have CQ := hh_ cq; unfold PL.val; simp only [PL.k, PL.n, PL.x, PL.xs, PL.ag, PL.A, PL.m, PL.cap]; clear cq hR hP hEx hES hAG hla ha his hlens hlb hb hit; go_enter Tryz.func33, Tryz.ntmps33; go_upto_region 1 with fail
 refine zb (fun X => zc X w.heap.size 31 #[.int .i64 8, .int .i64 n, .int .i64 x.kind, .int .i64 x.v.k, .int .i64 x.v.n, .string x.v.s, .int .i64 x.col, .slice x.A x.n x.cap, .slice xs.A xs.l.length xs.c, .slice ag.A ag.l.length ag.c, .slice A mm cap] /\ za w X) ⟨zc.new _ _ _, (za.refl w).al _⟩ ?_; rintro X ⟨BX, G⟩; obtain ⟨bx, fx⟩ := BX.rules; have lx := BX.lt
 go_wp2_with (go_at_call 61; ((with_reducible refine (CQ.out _ G).mono ?_); rintro en w4 ⟨B, ys, cap9, rfl, hz4, hm4, hk4, hg4⟩; have Out := hh_ (And.intro hz4 (And.intro hm4 hk4)); clear hz4 hm4 hk4))
 refine qX_ vd_ rfl ?_; exact ⟨B, ys, cap9, rfl, Out.out.1, Out.out.2.1, Out.out.2.2, G.trans hg4⟩
theorem Vs (n : Int) (x : E) (xs : km) (ag : kf) (A : Option Addr) (mm cap : Nat) (kid : Nat -> PL) (a b : L2 Int) (s t : S) (w : World) (hP : PX w (.mk 9 n x xs ag A mm cap kid)) (hla : a.xs.length <= 140737488355328) (ha : yD w a.A a.xs) (his : In w s) (hlb : b.xs.length <= 140737488355328) (hb : yD w b.A b.xs) (hit : In w t) (R : List Z × Int) (hR : xE (s.xs.map zg) (t.xs.map zg) (-1) = R) :
  Calls Tryz.prog 33 #[PL.val (.mk 9 n x xs ag A mm cap kid), vL a, vL b, sL s, sL t] w fun en w' => z0 w w' en R := by
 obtain ⟨hEx, hES, hAG, hlens⟩ : EX w x /\ Xa w xs.A xs.l /\ qn w ag.A ag.l /\ (xs.l.length <= zm /\ ag.l.length <= zm) := by cases hP with | mk hm hc hk hx hs ha hl hi => exact ⟨hx, hs, ha, hl⟩
 unfold zm at hlens; have cq := fun W (h : za w W) => Kr s.xs t.xs s.A t.A s.cap t.cap (-1) u4_ W (his.grow h) (hit.grow h)
 simp only [hR] at cq; have CQ := hh_ cq; unfold PL.val; simp only [PL.k, PL.n, PL.x, PL.xs, PL.ag, PL.A, PL.m, PL.cap]; clear cq hR hP hEx hES hAG hla ha his hlens hlb hb hit; go_enter Tryz.func33, Tryz.ntmps33; go_upto_region 1 with fail
 refine zb (fun X => zc X w.heap.size 31 #[.int .i64 9, .int .i64 n, .int .i64 x.kind, .int .i64 x.v.k, .int .i64 x.v.n, .string x.v.s, .int .i64 x.col, .slice x.A x.n x.cap, .slice xs.A xs.l.length xs.c, .slice ag.A ag.l.length ag.c, .slice A mm cap] /\ za w X) ⟨zc.new _ _ _, (za.refl w).al _⟩ ?_; rintro X ⟨BX, G⟩; obtain ⟨bx, fx⟩ := BX.rules; have lx := BX.lt
 go_wp2_with (go_at_call 61; ((with_reducible refine (CQ.out _ G).mono ?_); rintro en w4 ⟨B, ys, cap9, rfl, hz4, hm4, hk4, hg4⟩; have Out := hh_ (And.intro hz4 (And.intro hm4 hk4)); clear hz4 hm4 hk4))
 refine qX_ vd_ rfl ?_; exact ⟨B, ys, cap9, rfl, Out.out.1, Out.out.2.1, Out.out.2.2, G.trans hg4⟩
theorem S1 (n : Int) (x : E) (xs : km) (ag : kf) (A : Option Addr) (mm cap : Nat) (kid : Nat -> PL) (a b : L2 Int) (s t : S) (w : World) (hP : PX w (.mk 10 n x xs ag A mm cap kid)) (hla : a.xs.length <= 140737488355328) (ha : yD w a.A a.xs) (his : In w s) (R : List Z × Int) (hR : yA xh (s.xs.map zg) = R) :
  Calls Tryz.prog 33 #[PL.val (.mk 10 n x xs ag A mm cap kid), vL a, vL b, sL s, sL t] w fun en w' => z0 w w' en R := by
 obtain ⟨hEx, hES, hAG, hlens⟩ : EX w x /\ Xa w xs.A xs.l /\ qn w ag.A ag.l /\ (xs.l.length <= zm /\ ag.l.length <= zm) := by cases hP with | mk hm hc hk hx hs ha hl hi => exact ⟨hx, hs, ha, hl⟩
 unfold zm at hlens; have cq := fun W (h : za w W) => Vz s.xs s.A s.cap W (his.grow h)
 simp only [hR] at cq; have CQ := hh_ cq; unfold PL.val; simp only [PL.k, PL.n, PL.x, PL.xs, PL.ag, PL.A, PL.m, PL.cap]; clear cq hR hP hEx hES hAG hla ha his hlens; go_enter Tryz.func33, Tryz.ntmps33; go_upto_region 1 with fail
 refine zb (fun X => zc X w.heap.size 31 #[.int .i64 10, .int .i64 n, .int .i64 x.kind, .int .i64 x.v.k, .int .i64 x.v.n, .string x.v.s, .int .i64 x.col, .slice x.A x.n x.cap, .slice xs.A xs.l.length xs.c, .slice ag.A ag.l.length ag.c, .slice A mm cap] /\ za w X) ⟨zc.new _ _ _, (za.refl w).al _⟩ ?_; rintro X ⟨BX, G⟩; obtain ⟨bx, fx⟩ := BX.rules; have lx := BX.lt
 go_wp2_with (go_at_call 62; ((with_reducible refine (CQ.out _ G).mono ?_); rintro en w4 ⟨B, ys, cap9, rfl, hz4, hm4, hk4, hg4⟩; have Out := hh_ (And.intro hz4 (And.intro hm4 hk4)); clear hz4 hm4 hk4))
 refine qX_ vd_ rfl ?_; exact ⟨B, ys, cap9, rfl, Out.out.1, Out.out.2.1, Out.out.2.2, G.trans hg4⟩
theorem S2 (n : Int) (x : E) (xs : km) (ag : kf) (A : Option Addr) (mm cap : Nat) (kid : Nat -> PL) (a b : L2 Int) (s t : S) (w : World) (hP : PX w (.mk 11 n x xs ag A mm cap kid)) (hla : a.xs.length <= 140737488355328) (ha : yD w a.A a.xs) (his : In w s) (R : List Z × Int) (hR : yA Xz (s.xs.map zg) = R) :
  Calls Tryz.prog 33 #[PL.val (.mk 11 n x xs ag A mm cap kid), vL a, vL b, sL s, sL t] w fun en w' => z0 w w' en R := by
 obtain ⟨hEx, hES, hAG, hlens⟩ : EX w x /\ Xa w xs.A xs.l /\ qn w ag.A ag.l /\ (xs.l.length <= zm /\ ag.l.length <= zm) := by cases hP with | mk hm hc hk hx hs ha hl hi => exact ⟨hx, hs, ha, hl⟩
 unfold zm at hlens; have cq := fun W (h : za w W) => Vj s.xs s.A s.cap W (his.grow h)
 simp only [hR] at cq; have CQ := hh_ cq; unfold PL.val; simp only [PL.k, PL.n, PL.x, PL.xs, PL.ag, PL.A, PL.m, PL.cap]; clear cq hR hP hEx hES hAG hla ha his hlens; go_enter Tryz.func33, Tryz.ntmps33; go_upto_region 1 with fail
 refine zb (fun X => zc X w.heap.size 31 #[.int .i64 11, .int .i64 n, .int .i64 x.kind, .int .i64 x.v.k, .int .i64 x.v.n, .string x.v.s, .int .i64 x.col, .slice x.A x.n x.cap, .slice xs.A xs.l.length xs.c, .slice ag.A ag.l.length ag.c, .slice A mm cap] /\ za w X) ⟨zc.new _ _ _, (za.refl w).al _⟩ ?_; rintro X ⟨BX, G⟩; obtain ⟨bx, fx⟩ := BX.rules; have lx := BX.lt
 go_wp2_with (go_at_call 63; ((with_reducible refine (CQ.out _ G).mono ?_); rintro en w4 ⟨B, ys, cap9, rfl, hz4, hm4, hk4, hg4⟩; have Out := hh_ (And.intro hz4 (And.intro hm4 hk4)); clear hz4 hm4 hk4))
 refine qX_ vd_ rfl ?_; exact ⟨B, ys, cap9, rfl, Out.out.1, Out.out.2.1, Out.out.2.2, G.trans hg4⟩
theorem S3 (n : Int) (x : E) (xs : km) (ag : kf) (A : Option Addr) (mm cap : Nat) (kid : Nat -> PL) (a b : L2 Int) (s t : S) (w : World) (hP : PX w (.mk 12 n x xs ag A mm cap kid)) (hla : a.xs.length <= 140737488355328) (ha : yD w a.A a.xs) (his : In w s) (R : List Z × Int) (hR : QN a.xs xs.l ag.l (s.xs.map zg) = R) :
  Calls Tryz.prog 33 #[PL.val (.mk 12 n x xs ag A mm cap kid), vL a, vL b, sL s, sL t] w fun en w' => z0 w w' en R := by
 obtain ⟨hEx, hES, hAG, hlens⟩ : EX w x /\ Xa w xs.A xs.l /\ qn w ag.A ag.l /\ (xs.l.length <= zm /\ ag.l.length <= zm) := by cases hP with | mk hm hc hk hx hs ha hl hi => exact ⟨hx, hs, ha, hl⟩
 unfold zm at hlens; have cq := fun W (h : za w W) => Pw a.xs a.A a.cap xs.l xs.A xs.c ag.l ag.A ag.c s.xs s.A s.cap W u4_ u4_ u4_ (ha.grow h) (hES.grow h) (hAG.grow h) (his.grow h)
 simp only [hR] at cq; have CQ := hh_ cq; unfold PL.val; simp only [PL.k, PL.n, PL.x, PL.xs, PL.ag, PL.A, PL.m, PL.cap]; clear cq hR hP hEx hES hAG hla ha his hlens; go_enter Tryz.func33, Tryz.ntmps33; go_upto_region 1 with fail
 refine zb (fun X => zc X w.heap.size 31 #[.int .i64 12, .int .i64 n, .int .i64 x.kind, .int .i64 x.v.k, .int .i64 x.v.n, .string x.v.s, .int .i64 x.col, .slice x.A x.n x.cap, .slice xs.A xs.l.length xs.c, .slice ag.A ag.l.length ag.c, .slice A mm cap] /\ za w X) ⟨zc.new _ _ _, (za.refl w).al _⟩ ?_; rintro X ⟨BX, G⟩; obtain ⟨bx, fx⟩ := BX.rules; have lx := BX.lt
 go_wp2_with (go_at_call 64; ((with_reducible refine (CQ.out _ G).mono ?_); rintro en w4 ⟨B, ys, cap9, rfl, hz4, hm4, hk4, hg4⟩; have Out := hh_ (And.intro hz4 (And.intro hm4 hk4)); clear hz4 hm4 hk4))
 refine qX_ vd_ rfl ?_; exact ⟨B, ys, cap9, rfl, Out.out.1, Out.out.2.1, Out.out.2.2, G.trans hg4⟩
theorem S4 (n : Int) (x : E) (xs : km) (ag : kf) (A : Option Addr) (mm cap : Nat) (kid : Nat -> PL) (a b : L2 Int) (s t : S) (w : World) (hP : PX w (.mk 13 n x xs ag A mm cap kid)) (hla : a.xs.length <= 140737488355328) (ha : yD w a.A a.xs) (his : In w s) (R : List Z × Int) (hR : Qn a.xs xs.l n s.z = R) :
  Calls Tryz.prog 33 #[PL.val (.mk 13 n x xs ag A mm cap kid), vL a, vL b, sL s, sL t] w fun en w' => z0 w w' en R := by
 obtain ⟨hEx, hES, hAG, hlens⟩ : EX w x /\ Xa w xs.A xs.l /\ qn w ag.A ag.l /\ (xs.l.length <= zm /\ ag.l.length <= zm) := by cases hP with | mk hm hc hk hx hs ha hl hi => exact ⟨hx, hs, ha, hl⟩
 unfold zm at hlens; have cq := fun W (h : za w W) => VD a.xs a.A a.cap xs.l xs.A xs.c n s W u4_ u4_ (ha.grow h) (hES.grow h) (his.grow h)
 simp only [hR] at cq; have CQ := hh_ cq; unfold PL.val; simp only [PL.k, PL.n, PL.x, PL.xs, PL.ag, PL.A, PL.m, PL.cap]; clear cq hR hP hEx hES hAG hla ha his hlens; go_enter Tryz.func33, Tryz.ntmps33; go_upto_region 1 with fail
 refine zb (fun X => zc X w.heap.size 31 #[.int .i64 13, .int .i64 n, .int .i64 x.kind, .int .i64 x.v.k, .int .i64 x.v.n, .string x.v.s, .int .i64 x.col, .slice x.A x.n x.cap, .slice xs.A xs.l.length xs.c, .slice ag.A ag.l.length ag.c, .slice A mm cap] /\ za w X) ⟨zc.new _ _ _, (za.refl w).al _⟩ ?_; rintro X ⟨BX, G⟩; obtain ⟨bx, fx⟩ := BX.rules; have lx := BX.lt
 go_wp2_with (go_at_call 65; ((with_reducible refine (CQ.out _ G).mono ?_); rintro en w4 ⟨B, ys, cap9, rfl, hz4, hm4, hk4, hg4⟩; have Out := hh_ (And.intro hz4 (And.intro hm4 hk4)); clear hz4 hm4 hk4))
 refine qX_ vd_ rfl ?_; exact ⟨B, ys, cap9, rfl, Out.out.1, Out.out.2.1, Out.out.2.2, G.trans hg4⟩
theorem S5 (k n : Int) (x : E) (xs : km) (ag : kf) (A : Option Addr) (mm cap : Nat) (kid : Nat -> PL) (a b : L2 Int) (s t : S) (w : World) (hk : k = 2 \/ k = 3 \/ k = 10 \/ k = 11 \/ k = 12 \/ k = 13) (hP : PX w (.mk k n x xs ag A mm cap kid)) (hl : a.xs.length <= 140737488355328) (hi : yD w a.A a.xs) (hs : In w s) :
  Calls Tryz.prog 33 #[PL.val (.mk k n x xs ag A mm cap kid), vL a, vL b, sL s, sL t] w fun en w' => z0 w w' en (XA k n x xs.l ag.l [a.xs] [s.z]) := by
 rcases hk with rfl | rfl | rfl | rfl | rfl | rfl
 ·exact Vl n x xs ag A mm cap kid a b s t w hP hl hi hs _ rfl
 ·exact Vm n x xs ag A mm cap kid a b s t w hP hl hi hs _ rfl
 ·exact S1 n x xs ag A mm cap kid a b s t w hP hl hi hs _ rfl
 ·exact S2 n x xs ag A mm cap kid a b s t w hP hl hi hs _ rfl
 ·exact S3 n x xs ag A mm cap kid a b s t w hP hl hi hs _ rfl
 ·exact S4 n x xs ag A mm cap kid a b s t w hP hl hi hs _ rfl
theorem S9 (k n : Int) (x : E) (xs : km) (ag : kf) (A : Option Addr) (mm cap : Nat) (kid : Nat -> PL) (a b : L2 Int) (s t : S) (w : World) (hk : k = 4 \/ k = 5 \/ k = 6 \/ k = 7 \/ k = 8 \/ k = 9) (hP : PX w (.mk k n x xs ag A mm cap kid)) (hl : a.xs.length <= 140737488355328) (hi : yD w a.A a.xs) (hs : In w s) (hl2 : b.xs.length <= 140737488355328) (hi2 : yD w b.A b.xs) (ht : In w t) :
  Calls Tryz.prog 33 #[PL.val (.mk k n x xs ag A mm cap kid), vL a, vL b, sL s, sL t] w fun en w' => z0 w w' en (XA k n x xs.l ag.l [a.xs, b.xs] [s.z, t.z]) := by
 rcases hk with rfl | rfl | rfl | rfl | rfl | rfl
 ·exact Vn n x xs ag A mm cap kid a b s t w hP hl hi hs hl2 hi2 ht _ rfl
 ·exact Vo n x xs ag A mm cap kid a b s t w hP hl hi hs hl2 hi2 ht _ rfl
 ·exact Vp n x xs ag A mm cap kid a b s t w hP hl hi hs hl2 hi2 ht _ rfl
 ·exact Vq n x xs ag A mm cap kid a b s t w hP hl hi hs hl2 hi2 ht _ rfl
 ·exact Vr n x xs ag A mm cap kid a b s t w hP hl hi hs hl2 hi2 ht _ rfl
 ·exact Vs n x xs ag A mm cap kid a b s t w hP hl hi hs hl2 hi2 ht _ rfl
theorem SV (ts : List (L2 Int)) (At : Option Addr) (nt : Nat) (ds : List S) (Ad : Option Addr) (nd : Nat) (w : World) (hlt : ts.length <= zm) (hl : ∀ t ∈ ts, t.xs.length <= zm) (hts : NH w At ts) (hds : TN w Ad ds nd) :
  Calls Tryz.prog 15 #[.slice At ts.length nt, .slice Ad ds.length nd] w fun en w' => en = .returned (.int .i64 (jg (zn ts) (ds.map S.z))) /\ za w w' := by
 have Hts := hh_ hts; have Hds := hh_ hds; have HL := hh_ hl; have hlt' : ts.length <= 140737488355328 := hlt; have hdl := hds.len; obtain ⟨R, hR⟩ : ∃ R, jg (zn ts) (ds.map S.z) = R := ⟨_, rfl⟩
 rw [hR]; have HR := hh_ hR; clear hts hds hl hlt hR; go_enter Tryz.func15, Tryz.ntmps15
 by_cases hlen : ds.length = ts.length
 ·have dl : ((ts.length : Int) != (ds.length : Int)) = false := by simp; omega
  have inv0 : jt ((zn ts).drop 0) ((ds.map S.z).drop 0) = R := by rw [<- HR.out]; unfold jg; rw [if_neg uC_, List.drop_zero, List.drop_zero]
  have Inv0 := hh_ inv0; have Hlen := hh_ hlen; clear inv0 hlen; go_wp2
  go_loopw [14] (fun i wr => ∃ k : Nat, k <= ds.length /\ i = .int .i64 k /\ jt ((zn ts).drop k) ((ds.map S.z).drop k) = R /\ za w wr) (fun i _ => ds.length - (intOf i).toNat)
  case atStart => exact xf_
  case round =>
   obtain ⟨k, hk, rfl, hinv, hg⟩ := hrel; have xP := hh_ hinv; clear hinv
   by_cases hltk : k < ds.length
   ·have hltk2 : k < ts.length := by have := Hlen.out; omega
    obtain ⟨s, hsk⟩ : ∃ s, ds[k]? = some s := ⟨_, qQ_ hltk⟩
    obtain ⟨t, htk⟩ : ∃ t, ts[k]? = some t := ⟨_, qQ_ hltk2⟩
    obtain ⟨g, o, rfl, c1, hz⟩ := (Hds.out.grow hg).s k s hsk; obtain ⟨gt, ot, rfl, c2, hit⟩ := (Hts.out.grow hg) k t htk; have his := (Hds.out.grow hg).each s (qZ_ hsk); have htl : t.xs.length <= 140737488355328 := HL.out t (qZ_ htk); have inv2 := (JL htk hsk).symm.trans xP.out; obtain ⟨E, hE⟩ : ∃ E, zO t.xs s.z = E := ⟨_, rfl⟩
    rw [hE] at inv2; have cs := fun W (h : za wr W) => qC t.xs t.A t.cap s.xs s.A s.cap W u4_ (hit.grow h) (his.grow h)
    have hE' : zO t.xs (s.xs.map zg) = E := hE; simp only [hE'] at cs; have CS := hh_ cs; have Inv2 := hh_ inv2; have C12 := hh_ (And.intro c1 c2); clear inv2 hsk htk hz his hit hE hE' cs; go_wp2; apply ze 9 uY_ uY_
    case h' =>
     intro Q0 hQ0; simp only [List.take_succ_cons, List.take_zero]
     repeat ((first | ((first | apply zu rfl | apply zw rfl rfl rfl); case h1 => (intro w1 hw1 hF K hK; have e1 := hw1.cell C12.out.1; have e2 := hw1.cell C12.out.2; go_simp; first | exact hK _ (za.refl _) | (go_at_call 31; ((with_reducible refine (CS.out _ hw1).mono ?_); rintro e w' ⟨rfl, hg⟩; exact ⟨_, rfl, hK _ hg⟩)))) | apply zz rfl rfl rfl rfl); intro K hK; go_simp; apply hK; clear hK K)
     refine zo ?_; intro w1 hw1 hF; apply hQ0; clear hQ0; simp only [List.drop_succ_cons, List.drop_zero]; clear hF
     by_cases hw : E = 0
     ·have dw : (E != 0) = false := by simpa using hw
      go_wp2; go_roundw
      case rel => exact ⟨k + 1, by omega, by go_num, by have := Inv2.out; rw [if_neg uN_] at this; exact this, hg.trans hw1⟩
      case measure => exact wa_
     ·have dw : (E != 0) = true := by simpa using hw
      go_wp2; go_ret; exact zk oA_ (hg.trans hw1)
    case hp' => trivial
   ·exact wY_
 ·have dl : ((ts.length : Int) != (ds.length : Int)) = true := by simp; omega
  have e : R = 8 := by rw [<- HR.out]; unfold jg; rw [if_pos uC_]
  go_wp2; go_ret; exact zk e.symm (za.refl _)
/-! Play -/
def TU (w w' : World) (en : Ending) (C : List Int) (r : List Z × Int) : Prop := ∃ (v : Value) (B : Option Addr) (ys : List I) (cap : Nat), en = .returned (.tuple #[v, .slice B ys.length cap, .int .i64 r.2]) /\ (r.2 = 0 -> ∃ (B2 : Option Addr) (n2 : Nat), v = .slice B2 C.length n2 /\ yD w' B2 C) /\ xc w' B ys /\ ys.map zg = r.1 /\ zX B ys.length cap /\ za w w'
def ZK (ts : List (L2 Int)) (At : Option Addr) (nt : Nat) (ds : List S) (Ad : Option Addr) (nd : Nat) (p : PL) : Prop := ∀ (w : World), PX w p -> NH w At ts -> TN w Ad ds nd -> (yn (zn ts) p).2 = 0 ->
 Calls Tryz.prog 16 #[.slice At ts.length nt, p.val, .slice Ad ds.length nd] w fun en w' => TU w w' en (yn (zn ts) p).1 (yH (zn ts) (ds.map S.z) p)
theorem Vd (ts : List (List Int)) (data : List (List Z)) {k n : Int} (x : E) (xs : km) (ag : kf) (A : Option Addr) (cap : Nat) (kid : Nat -> PL) (hk : k ≠ 1) : yH ts data (.mk k n x xs ag A 1 cap kid) = if (yH ts data (kid 0)).2 ≠ 0 then ([], (yH ts data (kid 0)).2) else XA k n x xs.l ag.l [(yn ts (kid 0)).1] [(yH ts data (kid 0)).1] := by
 conv => lhs; unfold yH
 rw [if_neg hk]
 by_cases h : (yH ts data (kid 0)).2 = 0
 ·simp [qN, h, List.range_succ]
 ·simp [qN, h]
theorem Ve (ts : List (List Int)) (data : List (List Z)) {k n : Int} (x : E) (xs : km) (ag : kf) (A : Option Addr) (cap : Nat) (kid : Nat -> PL) (hk : k ≠ 1) : yH ts data (.mk k n x xs ag A 2 cap kid) = if (yH ts data (kid 0)).2 ≠ 0 then ([], (yH ts data (kid 0)).2) else if (yH ts data (kid 1)).2 ≠ 0 then ([], (yH ts data (kid 1)).2) else XA k n x xs.l ag.l [(yn ts (kid 0)).1, (yn ts (kid 1)).1] [(yH ts data (kid 0)).1, (yH ts data (kid 1)).1] := by
 conv => lhs; unfold yH
 rw [if_neg hk]
 by_cases h : (yH ts data (kid 0)).2 = 0
 ·by_cases h2 : (yH ts data (kid 1)).2 = 0
  ·simp [qN, h, h2, List.range_succ]
  ·simp [qN, h, h2]
 ·simp [qN, h]
theorem Nd (ts : List (L2 Int)) (At : Option Addr) (nt : Nat) (ds : List S) (Ad : Option Addr) (nd : Nat) (hlt : ts.length <= zm) (hl : ∀ t ∈ ts, t.xs.length <= zm) (hd : ds.length = ts.length) (hok : kg (ds.map S.z)) (n : Int) (x : E) (xs : km) (ag : kf) (A : Option Addr) (mm cap : Nat) (kid : Nat -> PL) : ZK ts At nt ds Ad nd (.mk 1 n x xs ag A mm cap kid) := by
 intro w hP hts hds h0; have HP := hh_ hP; have Hts := hh_ hts; have Hds := hh_ hds; have H0 := hh_ h0; have HL := hh_ (And.intro hlt hl); obtain ⟨C, hC⟩ : ∃ C, (yn (zn ts) (.mk 1 n x xs ag A mm cap kid)).1 = C := ⟨_, rfl⟩
 have ct := fun W (h : za w W) => jj ts At nt (.mk 1 n x xs ag A mm cap kid) W hlt hl (hts.grow h) (hP.grow h)
 rw [show yn (zn ts) (.mk 1 n x xs ag A mm cap kid) = (C, 0) from Prod.ext hC h0] at ct; rw [hC]; unfold ZH at ct; unfold PL.val at ct; simp only [PL.k, PL.n, PL.x, PL.xs, PL.ag, PL.A, PL.m, PL.cap] at ct; have CT := hh_ ct; clear ct
 have hn : 0 <= n /\ n.toNat < ts.length := xH_
 obtain ⟨nn, rfl⟩ : ∃ nn : Nat, n = (nn : Int) := ⟨n.toNat, by omega⟩
 have hlt : nn < ds.length := by have := hn.2; simp at this; omega
 obtain ⟨s, hsk⟩ : ∃ s, ds[nn]? = some s := ⟨_, qQ_ hlt⟩
 obtain ⟨g, o, rfl, c1, hz⟩ := hds.s nn s hsk; have hdl := hds.len; have sm := SM.of (hok s.z (qZ9 (qZ_ hsk)))
 have eR : yH (zn ts) (ds.map S.z) (.mk 1 (nn : Int) x xs ag A mm cap kid) = yZ (s.xs.map zg) := yB_
 rw [eR]; have hl := sm.len; have hlx : s.xs.length <= 400 := by simpa [S.z] using hl
 have cs := fun W (h : za w W) => VC s.xs s.A s.cap W u4_ (hz.grow h) (fun y hy => by have := (sm.ok (zg y) (qZ9 hy)).1; simp only [zg] at this; omega) (fun y hy => (sm.ok (zg y) (qZ9 hy)).2) (fun y hy => by have := sm.bd (zg y) (qZ9 hy); simp only [zg] at this; omega)
 have CS := hh_ cs; have C1 := hh_ c1; unfold PL.val; simp only [PL.k, PL.n, PL.x, PL.xs, PL.ag, PL.A, PL.m, PL.cap]; have k1 : (0 : Int) <= (nn : Int) := by omega
 have k2 : (nn : Int) < (ds.length : Int) := by omega
 clear eR hl hlx cs sm hz hsk hn h0 hP hts hds hok hd hC c1; go_enter Tryz.func16, Tryz.ntmps16; go_upto_region 1 with fail
 refine zb (fun X => zc X w.heap.size 31 #[.int .i64 1, .int .i64 (nn : Int), .int .i64 x.kind, .int .i64 x.v.k, .int .i64 x.v.n, .string x.v.s, .int .i64 x.col, .slice x.A x.n x.cap, .slice xs.A xs.l.length xs.c, .slice ag.A ag.l.length ag.c, .slice A mm cap] /\ za w X) ⟨zc.new _ _ _, (za.refl w).al _⟩ ?_; rintro X ⟨BX0, G⟩; have BX := hh_ BX0; obtain ⟨bx, fx⟩ := BX0.rules; have lx := BX0.lt; clear BX0; generalize w.heap.size = gx at *; go_upto_region 2 with (go_at_call 5; ((refine (CT.out _ G).mono ?_); rintro en w3 ⟨B3, n3, rfl, hi3, hg3⟩)); have I3 := hh_ hi3; have G3 := G.trans hg3; clear hi3 bx fx lx; obtain ⟨bx, fx⟩ := (BX.out.grow hg3).rules; have lx := (BX.out.grow hg3).lt; have c1 := G3.cell C1.out
 go_wp2_with (go_at_call 32; ((with_reducible refine (CS.out _ G3).mono ?_); rintro en w4 ⟨B, ys, cap9, rfl, hz4, hm4, hk4, hg4⟩; have Out := hh_ (And.intro hz4 (And.intro hm4 hk4)); clear hz4 hm4 hk4))
 refine qX_ ve_ rfl ?_; exact ⟨_, B, ys, cap9, rfl, fun _ => ⟨B3, n3, rfl, I3.out.grow hg4⟩, Out.out.1, Out.out.2.1, Out.out.2.2, G3.trans hg4⟩
theorem Td (ts : List (L2 Int)) (At : Option Addr) (nt : Nat) (ds : List S) (Ad : Option Addr) (nd : Nat) (hlt : ts.length <= zm) (hl : ∀ t ∈ ts, t.xs.length <= zm) (hok : kg (ds.map S.z)) (k n : Int) (x : E) (xs : km) (ag : kf) (A : Option Addr) (cap : Nat) (kid : Nat -> PL) (ih : ∀ i, ZK ts At nt ds Ad nd (kid i)) (hk1 : k ≠ 1) (hk : k = 2 \/ k = 3 \/ k = 10 \/ k = 11 \/ k = 12 \/ k = 13) : ZK ts At nt ds Ad nd (.mk k n x xs ag A 1 cap kid) := by
 intro w hP hts hds h0; have HP := hh_ hP; have Hts := hh_ hts; have Hds := hh_ hds; have H0 := hh_ h0; have HL := hh_ (And.intro hlt hl); obtain ⟨C, hC⟩ : ∃ C, (yn (zn ts) (.mk k n x xs ag A 1 cap kid)).1 = C := ⟨_, rfl⟩
 have ct := fun W (h : za w W) => jj ts At nt (.mk k n x xs ag A 1 cap kid) W hlt hl (hts.grow h) (hP.grow h)
 rw [show yn (zn ts) (.mk k n x xs ag A 1 cap kid) = (C, 0) from Prod.ext hC h0] at ct; rw [hC]; unfold ZH at ct; unfold PL.val at ct; simp only [PL.k, PL.n, PL.x, PL.xs, PL.ag, PL.A, PL.m, PL.cap] at ct; have CT := hh_ ct; clear ct
 obtain ⟨gk, ok, hA, hck0, hEk0⟩ : ∃ gk ok, A = some ⟨gk, ok, none⟩ /\ yM w gk (ok + 0 * 11) (kid 0) /\ PX w (kid 0) := xQ_
 subst hA; have h0k0 := kE H0.out (i := 0) u3_; obtain ⟨a0, e0, hF0⟩ : ∃ a e, yH (zn ts) (ds.map S.z) (kid 0) = (a, e) := ⟨_, _, rfl⟩
 obtain ⟨C0, hC0⟩ : ∃ C, (yn (zn ts) (kid 0)).1 = C := ⟨_, rfl⟩
 have hl0 : C0.length <= 8 := by rw [<- hC0]; exact jQ (zn ts) (kid 0)
 have hsm0 : e0 = 0 -> LJ a0 := fun h => by
  subst h; exact kS (jU hok (kid 0) (qz h0k0) hF0)
 have ci0 := fun W (h : za w W) => ih 0 W (hEk0.grow h) (hts.grow h) (hds.grow h) h0k0
 unfold TU at ci0; rw [hF0, hC0] at ci0; simp only at ci0; unfold PL.val at ci0; have CI0 := hh_ ci0; have HSM0 := hh_ hsm0; have HCK0 := hh_ hck0; obtain ⟨R, hR⟩ : ∃ R, yH (zn ts) (ds.map S.z) (.mk k n x xs ag (some ⟨gk, ok, none⟩) 1 cap kid) = R := ⟨_, rfl⟩
 rw [hR]; have fin : R = if e0 ≠ 0 then ([], e0) else XA k n x xs.l ag.l [C0] [a0] := by rw [<- hR, Vd _ _ _ _ _ _ _ _ hk1, hF0, hC0]
 have Fin0 := hh_ fin; have HK := hh_ hk; have dk : (k == 1) = false := by simpa using hk1
 unfold PL.val; simp only [PL.k, PL.n, PL.x, PL.xs, PL.ag, PL.A, PL.m, PL.cap]; clear fin hR hk1 hk ci0 hsm0 hck0 hF0 hC0 h0k0 h0 hP hts hds hok hC ih; go_enter Tryz.func16, Tryz.ntmps16; go_upto_region 1 with fail
 refine zb (fun X => zc X w.heap.size 31 #[.int .i64 k, .int .i64 n, .int .i64 x.kind, .int .i64 x.v.k, .int .i64 x.v.n, .string x.v.s, .int .i64 x.col, .slice x.A x.n x.cap, .slice xs.A xs.l.length xs.c, .slice ag.A ag.l.length ag.c, .slice (some ⟨gk, ok, none⟩) 1 cap] /\ za w X) ⟨zc.new _ _ _, (za.refl w).al _⟩ ?_; rintro X ⟨BX0, G⟩; have BX := hh_ BX0; obtain ⟨bx, fx⟩ := BX0.rules; have lx := BX0.lt; clear BX0; generalize w.heap.size = gx at *; go_upto_region 2 with (go_at_call 5; ((refine (CT.out _ G).mono ?_); rintro en w3 ⟨B3, n3, rfl, hi3, hg3⟩)); have I3 := hh_ hi3; have G3 := G.trans hg3; clear hi3 bx fx lx; obtain ⟨bx, fx⟩ := (BX.out.grow hg3).rules; have lx := (BX.out.grow hg3).lt; obtain ⟨k0, k1, k2, k3, k4, k5, k6, k7, k8, k9, k10⟩ := HCK0.out.grow G3; simp only [Nat.zero_mul, Nat.one_mul, Nat.add_zero] at k0 k1 k2 k3 k4 k5 k6 k7 k8 k9 k10
 by_cases h1 : e0 = 0
 ·subst h1; go_upto_region 8 with (go_at_call 16; ((with_reducible refine (CI0.out _ G3).mono ?_); rintro en w4 ⟨v4, B4, ys4, cap4, rfl, hv4, hz4, hm4, hk4, hg4⟩)); obtain ⟨BK, nk, rfl, hik⟩ := hv4 trivial; have hin : In w4 ⟨B4, ys4, cap4⟩ := In.sml hz4 hk4 uc_; have G4 := G3.trans hg4; have fin : R = XA k n x xs.l ag.l [C0] [ys4.map zg] := by rw [Fin0.out, hm4]; simp
  have co := S5 k n x xs ag (some ⟨gk, ok, none⟩) 1 cap kid ⟨BK, C0, nk⟩ ⟨none, [], 0⟩ ⟨B4, ys4, cap4⟩ ⟨none, [], 0⟩ w4 HK.out (HP.out.grow G4) uD_ hik hin; rw [show XA k n x xs.l ag.l [(⟨BK, C0, nk⟩ : L2 Int).xs] [(⟨B4, ys4, cap4⟩ : S).z] = R from fin.symm] at co; unfold z0 at co; unfold PL.val at co; simp only [vL, sL, PL.k, PL.n, PL.x, PL.xs, PL.ag, PL.A, PL.m, PL.cap, List.length_nil] at co; have CO := hh_ co; clear co fin hin hik hz4 hm4 hk4 hv4 bx fx lx k0 k1 k2 k3 k4 k5 k6 k7 k8 k9 k10; obtain ⟨bx, fx⟩ := (BX.out.grow (hg3.trans hg4)).rules; have lx := (BX.out.grow (hg3.trans hg4)).lt
  go_wp2_with (go_at_call 33; ((with_reducible refine CO.out.mono ?_); rintro en w9 ⟨B, ys, cap9, rfl, hz9, hm9, hk9, hg9⟩; have Out := hh_ (And.intro hz9 (And.intro hm9 hk9)); clear hz9 hm9 hk9))
  refine qX_ ve_ rfl ?_; exact ⟨_, B, ys, cap9, rfl, fun _ => ⟨B3, n3, rfl, I3.out.grow (hg4.trans hg9)⟩, Out.out.1, Out.out.2.1, Out.out.2.2, G4.trans hg9⟩
 ·exact wA_
theorem Te (ts : List (L2 Int)) (At : Option Addr) (nt : Nat) (ds : List S) (Ad : Option Addr) (nd : Nat) (hlt : ts.length <= zm) (hl : ∀ t ∈ ts, t.xs.length <= zm) (hok : kg (ds.map S.z)) (k n : Int) (x : E) (xs : km) (ag : kf) (A : Option Addr) (cap : Nat) (kid : Nat -> PL) (ih : ∀ i, ZK ts At nt ds Ad nd (kid i)) (hk1 : k ≠ 1) (hk : k = 4 \/ k = 5 \/ k = 6 \/ k = 7 \/ k = 8 \/ k = 9) : ZK ts At nt ds Ad nd (.mk k n x xs ag A 2 cap kid) := by
 intro w hP hts hds h0; have HP := hh_ hP; have Hts := hh_ hts; have Hds := hh_ hds; have H0 := hh_ h0; have HL := hh_ (And.intro hlt hl); obtain ⟨C, hC⟩ : ∃ C, (yn (zn ts) (.mk k n x xs ag A 2 cap kid)).1 = C := ⟨_, rfl⟩
 have ct := fun W (h : za w W) => jj ts At nt (.mk k n x xs ag A 2 cap kid) W hlt hl (hts.grow h) (hP.grow h)
 rw [show yn (zn ts) (.mk k n x xs ag A 2 cap kid) = (C, 0) from Prod.ext hC h0] at ct; rw [hC]; unfold ZH at ct; unfold PL.val at ct; simp only [PL.k, PL.n, PL.x, PL.xs, PL.ag, PL.A, PL.m, PL.cap] at ct; have CT := hh_ ct; clear ct
 obtain ⟨gk, ok, hA, hck0, hEk0⟩ : ∃ gk ok, A = some ⟨gk, ok, none⟩ /\ yM w gk (ok + 0 * 11) (kid 0) /\ PX w (kid 0) := xQ_
 subst hA
 have hE1 : yM w gk (ok + 1 * 11) (kid 1) /\ PX w (kid 1) := by
  cases HP.out with
  | mk hm' hc hk =>
   obtain ⟨gk', ok', h1, h2⟩ := hc 1 u3_; cases h1; exact ⟨h2, hk 1 u3_⟩
 obtain ⟨hck1, hEk1⟩ := hE1; have h0k0 := kE H0.out (i := 0) u3_; obtain ⟨a0, e0, hF0⟩ : ∃ a e, yH (zn ts) (ds.map S.z) (kid 0) = (a, e) := ⟨_, _, rfl⟩
 obtain ⟨C0, hC0⟩ : ∃ C, (yn (zn ts) (kid 0)).1 = C := ⟨_, rfl⟩
 have hl0 : C0.length <= 8 := by rw [<- hC0]; exact jQ (zn ts) (kid 0)
 have hsm0 : e0 = 0 -> LJ a0 := fun h => by
  subst h; exact kS (jU hok (kid 0) (qz h0k0) hF0)
 have ci0 := fun W (h : za w W) => ih 0 W (hEk0.grow h) (hts.grow h) (hds.grow h) h0k0
 unfold TU at ci0; rw [hF0, hC0] at ci0; simp only at ci0; unfold PL.val at ci0; have CI0 := hh_ ci0; have HSM0 := hh_ hsm0; have HCK0 := hh_ hck0; have h0k1 := kE H0.out (i := 1) u3_; obtain ⟨a1, e1, hF1⟩ : ∃ a e, yH (zn ts) (ds.map S.z) (kid 1) = (a, e) := ⟨_, _, rfl⟩
 obtain ⟨C1, hC1⟩ : ∃ C, (yn (zn ts) (kid 1)).1 = C := ⟨_, rfl⟩
 have hl1 : C1.length <= 8 := by rw [<- hC1]; exact jQ (zn ts) (kid 1)
 have hsm1 : e1 = 0 -> LJ a1 := fun h => by
  subst h; exact kS (jU hok (kid 1) (qz h0k1) hF1)
 have ci1 := fun W (h : za w W) => ih 1 W (hEk1.grow h) (hts.grow h) (hds.grow h) h0k1
 unfold TU at ci1; rw [hF1, hC1] at ci1; simp only at ci1; unfold PL.val at ci1; have CI1 := hh_ ci1; have HSM1 := hh_ hsm1; have HCK1 := hh_ hck1; obtain ⟨R, hR⟩ : ∃ R, yH (zn ts) (ds.map S.z) (.mk k n x xs ag (some ⟨gk, ok, none⟩) 2 cap kid) = R := ⟨_, rfl⟩
 rw [hR]; have fin : R = if e0 ≠ 0 then ([], e0) else if e1 ≠ 0 then ([], e1) else XA k n x xs.l ag.l [C0, C1] [a0, a1] := by rw [<- hR, Ve _ _ _ _ _ _ _ _ hk1, hF0, hC0, hF1, hC1]
 have Fin0 := hh_ fin; have HK := hh_ hk; have dk : (k == 1) = false := by simpa using hk1
 unfold PL.val; simp only [PL.k, PL.n, PL.x, PL.xs, PL.ag, PL.A, PL.m, PL.cap]; clear fin hR hk1 hk ci0 hsm0 hck0 hF0 hC0 h0k0 ci1 hsm1 hck1 hF1 hC1 h0k1 h0 hP hts hds hok hC ih; go_enter Tryz.func16, Tryz.ntmps16; go_upto_region 1 with fail
 refine zb (fun X => zc X w.heap.size 31 #[.int .i64 k, .int .i64 n, .int .i64 x.kind, .int .i64 x.v.k, .int .i64 x.v.n, .string x.v.s, .int .i64 x.col, .slice x.A x.n x.cap, .slice xs.A xs.l.length xs.c, .slice ag.A ag.l.length ag.c, .slice (some ⟨gk, ok, none⟩) 2 cap] /\ za w X) ⟨zc.new _ _ _, (za.refl w).al _⟩ ?_; rintro X ⟨BX0, G⟩; have BX := hh_ BX0; obtain ⟨bx, fx⟩ := BX0.rules; have lx := BX0.lt; clear BX0; generalize w.heap.size = gx at *; go_upto_region 2 with (go_at_call 5; ((refine (CT.out _ G).mono ?_); rintro en w3 ⟨B3, n3, rfl, hi3, hg3⟩)); have I3 := hh_ hi3; have G3 := G.trans hg3; clear hi3 bx fx lx; obtain ⟨bx, fx⟩ := (BX.out.grow hg3).rules; have lx := (BX.out.grow hg3).lt; obtain ⟨k0, k1, k2, k3, k4, k5, k6, k7, k8, k9, k10⟩ := HCK0.out.grow G3; simp only [Nat.zero_mul, Nat.one_mul, Nat.add_zero] at k0 k1 k2 k3 k4 k5 k6 k7 k8 k9 k10
 by_cases h1 : e0 = 0
 ·subst h1; go_upto_region 8 with (go_at_call 16; ((with_reducible refine (CI0.out _ G3).mono ?_); rintro en w4 ⟨v4, B4, ys4, cap4, rfl, hv4, hz4, hm4, hk4, hg4⟩)); obtain ⟨BK, nk, rfl, hik⟩ := hv4 trivial; have hin : In w4 ⟨B4, ys4, cap4⟩ := In.sml hz4 hk4 uc_; have G4 := G3.trans hg4; have O4 := hh_ (And.intro hin (And.intro hik hm4)); clear hin hik hz4 hm4 hk4 hv4 bx fx lx k0 k1 k2 k3 k4 k5 k6 k7 k8 k9 k10; obtain ⟨bx, fx⟩ := (BX.out.grow (hg3.trans hg4)).rules; have lx := (BX.out.grow (hg3.trans hg4)).lt; obtain ⟨k0, k1, k2, k3, k4, k5, k6, k7, k8, k9, k10⟩ := HCK1.out.grow G4; simp only [Nat.zero_mul, Nat.one_mul, Nat.add_zero] at k0 k1 k2 k3 k4 k5 k6 k7 k8 k9 k10
  by_cases h2 : e1 = 0
  ·subst h2; go_upto_region 14 with (go_at_call 16; ((with_reducible refine (CI1.out _ G4).mono ?_); rintro en w5 ⟨v5, B5, ys5, cap5, rfl, hv5, hz5, hm5, hk5, hg5⟩)); obtain ⟨BL, nl, rfl, hil⟩ := hv5 trivial; have hin : In w5 ⟨B5, ys5, cap5⟩ := In.sml hz5 hk5 (by rw [hm5]; exact HSM1.out trivial); have G5 := G4.trans hg5; have fin : R = XA k n x xs.l ag.l [C0, C1] [ys4.map zg, ys5.map zg] := by rw [Fin0.out, O4.out.2.2, hm5]; simp
   have co := S9 k n x xs ag (some ⟨gk, ok, none⟩) 2 cap kid ⟨BK, C0, nk⟩ ⟨BL, C1, nl⟩ ⟨B4, ys4, cap4⟩ ⟨B5, ys5, cap5⟩ w5 HK.out (HP.out.grow G5) uD_ (O4.out.2.1.grow hg5) (O4.out.1.grow hg5) uD_ hil hin; rw [show XA k n x xs.l ag.l [(⟨BK, C0, nk⟩ : L2 Int).xs, (⟨BL, C1, nl⟩ : L2 Int).xs] [(⟨B4, ys4, cap4⟩ : S).z, (⟨B5, ys5, cap5⟩ : S).z] = R from fin.symm] at co; unfold z0 at co; unfold PL.val at co; simp only [PL.k, PL.n, PL.x, PL.xs, PL.ag, PL.A, PL.m, PL.cap] at co; have CO := hh_ co; clear co fin hin hil hz5 hm5 hk5 hv5 bx fx lx k0 k1 k2 k3 k4 k5 k6 k7 k8 k9 k10; obtain ⟨bx, fx⟩ := (BX.out.grow (hg3.trans (hg4.trans hg5))).rules; have lx := (BX.out.grow (hg3.trans (hg4.trans hg5))).lt
   go_wp2_with (go_at_call 33; ((with_reducible refine CO.out.mono ?_); rintro en w9 ⟨B, ys, cap9, rfl, hz9, hm9, hk9, hg9⟩; have Out := hh_ (And.intro hz9 (And.intro hm9 hk9)); clear hz9 hm9 hk9))
   refine qX_ ve_ rfl ?_; exact ⟨_, B, ys, cap9, rfl, fun _ => ⟨B3, n3, rfl, I3.out.grow (hg4.trans (hg5.trans hg9))⟩, Out.out.1, Out.out.2.1, Out.out.2.2, G5.trans hg9⟩
  ·have d2 : (e1 != 0) = true := by simpa using h2
   have fin : R = ([], e1) := by rw [Fin0.out, if_neg u5_, if_pos h2]
   have Fin := hh_ fin; clear fin
   go_wp2_with (go_at_call 16; ((with_reducible refine (CI1.out _ G4).mono ?_); rintro en w5 ⟨v5, B5, ys5, cap5, rfl, hv5, hz5, hm5, hk5, hg5⟩; clear hz5 hm5 hk5 hv5))
   refine qX_ ve_ rfl ?_; exact ⟨_, none, [], 0, by rw [Fin.out]; rfl, fun h => absurd un_ h2, zy _ _, by rw [Fin.out]; rfl, zX.nil, G4.trans hg5⟩
 ·exact wA_
theorem Pu (ts : List (L2 Int)) (At : Option Addr) (nt : Nat) (ds : List S) (Ad : Option Addr) (nd : Nat) (hlt : ts.length <= zm) (hl : ∀ t ∈ ts, t.xs.length <= zm) (hd : ds.length = ts.length) (hok : kg (ds.map S.z)) (p : PL) : ZK ts At nt ds Ad nd p := by
 induction p with
 | leaf => intro w hP hts hds h0; exact absurd rfl (qz h0)
 | mk k n x xs ag A mm cap kid ih =>
  by_cases hk : k = 1
  ·subst hk; exact Nd ts At nt ds Ad nd hlt hl hd hok n x xs ag A mm cap kid
  ·intro w hP hts hds h0; have nodeE := Xd h0; rcases (Ki nodeE.1 nodeE.2.1 hk).2 with ⟨h1, h2, _⟩ | ⟨h1, h2, _⟩
   ·subst h2; exact Td ts At nt ds Ad nd hlt hl hok k n x xs ag A cap kid ih hk h1 w hP hts hds h0
   ·subst h2; exact Te ts At nt ds Ad nd hlt hl hok k n x xs ag A cap kid ih hk h1 w hP hts hds h0
theorem Pt (ts : List (L2 Int)) (At : Option Addr) (nt : Nat) (p : PL) (ds : List S) (Ad : Option Addr) (nd : Nat) (w : World) (hlt : ts.length <= zm) (hl : ∀ t ∈ ts, t.xs.length <= zm) (hts : NH w At ts) (hp : PX w p) (hds : TN w Ad ds nd) :
  Calls Tryz.prog 8 #[.slice At ts.length nt, p.val, .slice Ad ds.length nd] w fun en w' => z0 w w' en (Xv (zn ts) p (ds.map S.z)) := by
 have Hts := hh_ hts; have HP := hh_ hp; have Hds := hh_ hds; have HL := hh_ (And.intro hlt hl); obtain ⟨CE, hCE⟩ : ∃ CE, yn (zn ts) p = CE := ⟨_, rfl⟩
 obtain ⟨DE, hDE⟩ : ∃ DE, jg (zn ts) (ds.map S.z) = DE := ⟨_, rfl⟩
 obtain ⟨R, hR⟩ : ∃ R, Xv (zn ts) p (ds.map S.z) = R := ⟨_, rfl⟩
 obtain ⟨PZ, hPZ⟩ : ∃ PZ, yH (zn ts) (ds.map S.z) p = PZ := ⟨_, rfl⟩
 have cc := fun W (h : za w W) => jj ts At nt p W hlt hl (hts.grow h) (hp.grow h)
 have cd := fun W (h : za w W) => SV ts At nt ds Ad nd W hlt hl (hts.grow h) (hds.grow h)
 have cp := fun (h1 : CE.2 = 0) (h2 : DE = 0) W (h : za w W) => Pu ts At nt ds Ad nd hlt hl (by
  rw [h2] at hDE; unfold jg at hDE; split at hDE
  ·simp at hDE
  ·rename_i h3; simpa using h3) (Lb (by rw [hDE, h2])) p W (hp.grow h) (hts.grow h) (hds.grow h) (by rw [hCE, h1])
 rw [hR]; have hnil := Kg (zn ts) (ds.map S.z) p; rw [hPZ] at hnil; have fin : R = if CE.2 ≠ 0 then ([], CE.2) else if DE ≠ 0 then ([], DE) else PZ := by rw [<- hR, <- hPZ]; unfold Xv; rw [hCE, hDE]
 have Fin := hh_ fin; have HN := hh_ hnil; rw [hCE] at cc; simp only [hDE] at cd; unfold ZH at cc; unfold TU at cp; rw [hPZ] at cp; unfold PL.val at cc cp ⊢; have CC := hh_ cc; have CD := hh_ cd; have CP := hh_ cp; clear hts hp hds hlt hl hCE hDE hR hPZ cc cd cp fin hnil; go_enter Tryz.func8, Tryz.ntmps8; go_upto_region 1 with fail
 refine zb (fun X => zc X w.heap.size 31 (pC p) /\ za w X) ⟨zc.new _ _ _, (za.refl w).al _⟩ ?_; rintro X ⟨BX0, G⟩; have BX := hh_ BX0; obtain ⟨bx, fx⟩ := BX0.rules; have lx := BX0.lt; clear BX0; generalize w.heap.size = gx at *; go_upto_region 2 with (go_at_call 5; ((refine (CC.out _ G).mono ?_); rintro en w3 ⟨B3, n3, rfl, hi3, hg3⟩)); clear hi3 bx fx lx
 by_cases h1 : CE.2 = 0
 ·have d1 : (CE.2 != 0) = false := by simp [h1]
  have H1 := hh_ h1; clear h1; go_upto_region 5 with (go_at_call 15; ((refine (CD.out _ (G.trans hg3)).mono ?_); rintro en w4 ⟨rfl, hg4⟩))
  by_cases h2 : DE = 0
  ·have d2 : (DE != 0) = false := by simp [h2]
   have fin2 : R = PZ := by rw [Fin.out, if_neg uU_, if_neg u1_]
   have cp := CP.out H1.out h2 w4 (G.trans (hg3.trans hg4)); rw [<- fin2] at cp; have CP2 := hh_ cp; have HN2 := hh_ (fin2 ▸ HN.out); obtain ⟨bx, fx⟩ := (BX.out.grow (hg3.trans hg4)).rules; have lx := (BX.out.grow (hg3.trans hg4)).lt; clear fin2 cp h2
   by_cases h3 : R.2 = 0
   ·have d3 : (R.2 != 0) = false := by simp [h3]
    have H3 := hh_ h3; clear h3
    go_wp2_with (go_at_call 16; ((with_reducible refine CP2.out.mono ?_); rintro en w5 ⟨v5, B, ys, cap9, rfl, hv5, hz4, hm4, hk4, hg5⟩; have Out := hh_ (And.intro hz4 (And.intro hm4 hk4)); clear hz4 hm4 hk4 hv5))
    refine qX_ vk_ rfl ?_; exact ⟨B, ys, cap9, by rw [H3.out], Out.out.1, Out.out.2.1, Out.out.2.2, G.trans (hg3.trans (hg4.trans hg5))⟩
   ·have d3 : (R.2 != 0) = true := by simpa using h3
    have H3 := hh_ (HN2.out h3); clear h3
    go_wp2_with (go_at_call 16; ((with_reducible refine CP2.out.mono ?_); rintro en w5 ⟨v5, B, ys, cap9, rfl, hv5, hz4, hm4, hk4, hg5⟩; clear hz4 hm4 hk4 hv5))
    refine qX_ vk_ rfl ?_; exact ⟨none, [], 0, rfl, zy _ _, by rw [H3.out]; rfl, zX.nil, G.trans (hg3.trans (hg4.trans hg5))⟩
  ·have d2 : (DE != 0) = true := by simpa using h2
   have fin2 : R = ([], DE) := by rw [Fin.out, if_neg uU_, if_pos h2]
   have Fin2 := hh_ fin2; clear fin2; go_wp2; refine qX_ vk_ rfl ?_; exact ⟨none, [], 0, by rw [Fin2.out]; rfl, zy _ _, by rw [Fin2.out]; rfl, zX.nil, G.trans (hg3.trans hg4)⟩
 ·have d1 : (CE.2 != 0) = true := by simpa using h1
  have fin2 : R = ([], CE.2) := by rw [Fin.out, if_pos h1]
  have Fin2 := hh_ fin2; clear fin2; go_wp2; refine qX_ vk_ rfl ?_; exact ⟨none, [], 0, by rw [Fin2.out]; rfl, zy _ _, by rw [Fin2.out]; rfl, zX.nil, G.trans hg3⟩
