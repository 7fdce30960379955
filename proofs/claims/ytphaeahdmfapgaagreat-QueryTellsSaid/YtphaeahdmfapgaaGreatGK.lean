/- Parts of a proof. No condition. -/
import Derived.Test.YtphaeahdmfapgaaGreatGJ
set_option maxRecDepth 100000
set_option maxHeartbeats 8000000
set_option maxRecDepth 100000
set_option linter.unusedSimpArgs false
set_option linter.unusedVariables false
namespace Go
variable {p : Prop}
theorem oC_ (h : p := by have := (hg.trans (G3.trans hg4)).size; simp; omega) : p := h
theorem oG_ (h : p := by simp [results, Tryz.results107, go_sem] <;> rfl) : p := h
theorem oL_ (h : p := by simp [results, Tryz.results91, go_sem] <;> rfl) : p := h
theorem oM_ (h : p := by simp [results, Tryz.results50, go_sem] <;> rfl) : p := h
theorem oN_ (h : p := by simp [results, Tryz.results49, go_sem] <;> rfl) : p := h
theorem vV_ (h : p := by have := kW xs k; simp at this ⊢; omega) : p := h
theorem uG_ (h : p := by simpa using hm0) : p := h
theorem u6_ (h : p := by
 have dm : (m != 0) = true := by simpa using hm0
 go_wp2_with (first
  | (go_at_call 75; ((with_reducible refine (cb _ G3).mono ?_); rintro e w4 ⟨gi, rfl, hdv4, hge, hg4⟩; have Dv4 := hh_ hdv4; have Own4 := hh_ (zh Own3.out hg4); clear hdv4))
  | (at_builtin; refine zi rfl _ _ rfl w.heap.size _ out.length out rfl (Own4.out.alloc _) _ [I.mk (some ⟨gi, 0, none⟩) (zj x.row) x.row.length m] rfl (qf (xt x.row) (zc.new _ _ _)) uV_ oC_ ?_; intro v7 w7 own7 gr7))
 have G7 : za w w7 := zp ((hg.trans (G3.trans hg4)).al _) gr7 (Own4.out.alloc _); have Own7 := hh_ own7; have Dv7 := hh_ (DV.kept (Dv4.out.grow ((za.refl _).al _)) (Own4.out.alloc _) gr7)
 have Dvs7 : ∀ y ∈ out, ∃ g, y.A = some ⟨g, 0, none⟩ /\ DV w7 g y.row := fun y hy => by
  obtain ⟨g, h1, h2⟩ := Dvs.out y hy; exact ⟨g, h1, DV.kept (h2.grow ((G3.trans hg4).al _)) (Own4.out.alloc _) gr7⟩
 have DVS7 := hh_ Dvs7; clear own7 gr7 Dvs7; go_roundw
 case rel =>
  refine ⟨k + 1, out ++ [I.mk (some ⟨gi, 0, none⟩) (zj x.row) x.row.length m], by omega, by go_num, by simpa using Own7.out, ?_, fun y hy => ?_, by simp; omega, G7⟩
  ·rw [Es.out, Hm.out, if_pos hm0]; simp [zg]
  ·rcases List.mem_append.1 hy with hy | hy
   ·exact DVS7.out y hy
   ·simp at hy; subst hy; exact ⟨gi, rfl, Dv7.out⟩
 case measure => simp [intOf]; omega) : p := h
theorem we_ (h : p := by
 obtain rfl : k = xs.length := by omega
 obtain ⟨B, cap, rfl, hz, hk2⟩ := yR Own.out (fun y hy => by obtain ⟨g, h1, h2⟩ := Dvs.out y hy; rw [h1]; exact h2.vsl); have Out := hh_ (And.intro hz hk2); have hm2 : out.map zg = yz f (xs.map zg) := by rw [Map.out, List.take_length]
 have Hm2 := hh_ hm2; clear hz hk2 hm2; go_wp2; refine qX_ oL_ rfl ?_; exact ⟨B, out, cap, by rw [Fin.out], Out.out.1, by rw [Fin.out]; exact Hm2.out, Out.out.2, hg⟩) : p := h
theorem wj_ (h : p := by
 exact ⟨k + 1, out, by omega, by go_num, Own3.out, by rw [Es.out, Hm.out, if_neg uG_, List.append_nil], fun y hy => by obtain ⟨g, h1, h2⟩ := Dvs.out y hy; exact ⟨g, h1, h2.grow G3⟩, by omega, hg.trans G3⟩) : p := h
theorem wz_ (h : p := by
 have d0 : (E != 0) = true := by simpa using h0
 go_wp2; refine qX_ oL_ rfl ?_; have e : yA f (xs.map zg) = ([], E) := by unfold yA; rw [HE.out, if_pos h0]
 exact ⟨none, [], 0, by rw [e]; rfl, zy _ _, by rw [e]; rfl, zX.nil, G2⟩) : p := h
theorem wF_ (h : p := by
 obtain rfl : k = xs.length := by omega
 have hst := St.out; rw [List.take_length] at hst; obtain ⟨⟨B, ys, cap, rfl, hzy, hm, hky⟩, _, hp⟩ := hst; have Out := hh_ (And.intro hzy (And.intro hm hky)); clear hzy hm hky hp St; go_wp2; refine qX_ oG_ rfl ?_; exact ⟨B, ys, cap, by rw [Fin.out], Out.out.1, by rw [Fin.out]; exact Out.out.2.1, Out.out.2.2, hg⟩) : p := h
theorem wM_ (h : p := by
 have d0 : (E != 0) = true := by simpa using h0
 go_wp2_with (go_at_call 54; ((with_reducible refine (ca _ (za.refl _)).mono ?_); rintro e w2 ⟨rfl, hg2⟩))
 refine qX_ oG_ rfl ?_; have e : yA f (xs.map zg) = ([], E) := by unfold yA; rw [HE.out, if_pos h0]
 exact ⟨none, [], 0, by rw [e]; rfl, zy _ _, by rw [e]; rfl, zX.nil, hg2⟩) : p := h
theorem wO_ (h : p := by
 rename_i h1; exact absurd (Prod.mk.inj h).2 h1) : p := h
theorem wQ_ (h : p := by
 exact ⟨0, [], Nat.zero_le _, rfl, World.ownsRow_nil _ _ _ _, rfl, fun y hy => by simp at hy, Nat.le_refl _, G2⟩) : p := h
theorem xe_ (h : p := by
 rename_i h2; exact absurd (Prod.mk.inj h).2 h2) : p := h
theorem xn_ (h : p := by
 intro w1 hw1 hF K hK; go_simp
 go_at_call 56
 refine (Cp.out w1 (G.trans hw1)).mono ?_; rintro en w' ⟨v, rfl, hst, hg'⟩; exact ⟨_, rfl, hK _ _ hg' hst⟩) : p := h
theorem xK_ (h : p := by
 intro w1 hw1 hF K hK; have h := hF _ (List.mem_cons_self ..) ⟨_, rfl, by decide⟩; go_simp; exact hK _ _ (za.refl _) h) : p := h
theorem yt_ (h : p := by
 exact ⟨fun v w w' hg h => h.more hg, fun v w w' hg h => h.more hg, trivial⟩) : p := h
theorem yx_ (h : p := by
 unfold yA; rw [HE.out, if_neg uI_, MB (fun x hx => (rz.row x hx).2) rz.up]) : p := h
theorem yT_ (h : p := by
 obtain ⟨x, hxk⟩ : ∃ x, xs[k]? = some x := ⟨_, qQ_ hlt⟩
 obtain ⟨gx, ox, rfl, c1, c2, hxv⟩ := (Ha.out.z.grow hg) k x hxk; have hmem := qZ_ hxk; have hlx := A2.out x hmem; have cb := fun W (h : za wr W) => kA x.row x.A x.cap W u4_ (hxv.grow h)
 have cf := fun W => Hf.out x.w W (A4.out x hmem).1 (A4.out x hmem).2
 have es := Xe f hxk; rw [<- Map.out] at es; have Es := hh_ es; obtain ⟨m, hm⟩ : ∃ m, f x.w = m := ⟨_, rfl⟩
 rw [hm] at cf; have Hm := hh_ hm; clear hxk hxv hmem es hm; go_upto_region 8 with fail
 refine zb (fun X => zc X wr.heap.size 59 #[.slice x.A x.row.length x.cap, .int .i64 x.w] /\ za wr X) ⟨zc.new _ _ _, (za.refl wr).al _⟩ ?_; rintro X ⟨Bx, G⟩; obtain ⟨bx, fx⟩ := Bx.rules; go_upto_region 9 with (go_at_call 92; (with_reducible refine (cf _).mono ?_); rintro e w3 ⟨rfl, hg3⟩); have Bx3 := Bx.grow hg3; obtain ⟨bx3, fx3⟩ := Bx3.rules; have G3 := G.trans hg3; have Own3 := hh_ (zh Own.out G3)
 by_cases hm0 : m = 0
 ·have dm : (m != 0) = false := by simpa using hm0
  go_wp2; go_roundw
  case rel => exact wj_
  case measure => exact wa_
 ·exact u6_) : p := h
theorem yY_ (h : p := by
 have dm : (m != 0) = false := by simpa using hm0
 go_wp2; go_roundw
 case rel => exact wj_
 case measure => exact wa_) : p := h
end Go
namespace Go.Proofs.YtphaeahdmfapgaaGreat
open Go.RowKit Go.Calm
theorem Ui (f : Int -> Int) (hf : ∀ n W, -1000000 <= n -> n <= 1000000 -> Calls Tryz.prog 135 #[.int .i64 n] W fun e w' => e = .returned (.int .i64 (f n)) /\ za W w') (A : Option Addr) (xs : List I) (c : Nat) (w : World) (ha : In w ⟨A, xs, c⟩) :
  Calls Tryz.prog 91 #[.slice A xs.length c, .func (.func 135) #[] #[]] w fun en w' => z0 w w' en (yA f (xs.map zg)) := by
 have Ha := hh_ ha; have Hf := hh_ hf; clear ha hf; go_enter Tryz.func91, Tryz.ntmps91; obtain ⟨E, hE⟩ : ∃ E, zD (xs.map zg) = E := ⟨_, rfl⟩
 have cr := fun W (h1 : zc W w.heap.size 38 #[.slice A xs.length c]) (hg : za w W) => Xu ⟨A, xs, c⟩ w.heap.size W _ h1 (Ha.out.grow hg)
 rw [show zD (S.z ⟨A, xs, c⟩) = E from hE] at cr; have HE := hh_ hE; clear hE; go_upto_region 2 with (go_at_call 88; ((with_reducible refine (cr _ (zc.new _ _ _) zd).mono ?_); rintro e w2 ⟨rfl, hg2⟩)); have G2 := ((za.refl w).al _).trans hg2; clear cr
 by_cases h0 : E = 0
 ·have d0 : (E != 0) = false := by simpa using h0
  obtain ⟨a1, a2, a3, a4⟩ := S.facts (s := ⟨A, xs, c⟩) (HE.out.trans h0); have A2 := hh_ a2; have A4 := hh_ a4; have fin : yA f (xs.map zg) = (yz f (xs.map zg), 0) := by unfold yA; rw [HE.out, if_neg uI_]
  have Fin := hh_ fin; clear fin a2 a3 a4; go_wp2
  go_loopw [7, 19] (fun t i wr => ∃ (k : Nat) (out : List I), k <= xs.length /\ i = .int .i64 k /\ wr.ownsRow w.heap.size 59 2 t out.length (zx out) /\ out.map zg = yz f ((xs.take k).map zg) /\ (∀ y ∈ out, ∃ g, y.A = some ⟨g, 0, none⟩ /\ DV wr g y.row) /\ out.length <= k /\ za w wr) (fun _ i _ => xs.length - (intOf i).toNat)
  case atStart => exact wQ_
  case round =>
   obtain ⟨k, out, hk, rfl, hown, hmap, hdv, hol, hg⟩ := hrel; have Own := hh_ hown; have Map := hh_ hmap; have Dvs := hh_ hdv; clear hown hmap hdv
   by_cases hlt : k < xs.length
   ·obtain ⟨x, hxk⟩ : ∃ x, xs[k]? = some x := ⟨_, qQ_ hlt⟩
    obtain ⟨gx, ox, rfl, c1, c2, hxv⟩ := (Ha.out.z.grow hg) k x hxk; have hmem := qZ_ hxk; have hlx := A2.out x hmem; have cb := fun W (h : za wr W) => kA x.row x.A x.cap W u4_ (hxv.grow h)
    have cf := fun W => Hf.out x.w W (A4.out x hmem).1 (A4.out x hmem).2
    have es := Xe f hxk; rw [<- Map.out] at es; have Es := hh_ es; obtain ⟨m, hm⟩ : ∃ m, f x.w = m := ⟨_, rfl⟩
    rw [hm] at cf; have Hm := hh_ hm; clear hxk hxv hmem es hm; go_upto_region 8 with fail
    refine zb (fun X => zc X wr.heap.size 59 #[.slice x.A x.row.length x.cap, .int .i64 x.w] /\ za wr X) ⟨zc.new _ _ _, (za.refl wr).al _⟩ ?_; rintro X ⟨Bx, G⟩; obtain ⟨bx, fx⟩ := Bx.rules; go_upto_region 9 with (go_at_call 135; (with_reducible refine (cf _).mono ?_); rintro e w3 ⟨rfl, hg3⟩); have Bx3 := Bx.grow hg3; obtain ⟨bx3, fx3⟩ := Bx3.rules; have G3 := G.trans hg3; have Own3 := hh_ (zh Own.out G3)
    by_cases hm0 : m = 0
    ·exact yY_
    ·exact u6_
   ·exact we_
 ·exact wz_
theorem Uj (f : Int -> Int) (hf : ∀ n W, -1000000 <= n -> n <= 1000000 -> Calls Tryz.prog 92 #[.int .i64 n] W fun e w' => e = .returned (.int .i64 (f n)) /\ za W w') (A : Option Addr) (xs : List I) (c : Nat) (w : World) (ha : In w ⟨A, xs, c⟩) :
  Calls Tryz.prog 91 #[.slice A xs.length c, .func (.func 92) #[] #[]] w fun en w' => z0 w w' en (yA f (xs.map zg)) := by
 have Ha := hh_ ha; have Hf := hh_ hf; clear ha hf; go_enter Tryz.func91, Tryz.ntmps91; obtain ⟨E, hE⟩ : ∃ E, zD (xs.map zg) = E := ⟨_, rfl⟩
 have cr := fun W (h1 : zc W w.heap.size 38 #[.slice A xs.length c]) (hg : za w W) => Xu ⟨A, xs, c⟩ w.heap.size W _ h1 (Ha.out.grow hg)
 rw [show zD (S.z ⟨A, xs, c⟩) = E from hE] at cr; have HE := hh_ hE; clear hE; go_upto_region 2 with (go_at_call 88; ((with_reducible refine (cr _ (zc.new _ _ _) zd).mono ?_); rintro e w2 ⟨rfl, hg2⟩)); have G2 := ((za.refl w).al _).trans hg2; clear cr
 by_cases h0 : E = 0
 ·have d0 : (E != 0) = false := by simpa using h0
  obtain ⟨a1, a2, a3, a4⟩ := S.facts (s := ⟨A, xs, c⟩) (HE.out.trans h0); have A2 := hh_ a2; have A4 := hh_ a4; have fin : yA f (xs.map zg) = (yz f (xs.map zg), 0) := by unfold yA; rw [HE.out, if_neg uI_]
  have Fin := hh_ fin; clear fin a2 a3 a4; go_wp2
  go_loopw [7, 19] (fun t i wr => ∃ (k : Nat) (out : List I), k <= xs.length /\ i = .int .i64 k /\ wr.ownsRow w.heap.size 59 2 t out.length (zx out) /\ out.map zg = yz f ((xs.take k).map zg) /\ (∀ y ∈ out, ∃ g, y.A = some ⟨g, 0, none⟩ /\ DV wr g y.row) /\ out.length <= k /\ za w wr) (fun _ i _ => xs.length - (intOf i).toNat)
  case atStart => exact wQ_
  case round =>
   obtain ⟨k, out, hk, rfl, hown, hmap, hdv, hol, hg⟩ := hrel; have Own := hh_ hown; have Map := hh_ hmap; have Dvs := hh_ hdv; clear hown hmap hdv
   by_cases hlt : k < xs.length
   ·exact yT_
   ·exact we_
 ·exact wz_
theorem Uh (f : Int -> Int) (hf : ∀ n W, -1000000 <= n -> n <= 1000000 -> Calls Tryz.prog 93 #[.int .i64 n] W fun e w' => e = .returned (.int .i64 (f n)) /\ za W w') (A : Option Addr) (xs : List I) (c : Nat) (w : World) (ha : In w ⟨A, xs, c⟩) :
  Calls Tryz.prog 91 #[.slice A xs.length c, .func (.func 93) #[] #[]] w fun en w' => z0 w w' en (yA f (xs.map zg)) := by
 have Ha := hh_ ha; have Hf := hh_ hf; clear ha hf; go_enter Tryz.func91, Tryz.ntmps91; obtain ⟨E, hE⟩ : ∃ E, zD (xs.map zg) = E := ⟨_, rfl⟩
 have cr := fun W (h1 : zc W w.heap.size 38 #[.slice A xs.length c]) (hg : za w W) => Xu ⟨A, xs, c⟩ w.heap.size W _ h1 (Ha.out.grow hg)
 rw [show zD (S.z ⟨A, xs, c⟩) = E from hE] at cr; have HE := hh_ hE; clear hE; go_upto_region 2 with (go_at_call 88; ((with_reducible refine (cr _ (zc.new _ _ _) zd).mono ?_); rintro e w2 ⟨rfl, hg2⟩)); have G2 := ((za.refl w).al _).trans hg2; clear cr
 by_cases h0 : E = 0
 ·have d0 : (E != 0) = false := by simpa using h0
  obtain ⟨a1, a2, a3, a4⟩ := S.facts (s := ⟨A, xs, c⟩) (HE.out.trans h0); have A2 := hh_ a2; have A4 := hh_ a4; have fin : yA f (xs.map zg) = (yz f (xs.map zg), 0) := by unfold yA; rw [HE.out, if_neg uI_]
  have Fin := hh_ fin; clear fin a2 a3 a4; go_wp2
  go_loopw [7, 19] (fun t i wr => ∃ (k : Nat) (out : List I), k <= xs.length /\ i = .int .i64 k /\ wr.ownsRow w.heap.size 59 2 t out.length (zx out) /\ out.map zg = yz f ((xs.take k).map zg) /\ (∀ y ∈ out, ∃ g, y.A = some ⟨g, 0, none⟩ /\ DV wr g y.row) /\ out.length <= k /\ za w wr) (fun _ i _ => xs.length - (intOf i).toNat)
  case atStart => exact wQ_
  case round =>
   obtain ⟨k, out, hk, rfl, hown, hmap, hdv, hol, hg⟩ := hrel; have Own := hh_ hown; have Map := hh_ hmap; have Dvs := hh_ hdv; clear hown hmap hdv
   by_cases hlt : k < xs.length
   ·obtain ⟨x, hxk⟩ : ∃ x, xs[k]? = some x := ⟨_, qQ_ hlt⟩
    obtain ⟨gx, ox, rfl, c1, c2, hxv⟩ := (Ha.out.z.grow hg) k x hxk; have hmem := qZ_ hxk; have hlx := A2.out x hmem; have cb := fun W (h : za wr W) => kA x.row x.A x.cap W u4_ (hxv.grow h)
    have cf := fun W => Hf.out x.w W (A4.out x hmem).1 (A4.out x hmem).2
    have es := Xe f hxk; rw [<- Map.out] at es; have Es := hh_ es; obtain ⟨m, hm⟩ : ∃ m, f x.w = m := ⟨_, rfl⟩
    rw [hm] at cf; have Hm := hh_ hm; clear hxk hxv hmem es hm; go_upto_region 8 with fail
    refine zb (fun X => zc X wr.heap.size 59 #[.slice x.A x.row.length x.cap, .int .i64 x.w] /\ za wr X) ⟨zc.new _ _ _, (za.refl wr).al _⟩ ?_; rintro X ⟨Bx, G⟩; obtain ⟨bx, fx⟩ := Bx.rules; go_upto_region 9 with (go_at_call 93; (with_reducible refine (cf _).mono ?_); rintro e w3 ⟨rfl, hg3⟩); have Bx3 := Bx.grow hg3; obtain ⟨bx3, fx3⟩ := Bx3.rules; have G3 := G.trans hg3; have Own3 := hh_ (zh Own.out G3)
    by_cases hm0 : m = 0
    ·exact yY_
    ·exact u6_
   ·exact we_
 ·exact wz_
theorem Ey (n : Int) (w : World) (h1 : -1000000 <= n) (h2 : n <= 1000000) : Calls Tryz.prog 135 #[.int .i64 n] w fun e w' => e = .returned (.int .i64 (-n)) /\ za w w' := by
 have hwp : IntKind.i64.wrap (-n) = -n := by rw [IntKind.wrap_i64]; omega
 go_enter Tryz.func135, Tryz.ntmps135; go_wp2; go_ret; exact zk rfl (za.refl _)
theorem Vf (n : Int) (w : World) (h1 : -1000000 <= n) (h2 : n <= 1000000) : Calls Tryz.prog 92 #[.int .i64 n] w fun e w' => e = .returned (.int .i64 (xh n)) /\ za w w' := by
 go_enter Tryz.func92, Tryz.ntmps92
 by_cases h : n < 0
 ·have e : xh n = 0 := by unfold xh; rw [if_pos h]
  rw [e]; go_wp2; go_ret; exact zk u4_ (za.refl _)
 ·have e : xh n = n := by unfold xh; rw [if_neg h]
  rw [e]; go_wp2; go_ret; exact zk u4_ (za.refl _)
theorem Ec (n : Int) (w : World) (h1 : -1000000 <= n) (h2 : n <= 1000000) : Calls Tryz.prog 93 #[.int .i64 n] w fun e w' => e = .returned (.int .i64 (Xz n)) /\ za w w' := by
 go_enter Tryz.func93, Tryz.ntmps93
 by_cases h : 0 < n
 ·have e : Xz n = 1 := by unfold Xz; rw [if_pos h]
  rw [e]; go_wp2; go_ret; exact zk u4_ (za.refl _)
 ·have e : Xz n = 0 := by unfold Xz; rw [if_neg h]
  rw [e]; go_wp2; go_ret; exact zk u4_ (za.refl _)
theorem CJ (a : S) (w : World) (ha : In w a) :
  Calls Tryz.prog 90 #[.slice a.A a.xs.length a.cap] w fun en w' => z0 w w' en (yA (fun n => -n) a.z) := by
 have cs := Ui (fun n => -n) (fun n W h1 h2 => Ey n W h1 h2) a.A a.xs a.cap w ha; go_enter Tryz.func90, Tryz.ntmps90
 go_wp2_with (go_at_call 91; ((with_reducible refine cs.mono ?_); rintro en w3 ⟨C, zs, cap2, rfl, hz3, hm, hk3, hg3⟩; have Fin := hh_ (And.intro hz3 (And.intro hm hk3)); clear hz3 hm hk3))
 refine qX_ (by simp [results, Tryz.results90, go_sem] <;> rfl) rfl ?_; exact ⟨C, zs, cap2, rfl, Fin.out.1, Fin.out.2.1, Fin.out.2.2, hg3⟩
theorem Da (a : S) (w : World) (ha : In w a) :
  Calls Tryz.prog 50 #[.slice a.A a.xs.length a.cap] w fun en w' => z0 w w' en (yA xh a.z) := by
 have cs := Uj xh (fun n W h1 h2 => Vf n W h1 h2) a.A a.xs a.cap w ha; go_enter Tryz.func50, Tryz.ntmps50
 go_wp2_with (go_at_call 91; ((with_reducible refine cs.mono ?_); rintro en w3 ⟨C, zs, cap2, rfl, hz3, hm, hk3, hg3⟩; have Fin := hh_ (And.intro hz3 (And.intro hm hk3)); clear hz3 hm hk3))
 refine qX_ oM_ rfl ?_; exact ⟨C, zs, cap2, rfl, Fin.out.1, Fin.out.2.1, Fin.out.2.2, hg3⟩
theorem Co (a : S) (w : World) (ha : In w a) :
  Calls Tryz.prog 51 #[.slice a.A a.xs.length a.cap] w fun en w' => z0 w w' en (yA Xz a.z) := by
 have cs := Uh Xz (fun n W h1 h2 => Ec n W h1 h2) a.A a.xs a.cap w ha; go_enter Tryz.func51, Tryz.ntmps51
 go_wp2_with (go_at_call 91; ((with_reducible refine cs.mono ?_); rintro en w3 ⟨C, zs, cap2, rfl, hz3, hm, hk3, hg3⟩; have Fin := hh_ (And.intro hz3 (And.intro hm hk3)); clear hz3 hm hk3))
 refine qX_ (by simp [results, Tryz.results51, go_sem] <;> rfl) rfl ?_; exact ⟨C, zs, cap2, rfl, Fin.out.1, Fin.out.2.1, Fin.out.2.2, hg3⟩
theorem In.of {w : World} {B : Option Addr} {ys : List I} {cap : Nat} (hz : xc w B ys) (hk : zX B ys.length cap) (h : zD (ys.map zg) = 0) : In w ⟨B, ys, cap⟩ := by
 obtain ⟨a1, a2, a3, a4⟩ := S.facts (s := ⟨B, ys, cap⟩) h; exact ⟨hz, hk, by show ys.length <= _; have : ys.length <= 400 := a1; omega, fun x hx => by have := a2 x hx; omega⟩
theorem Tw {a b : List Z} (ha : zD a = 0) (hb : zD b = 0) : xE a b (-1) = yZ (a ++ yz (fun n => -n) b) /\ zD (yz (fun n => -n) b) = 0 := by
 have sa := SM.of ha; have sb := SM.of hb; obtain ⟨s, e, _, ss, _⟩ := Ez sb u4_ u4_; unfold yA at e; rw [if_neg (by rw [hb]; simp)] at e; have e1 : yz (fun n => -n) b = s := (Prod.mk.inj e).1; refine ⟨?_, by rw [e1]; exact ss.rz u4_ u4_⟩; unfold xE yZ; rw [if_neg (by rw [ha]; simp), if_neg (by rw [hb]; simp)]; congr 1; refine Nh (fun x hx => ((Xj sa.ok (Kh sb.ok (-1))) x hx).2) (fun x hx => ((Xj sa.ok (Wx sb.ok _)) x hx).2) (fun q => ?_); rw [xz, xz, LU]; congr 1; have : y7 (-1) b = b.map (fun x => (x.1, -x.2)) := by simp [y7]
 rw [this]
theorem Dz (a b : S) (w : World) (ha : In w a) (hb : In w b) :
  Calls Tryz.prog 49 #[.slice a.A a.xs.length a.cap, .slice b.A b.xs.length b.cap] w fun en w' => z0 w w' en (xE a.z b.z (-1)) := by
 have Ha := hh_ ha; have Hb := hh_ hb; clear ha hb; go_enter Tryz.func49, Tryz.ntmps49; obtain ⟨E, hE⟩ : ∃ E, xZ [a.z, b.z] = E := ⟨_, rfl⟩
 have cr := fun W (h1 : zc W w.heap.size 38 #[.slice a.A a.xs.length a.cap, .slice b.A b.xs.length b.cap]) (hg : za w W) => Jh a b w.heap.size W _ h1 (Ha.out.grow hg) (Hb.out.grow hg)
 rw [hE] at cr; have HE := hh_ hE; clear hE; go_upto_region 2 with (go_at_call 88; ((with_reducible refine (cr _ (zc.new _ _ _) zd).mono ?_); rintro e w2 ⟨rfl, hg2⟩)); have G2 := ((za.refl w).al _).trans hg2; clear cr
 by_cases h0 : E = 0
 ·have d0 : (E != 0) = false := by simpa using h0
  obtain ⟨ra, rb⟩ := Ku (HE.out.trans h0); obtain ⟨a1, a2, a3, a4⟩ := S.facts ra; have fin := Tw ra rb; have en : yA (fun n => -n) b.z = (yz (fun n => -n) b.z, 0) := by unfold yA; rw [if_neg (by rw [rb]; simp)]
  have cn := fun W (h : za w W) => CJ b W (Hb.out.grow h)
  rw [en] at cn; have Fin := hh_ fin; have Ra := hh_ ra; clear fin ra rb a2 a3 a4 en; go_upto_region 5 with (go_at_call 90; ((with_reducible refine (cn _ G2).mono ?_); rintro e w3 ⟨B, ys, cap, rfl, hz3, hm3, hk3, hg3⟩; have Y := hh_ (And.intro hz3 (And.intro hm3 hk3)); clear hz3 hm3 hk3)); have G3 := G2.trans hg3; have ry : zD (ys.map zg) = 0 := by rw [Y.out.2.1]; exact Fin.out.2
  have iy := In.of Y.out.1 Y.out.2.2 ry; obtain ⟨b1, _⟩ := S.facts (s := ⟨B, ys, cap⟩) ry; have b1 : ys.length <= 400 := b1; have cc := fun W (h1 : zc W w3.heap.size 38 #[.slice a.A a.xs.length a.cap, .slice B ys.length cap]) (hg : za w3 W) => Wc a ⟨B, ys, cap⟩ w3.heap.size W _ h1 (Ha.out.grow (G3.trans hg)) (iy.grow hg) (by show a.xs.length + ys.length <= _; omega)
  have cs := fun B' cap' W hz => RC a ⟨B, ys, cap⟩ B' cap' W hz Ra.out ry
  have e2 : xE a.z b.z (-1) = yZ (a.z ++ S.z ⟨B, ys, cap⟩) := by rw [Fin.out.1]; congr 2; exact Y.out.2.1.symm
  have E2 := hh_ e2; clear e2 ry iy
  go_wp2_with (first
   | (go_at_call 89; ((with_reducible refine (cc _ (zc.new _ _ _) ((za.refl _).al _)).mono ?_); rintro e w4 ⟨D, cap4, rfl, hz4, hk4, hg4⟩; have Hz4 := hh_ hz4; clear hz4 hk4))
   | (go_at_call 29; ((with_reducible refine (cs _ _ _ Hz4.out).mono ?_); rintro e w5 ⟨C, zs, cap5, rfl, hz5, hm5, hk5, hg5⟩; have Out := hh_ (And.intro hz5 (And.intro hm5 hk5)); clear hz5 hm5 hk5)))
  refine qX_ oN_ rfl ?_; exact ⟨C, zs, cap5, by rw [E2.out], Out.out.1, by rw [E2.out]; exact Out.out.2.1, Out.out.2.2, ((G3.al _).trans hg4).trans hg5⟩
 ·have d0 : (E != 0) = true := by simpa using h0
  go_wp2; refine qX_ oN_ rfl ?_; have e : xE a.z b.z (-1) = ([], E) := by rw [K3, HE.out, if_pos h0]
  exact ⟨none, [], 0, by rw [e]; rfl, zy _ _, by rw [e]; rfl, zX.nil, G2⟩
def LJ (z : List Z) : Prop := z.length <= 400 /\ ZG z
theorem Dx : LJ [] := ⟨by simp, fun x hx => by simp at hx⟩
theorem S.sml {s : S} (h : LJ s.z) : s.ok := ⟨by have := h.1; simp [S.z] at this; omega, fun x hx => by have := (h.2 (zg x) (qZ9 hx)).1; simp only [zg] at this; omega⟩
theorem In.sml {w : World} {B : Option Addr} {ys : List I} {cap : Nat} (hz : xc w B ys) (hk : zX B ys.length cap) (h : LJ (ys.map zg)) : In w ⟨B, ys, cap⟩ := ⟨hz, hk, S.sml (s := ⟨B, ys, cap⟩) h⟩
theorem Sf {f : Int -> Int} {z d : List Z} (h : yA f z = (d, 0)) : zD z = 0 := by
 unfold yA at h; split at h
 ·exact wO_
 ·rename_i h1; simpa using h1
theorem Dt (s1 s2 : S) (W : World) (h1 : In W s1) (h2 : In W s2) (hR : s1.z = s2.z) :
  Calls Tryz.prog 9 #[.slice s1.A s1.xs.length s1.cap, .slice s2.A s2.xs.length s2.cap] W fun e w' => e = .returned (.bool true) /\ za W w' :=
 VM s1.xs s2.xs s1.A s2.A s1.cap s2.cap W h1.ok.1 h2.ok.1 h1.z h2.z h1.ok.2 h2.ok.2 true ((Qg _ _).2 hR)
theorem Rb {a b s : List Z} {n : Int} (h : xE a b n = (s, 0)) : zD a = 0 /\ zD b = 0 /\ xi s /\ zD s = 0 /\ ∀ q, xe s q = xe a q + n * xe b q := by
 unfold xE at h; split at h
 ·exact wO_
 ·rename_i h1; split at h
  ·exact xe_
  ·rename_i h2; have h1 : zD a = 0 := by simpa using h1
   have h2 : zD b = 0 := by simpa using h2
   have ok := Xj (SM.of h1).ok (Kh (SM.of h2).ok n); have sp := qe (a ++ y7 n b) (fun x hx => (ok x hx).2); unfold yZ at h; rcases Wj (yC (a ++ y7 n b)) with ⟨e, hl, hb⟩ | ⟨e, he, hf⟩
   ·rw [e] at h; have es : yC (a ++ y7 n b) = s := (Prod.mk.inj h).1; rw [es] at sp hl hb; have oks : ZG s := by rw [<- es]; exact Ls ok
    exact ⟨h1, h2, sp.1, (SM.canon sp.1 oks hb hl).rz u4_ u4_, fun q => by rw [sp.2, xz, NC]⟩
   ·rw [hf] at h; exact absurd (Prod.mk.inj h).2 he
theorem Do (n : Int) (w : World) (h1 : -1000000 <= n) (h2 : n <= 1000000) : Calls Tryz.prog 108 #[.int .i64 n] w fun e w' => e = .returned (.int .i64 (xh n)) /\ za w w' := by
 go_enter Tryz.func108, Tryz.ntmps108
 by_cases h : n < 0
 ·have e : xh n = 0 := by unfold xh; rw [if_pos h]
  have d : decide (n < 0) = true := decide_eq_true h; rw [e]; go_wp2; go_ret; exact zk rfl (za.refl _)
 ·have e : xh n = n := by unfold xh; rw [if_neg h]
  have d : decide (n < 0) = false := decide_eq_false h; rw [e]; go_wp2; go_ret; exact zk rfl (za.refl _)
theorem De (n : Int) (w : World) (h1 : -1000000 <= n) (h2 : n <= 1000000) : Calls Tryz.prog 109 #[.int .i64 n] w fun e w' => e = .returned (.int .i64 (Xz n)) /\ za w w' := by
 go_enter Tryz.func109, Tryz.ntmps109
 by_cases h : 0 < n
 ·have e : Xz n = 1 := by unfold Xz; rw [if_pos h]
  have d : decide (0 < n) = true := decide_eq_true h; rw [e]; go_wp2; go_ret; exact zk rfl (za.refl _)
 ·have e : Xz n = 0 := by unfold Xz; rw [if_neg h]
  have d : decide (0 < n) = false := decide_eq_false h; rw [e]; go_wp2; go_ret; exact zk rfl (za.refl _)
theorem SX (f : Int -> Int) (hf : ∀ n W, -1000000 <= n -> n <= 1000000 -> Calls Tryz.prog 108 #[.int .i64 n] W fun e w' => e = .returned (.int .i64 (f n)) /\ za W w') (fb : ∀ n, -1000000 <= n -> n <= 1000000 -> -1000000 <= f n /\ f n <= 1000000) (A : Option Addr) (xs : List I) (c : Nat) (w : World) (ha : In w ⟨A, xs, c⟩) :
  Calls Tryz.prog 107 #[.slice A xs.length c, .func (.func 108) #[] #[]] w fun en w' => z0 w w' en (yA f (xs.map zg)) := by
 have hza : xc w A xs := ha.z; have Ha := hh_ ha; have Hza := hh_ hza; have Hf := hh_ hf; have Fb := hh_ fb; obtain ⟨E, hE⟩ : ∃ E, zD (xs.map zg) = E := ⟨_, rfl⟩
 have ca := fun W (h : za w W) => jl xs A c W Ha.out.ok.1 (Hza.out.grow h) Ha.out.ok.2 E hE
 have HE := hh_ hE; clear ha hza hf fb hE; go_enter Tryz.func107, Tryz.ntmps107
 by_cases h0 : E = 0
 ·have d0 : (E != 0) = false := by simpa using h0
  obtain ⟨a1, a2, a3, a4⟩ := S.facts (s := ⟨A, xs, c⟩) (HE.out.trans h0); have a1 : xs.length <= 400 := a1; have A2 := hh_ a2; have A3 := hh_ a3; have A4 := hh_ a4; have rz := (jo _).1 (HE.out.trans h0)
  have fin : yA f (xs.map zg) = (yC ((xs.map zg).map (fun x => (x.1, f x.2))), 0) := yx_
  have Fin := hh_ fin; clear fin a2 a3 a4 rz; go_upto_region 4 with (go_at_call 54; ((with_reducible refine (ca _ (za.refl _)).mono ?_); rintro e w2 ⟨rfl, hg2⟩)); go_wp2
  go_loopw [7, 17] (fun u i wr => ∃ k : Nat, k <= xs.length /\ i = .int .i64 k /\ xC w wr u (((xs.take k).map zg).map (fun x => (x.1, f x.2)))) (fun _ i _ => xs.length - (intOf i).toNat)
  case atStart => exact ⟨0, Nat.zero_le _, rfl, xC.nil _ _ hg2⟩
  case round =>
   obtain ⟨k, hk, rfl, hst⟩ := hrel; have hg := hst.grow; have St := hh_ hst; clear hst
   by_cases hlt : k < xs.length
   ·obtain ⟨x, hxk⟩ : ∃ x, xs[k]? = some x := ⟨_, qQ_ hlt⟩
    obtain ⟨gx, ox, rfl, c1, c2, hxv⟩ := (Hza.out.grow hg) k x hxk; have hmem := qZ_ hxk; have hw4 := A4.out x hmem; have cf := fun W => Hf.out x.w W hw4.1 hw4.2
    obtain ⟨m, hm⟩ : ∃ m, f x.w = m := ⟨_, rfl⟩
    have hmb : -1000000 <= m /\ m <= 1000000 := by rw [<- hm]; exact Fb.out x.w hw4.1 hw4.2
    have cp := fun W (h : za wr W) => kQ (St.out.more h) x.row x.A x.cap m (hxv.grow h) uh_ (A3.out x hmem) hmb vV_
    have es : ((xs.take (k + 1)).map zg).map (fun x => (x.1, f x.2)) = ((xs.take k).map zg).map (fun x => (x.1, f x.2)) ++ [(x.row, m)] := by rw [kX hxk, List.map_append]; simp [hm]
    rw [<- es] at cp; rw [hm] at cf; have Cp := hh_ cp; clear hxk hxv hmem es hm hw4 hmb cp; go_upto_region 8 with fail
    refine zb (fun X => zc X wr.heap.size 59 #[.slice x.A x.row.length x.cap, .int .i64 x.w] /\ za wr X) ⟨zc.new _ _ _, (za.refl wr).al _⟩ ?_; rintro X ⟨Bx, G⟩; apply ze 9 uY_ uY_
    case h' =>
     intro Q0 hQ0; simp only [List.take_succ_cons, List.take_zero]
     repeat ((first | ((first | apply zu rfl | apply zw rfl rfl rfl); case h1 => (intro w1 hw1 hF K hK; obtain ⟨bx, fx⟩ := (zc.grow Bx hw1).rules; go_simp; first | exact hK _ (za.refl _) | (go_at_call 108; ((with_reducible refine (cf _).mono ?_); rintro e w' ⟨rfl, hg⟩; exact ⟨_, rfl, hK _ hg⟩)))) | apply zz rfl rfl rfl rfl); intro K hK; go_simp; apply hK; clear hK K)
     apply zN (fun v W => xC w W v (((xs.take (k + 1)).map zg).map (fun x => (x.1, f x.2)))) rfl
     case h1 => exact xn_
     intro v28 K hK; go_simp; apply hK; clear hK K; apply zN (fun v W => xC w W v (((xs.take (k + 1)).map zg).map (fun x => (x.1, f x.2)))) rfl
     case h1 => exact xK_
     intro v29 K hK; go_simp; apply hK; clear hK K; refine zo ?_; intro w1 hw1 hF; apply hQ0; clear hQ0; simp only [List.drop_succ_cons, List.drop_zero]; have hst := hF _ (List.mem_cons_self ..); have St2 := hh_ hst; clear hF hst; go_wp2; go_roundw
     case rel => exact ⟨k + 1, by omega, by go_num, St2.out⟩
     case measure => exact wa_
    case hp' => exact yt_
   ·exact wF_
 ·exact wM_
theorem SW (f : Int -> Int) (hf : ∀ n W, -1000000 <= n -> n <= 1000000 -> Calls Tryz.prog 109 #[.int .i64 n] W fun e w' => e = .returned (.int .i64 (f n)) /\ za W w') (fb : ∀ n, -1000000 <= n -> n <= 1000000 -> -1000000 <= f n /\ f n <= 1000000) (A : Option Addr) (xs : List I) (c : Nat) (w : World) (ha : In w ⟨A, xs, c⟩) :
  Calls Tryz.prog 107 #[.slice A xs.length c, .func (.func 109) #[] #[]] w fun en w' => z0 w w' en (yA f (xs.map zg)) := by
 have hza : xc w A xs := ha.z; have Ha := hh_ ha; have Hza := hh_ hza; have Hf := hh_ hf; have Fb := hh_ fb; obtain ⟨E, hE⟩ : ∃ E, zD (xs.map zg) = E := ⟨_, rfl⟩
 have ca := fun W (h : za w W) => jl xs A c W Ha.out.ok.1 (Hza.out.grow h) Ha.out.ok.2 E hE
 have HE := hh_ hE; clear ha hza hf fb hE; go_enter Tryz.func107, Tryz.ntmps107
 by_cases h0 : E = 0
 ·have d0 : (E != 0) = false := by simpa using h0
  obtain ⟨a1, a2, a3, a4⟩ := S.facts (s := ⟨A, xs, c⟩) (HE.out.trans h0); have a1 : xs.length <= 400 := a1; have A2 := hh_ a2; have A3 := hh_ a3; have A4 := hh_ a4; have rz := (jo _).1 (HE.out.trans h0)
  have fin : yA f (xs.map zg) = (yC ((xs.map zg).map (fun x => (x.1, f x.2))), 0) := yx_
  have Fin := hh_ fin; clear fin a2 a3 a4 rz; go_upto_region 4 with (go_at_call 54; ((with_reducible refine (ca _ (za.refl _)).mono ?_); rintro e w2 ⟨rfl, hg2⟩)); go_wp2
  go_loopw [7, 17] (fun u i wr => ∃ k : Nat, k <= xs.length /\ i = .int .i64 k /\ xC w wr u (((xs.take k).map zg).map (fun x => (x.1, f x.2)))) (fun _ i _ => xs.length - (intOf i).toNat)
  case atStart => exact ⟨0, Nat.zero_le _, rfl, xC.nil _ _ hg2⟩
  case round =>
   obtain ⟨k, hk, rfl, hst⟩ := hrel; have hg := hst.grow; have St := hh_ hst; clear hst
   by_cases hlt : k < xs.length
   ·obtain ⟨x, hxk⟩ : ∃ x, xs[k]? = some x := ⟨_, qQ_ hlt⟩
    obtain ⟨gx, ox, rfl, c1, c2, hxv⟩ := (Hza.out.grow hg) k x hxk; have hmem := qZ_ hxk; have hw4 := A4.out x hmem; have cf := fun W => Hf.out x.w W hw4.1 hw4.2
    obtain ⟨m, hm⟩ : ∃ m, f x.w = m := ⟨_, rfl⟩
    have hmb : -1000000 <= m /\ m <= 1000000 := by rw [<- hm]; exact Fb.out x.w hw4.1 hw4.2
    have cp := fun W (h : za wr W) => kQ (St.out.more h) x.row x.A x.cap m (hxv.grow h) uh_ (A3.out x hmem) hmb vV_
    have es : ((xs.take (k + 1)).map zg).map (fun x => (x.1, f x.2)) = ((xs.take k).map zg).map (fun x => (x.1, f x.2)) ++ [(x.row, m)] := by rw [kX hxk, List.map_append]; simp [hm]
    rw [<- es] at cp; rw [hm] at cf; have Cp := hh_ cp; clear hxk hxv hmem es hm hw4 hmb cp; go_upto_region 8 with fail
    refine zb (fun X => zc X wr.heap.size 59 #[.slice x.A x.row.length x.cap, .int .i64 x.w] /\ za wr X) ⟨zc.new _ _ _, (za.refl wr).al _⟩ ?_; rintro X ⟨Bx, G⟩; apply ze 9 uY_ uY_
    case h' =>
     intro Q0 hQ0; simp only [List.take_succ_cons, List.take_zero]
     repeat ((first | ((first | apply zu rfl | apply zw rfl rfl rfl); case h1 => (intro w1 hw1 hF K hK; obtain ⟨bx, fx⟩ := (zc.grow Bx hw1).rules; go_simp; first | exact hK _ (za.refl _) | (go_at_call 109; ((with_reducible refine (cf _).mono ?_); rintro e w' ⟨rfl, hg⟩; exact ⟨_, rfl, hK _ hg⟩)))) | apply zz rfl rfl rfl rfl); intro K hK; go_simp; apply hK; clear hK K)
     apply zN (fun v W => xC w W v (((xs.take (k + 1)).map zg).map (fun x => (x.1, f x.2)))) rfl
     case h1 => exact xn_
     intro v28 K hK; go_simp; apply hK; clear hK K; apply zN (fun v W => xC w W v (((xs.take (k + 1)).map zg).map (fun x => (x.1, f x.2)))) rfl
     case h1 => exact xK_
     intro v29 K hK; go_simp; apply hK; clear hK K; refine zo ?_; intro w1 hw1 hF; apply hQ0; clear hQ0; simp only [List.drop_succ_cons, List.drop_zero]; have hst := hF _ (List.mem_cons_self ..); have St2 := hh_ hst; clear hF hst; go_wp2; go_roundw
     case rel => exact ⟨k + 1, by omega, by go_num, St2.out⟩
     case measure => exact wa_
    case hp' => exact yt_
   ·exact wF_
 ·exact wM_
theorem Vz (xs : List I) (A : Option Addr) (c : Nat) (w : World) (ha : In w ⟨A, xs, c⟩) :
  Calls Tryz.prog 62 #[.slice A xs.length c] w fun en w' => z0 w w' en (yA xh (xs.map zg)) := by
 have cs := SX xh (fun n W h1 h2 => Do n W h1 h2) (fun n h1 h2 => by unfold xh; split <;> omega) A xs c w ha; go_enter Tryz.func62, Tryz.ntmps62
 go_wp2_with (go_at_call 107; ((with_reducible refine cs.mono ?_); rintro en w3 ⟨C, zs, cap2, rfl, hz3, hm, hk3, hg3⟩; have Fin := hh_ (And.intro hz3 (And.intro hm hk3)); clear hz3 hm hk3))
 refine qX_ (by simp [results, Tryz.results62, go_sem] <;> rfl) rfl ?_; exact ⟨C, zs, cap2, rfl, Fin.out.1, Fin.out.2.1, Fin.out.2.2, hg3⟩
theorem Vj (xs : List I) (A : Option Addr) (c : Nat) (w : World) (ha : In w ⟨A, xs, c⟩) :
  Calls Tryz.prog 63 #[.slice A xs.length c] w fun en w' => z0 w w' en (yA Xz (xs.map zg)) := by
 have cs := SW Xz (fun n W h1 h2 => De n W h1 h2) (fun n h1 h2 => by unfold Xz; split <;> omega) A xs c w ha; go_enter Tryz.func63, Tryz.ntmps63
 go_wp2_with (go_at_call 107; ((with_reducible refine cs.mono ?_); rintro en w3 ⟨C, zs, cap2, rfl, hz3, hm, hk3, hg3⟩; have Fin := hh_ (And.intro hz3 (And.intro hm hk3)); clear hz3 hm hk3))
 refine qX_ (by simp [results, Tryz.results63, go_sem] <;> rfl) rfl ?_; exact ⟨C, zs, cap2, rfl, Fin.out.1, Fin.out.2.1, Fin.out.2.2, hg3⟩
