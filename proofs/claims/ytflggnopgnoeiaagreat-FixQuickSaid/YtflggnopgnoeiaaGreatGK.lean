/- Parts of a proof. No condition. -/
import Derived.Test.YtflggnopgnoeiaaGreatGJ
set_option maxRecDepth 100000
set_option maxHeartbeats 8000000
set_option maxRecDepth 100000
set_option linter.unusedSimpArgs false
set_option linter.unusedVariables false
namespace Go
variable {p : Prop}
theorem oD_ (h : p := by simp [results, Tryz.results171, go_sem] <;> rfl) : p := h
theorem oZ_ (h : p := by simp [results, Tryz.results95, go_sem] <;> rfl) : p := h
theorem u8_ (h : p := by
 rename_i h1; exact absurd (Prod.mk.inj h).2 h1) : p := h
theorem wg_ (h : p := by
 rename_i h2; exact absurd (Prod.mk.inj h).2 h2) : p := h
end Go
namespace Go.Proofs.YtflggnopgnoeiaaGreat
open Go.RowKit Go.Calm
theorem zbS {w : World} {g : Nat} {xs : List I} (h : DB w g xs) (hv : ∀ x ∈ xs, xi w x.A x.row) : xe w (some ⟨g, 0, none⟩) xs := fun i x hx => by
 obtain ⟨a, b⟩ := h.at hx; exact ⟨g, 0, rfl, by rw [Nat.zero_add]; exact a, by rw [Nat.zero_add]; exact b, hv x (qZ_ hx)⟩
def nV (n : Int) : V := ⟨3, n, ⟨#[]⟩⟩
inductive Ek | n | p | d
@[reducible] def Ek.F : Ek -> Nat
 | .n => 211
 | .p => 199
 | .d => 96
def kq (w w' : World) (e : Ending) (r : List Z × Int) : Prop := ∃ (B : Option Addr) (ys : List I) (cap : Nat), e = .returned (.tuple #[.slice B ys.length cap, .int .i64 r.2]) /\ w'.ownsRow w.heap.size 53 2 (.slice B ys.length cap) ys.length (zr ys) /\ (∀ y ∈ ys, ∃ g, y.A = some ⟨g, 0, none⟩ /\ DV w' g y.row) /\ ys.map zh = r.1 /\ za w w'
theorem kq.gives {w w' : World} {e : Ending} {r : List Z × Int} (h : kq w w' e r) : yr w w' e r := by
 obtain ⟨B, ys, cap, rfl, own, dv, m, hg⟩ := h; obtain ⟨B2, cap2, e2, hz, hk⟩ := yQ own (fun y hy => by obtain ⟨g, h1, h2⟩ := dv y hy; rw [h1]; exact h2.vsl); simp only [Value.slice.injEq] at e2; obtain ⟨rfl, _, rfl⟩ := e2; exact ⟨B, ys, cap, rfl, hz, m, hk, hg⟩
theorem Jy (ek : Ek) (f : Int -> Int) (hf : ∀ n W, -1000000 <= n -> n <= 1000000 -> Calls Tryz.prog ek.F #[.int .i64 n] W fun e w' => e = .returned (.int .i64 (f n)) /\ za W w') (A : Option Addr) (xs : List I) (c : Nat) (w : World) (ha : In w ⟨A, xs, c⟩) :
  Calls Tryz.prog 95 #[.slice A xs.length c, .func (.func ek.F) #[] #[]] w fun en w' => kq w w' en (ye f (xs.map zh)) := by
 cases ek
 all_goals as_aux_lemma =>
  dsimp only [Ek.F] at hf ⊢; have Ha := hh_ ha; have Hf := hh_ hf; clear ha hf; go_enter Tryz.func95, Tryz.ntmps95; obtain ⟨E, hE⟩ : ∃ E, zC (xs.map zh) = E := ⟨_, rfl⟩
  have cr := fun W (h1 : zb W w.heap.size 25 #[.slice A xs.length c]) (hg : za w W) => Th ⟨A, xs, c⟩ w.heap.size W _ h1 (Ha.out.grow hg)
  rw [show zC (S.z ⟨A, xs, c⟩) = E from hE] at cr; have HE := hh_ hE; clear hE; go_upto_region 2 with (go_at_call 141; ((with_reducible refine (cr _ (zb.new _ _ _) ze).mono ?_); rintro e w2 ⟨rfl, hg2⟩)); have G2 := ((za.refl w).al _).trans hg2; clear cr
  by_cases h0 : E = 0
  ·have d0 : (E != 0) = false := by simpa using h0
   obtain ⟨a1, a2, a3, a4⟩ := S.facts (s := ⟨A, xs, c⟩) (HE.out.trans h0); have A2 := hh_ a2; have A4 := hh_ a4; have fin : ye f (xs.map zh) = (yP f (xs.map zh), 0) := by unfold ye; rw [HE.out, if_neg ux_]
   have Fin := hh_ fin; clear fin a2 a3 a4; go_wp2
   go_loopw [7, 19] (fun t i wr => ∃ (k : Nat) (out : List I), k <= xs.length /\ i = .int .i64 k /\ wr.ownsRow w.heap.size 53 2 t out.length (zr out) /\ out.map zh = yP f ((xs.take k).map zh) /\ (∀ y ∈ out, ∃ g, y.A = some ⟨g, 0, none⟩ /\ DV wr g y.row) /\ out.length <= k /\ za w wr) (fun _ i _ => xs.length - (intOf i).toNat)
   case atStart => exact ⟨0, [], Nat.zero_le _, rfl, World.ownsRow_nil _ _ _ _, rfl, fun y hy => by simp at hy, Nat.le_refl _, G2⟩
   case round =>
    obtain ⟨k, out, hk, rfl, hown, hmap, hdv, hol, hg⟩ := hrel; have Own := hh_ hown; have Map := hh_ hmap; have Dvs := hh_ hdv; clear hown hmap hdv
    by_cases hlt : k < xs.length
    ·obtain ⟨x, hxk⟩ : ∃ x, xs[k]? = some x := ⟨_, qQ_ hlt⟩
     obtain ⟨gx, ox, rfl, c1, c2, hxv⟩ := (Ha.out.z.grow hg) k x hxk; have hmem := qZ_ hxk; have hlx := A2.out x hmem; have cb := fun W (h : za wr W) => Lr x.row x.A x.cap W uX_ (hxv.grow h)
     have cf := fun W => Hf.out x.w W (A4.out x hmem).1 (A4.out x hmem).2
     have es := Sf f hxk; rw [<- Map.out] at es; have Es := hh_ es; obtain ⟨m, hm⟩ : ∃ m, f x.w = m := ⟨_, rfl⟩
     rw [hm] at cf; have Hm := hh_ hm; clear hxk hxv hmem es hm; go_upto_region 8 with fail
     refine zc (fun X => zb X wr.heap.size 53 #[.slice x.A x.row.length x.cap, .int .i64 x.w] /\ za wr X) ⟨zb.new _ _ _, (za.refl wr).al _⟩ ?_; rintro X ⟨Bx, G⟩; obtain ⟨bx, fx⟩ := Bx.rules; go_upto_region 9 with ((first | (go_at_call 211; skip) | (go_at_call 199; skip) | (go_at_call 96; skip)); (with_reducible refine (cf _).mono ?_); rintro e w3 ⟨rfl, hg3⟩); have Bx3 := Bx.grow hg3; obtain ⟨bx3, fx3⟩ := Bx3.rules; have G3 := G.trans hg3; have Own3 := hh_ (zi Own.out G3)
     by_cases hm0 : m = 0
     ·have dm : (m != 0) = false := by simpa using hm0
      go_wp2; go_roundw
      case rel => exact ⟨k + 1, out, by omega, by go_num, Own3.out, by rw [Es.out, Hm.out, if_neg (by simpa using hm0), List.append_nil], fun y hy => by obtain ⟨g, h1, h2⟩ := Dvs.out y hy; exact ⟨g, h1, h2.grow G3⟩, by omega, hg.trans G3⟩
      case measure => exact u1_
     ·have dm : (m != 0) = true := by simpa using hm0
      go_wp2_with (first
       | (go_at_call 132; ((with_reducible refine (cb _ G3).mono ?_); rintro e w4 ⟨gi, rfl, hdv4, hge, hg4⟩; have Dv4 := hh_ hdv4; have Own4 := hh_ (zi Own3.out hg4); clear hdv4))
       | (at_builtin; refine zj rfl _ _ rfl w.heap.size _ out.length out rfl (Own4.out.alloc _) _ [I.mk (some ⟨gi, 0, none⟩) (zd x.row) x.row.length m] rfl (jD (js x.row) (zb.new _ _ _)) uN_ (by have := (hg.trans (G3.trans hg4)).size; simp; omega) ?_; intro v7 w7 own7 gr7))
      have G7 : za w w7 := zy ((hg.trans (G3.trans hg4)).al _) gr7 (Own4.out.alloc _); have Own7 := hh_ own7; have Dv7 := hh_ (DV.kept (Dv4.out.grow ((za.refl _).al _)) (Own4.out.alloc _) gr7)
      have Dvs7 : ∀ y ∈ out, ∃ g, y.A = some ⟨g, 0, none⟩ /\ DV w7 g y.row := fun y hy => by
       obtain ⟨g, h1, h2⟩ := Dvs.out y hy; exact ⟨g, h1, DV.kept (h2.grow ((G3.trans hg4).al _)) (Own4.out.alloc _) gr7⟩
      have DVS7 := hh_ Dvs7; clear own7 gr7 Dvs7; go_roundw
      case rel =>
       refine ⟨k + 1, out ++ [I.mk (some ⟨gi, 0, none⟩) (zd x.row) x.row.length m], by omega, by go_num, by simpa using Own7.out, ?_, fun y hy => ?_, by simp; omega, G7⟩
       ·rw [Es.out, Hm.out, if_pos hm0]; simp [zh]
       ·rcases List.mem_append.1 hy with hy | hy
        ·exact DVS7.out y hy
        ·simp at hy; subst hy; exact ⟨gi, rfl, Dv7.out⟩
      case measure => exact u1_
    ·obtain rfl : k = xs.length := by omega
     obtain ⟨B, cap, rfl, _, _⟩ := yQ Own.out (fun y hy => by obtain ⟨g, h1, h2⟩ := Dvs.out y hy; rw [h1]; exact h2.vsl); have hm2 : out.map zh = yP f (xs.map zh) := by rw [Map.out, List.take_length]
     have Hm2 := hh_ hm2; clear hm2; go_wp2; refine qX_ oZ_ rfl ?_; exact ⟨B, out, cap, by rw [Fin.out], Own.out, Dvs.out, by rw [Fin.out]; exact Hm2.out, hg⟩
  ·have d0 : (E != 0) = true := by simpa using h0
   go_wp2; refine qX_ oZ_ rfl ?_; have e : ye f (xs.map zh) = ([], E) := by unfold ye; rw [HE.out, if_pos h0]
   exact ⟨none, [], 0, by rw [e]; rfl, World.ownsRow_nil _ _ _ _, fun y hy => by simp at hy, by rw [e]; rfl, G2⟩
theorem zbi (n : Int) (w : World) (h1 : -1000000 <= n) (h2 : n <= 1000000) : Calls Tryz.prog 211 #[.int .i64 n] w fun e w' => e = .returned (.int .i64 (-n)) /\ za w w' := by
 have hwp : IntKind.i64.wrap (-n) = -n := by rw [IntKind.wrap_i64]; omega
 go_enter Tryz.func211, Tryz.ntmps211; go_wp2; go_ret; exact zk rfl (za.refl _)
theorem zbB (n : Int) (w : World) (h1 : -1000000 <= n) (h2 : n <= 1000000) : Calls Tryz.prog 199 #[.int .i64 n] w fun e w' => e = .returned (.int .i64 (xy n)) /\ za w w' := by
 go_enter Tryz.func199, Tryz.ntmps199
 by_cases h : n < 0
 ·have e : xy n = 0 := by unfold xy; rw [if_pos h]
  rw [e]; go_wp2; go_ret; exact zk uX_ (za.refl _)
 ·have e : xy n = n := by unfold xy; rw [if_neg h]
  rw [e]; go_wp2; go_ret; exact zk uX_ (za.refl _)
theorem za1 (n : Int) (w : World) (h1 : -1000000 <= n) (h2 : n <= 1000000) : Calls Tryz.prog 96 #[.int .i64 n] w fun e w' => e = .returned (.int .i64 (yM n)) /\ za w w' := by
 go_enter Tryz.func96, Tryz.ntmps96
 by_cases h : 0 < n
 ·have e : yM n = 1 := by unfold yM; rw [if_pos h]
  rw [e]; go_wp2; go_ret; exact zk uX_ (za.refl _)
 ·have e : yM n = 0 := by unfold yM; rw [if_neg h]
  rw [e]; go_wp2; go_ret; exact zk uX_ (za.refl _)
theorem GY (a : S) (w : World) (ha : In w a) :
  Calls Tryz.prog 198 #[.slice a.A a.xs.length a.cap] w fun en w' => kq w w' en (ye (fun n => -n) a.z) := by
 have cs := Jy .n (fun n => -n) (fun n W h1 h2 => zbi n W h1 h2) a.A a.xs a.cap w ha; go_enter Tryz.func198, Tryz.ntmps198
 go_wp2_with (go_at_call 95; ((with_reducible refine cs.mono ?_); rintro en w3 ⟨C, zs, cap2, rfl, own, dv, hm, hg3⟩; have Fin := hh_ (And.intro own (And.intro dv hm)); clear own dv hm))
 refine qX_ (by simp [results, Tryz.results198, go_sem] <;> rfl) rfl ?_; exact ⟨C, zs, cap2, rfl, Fin.out.1, Fin.out.2.1, Fin.out.2.2, hg3⟩
theorem GQ (a : S) (w : World) (ha : In w a) :
  Calls Tryz.prog 198 #[.slice a.A a.xs.length a.cap] w fun en w' => yr w w' en (ye (fun n => -n) a.z) := (GY a w ha).mono fun _ _ h => h.gives
theorem TX (a : S) (w : World) (ha : In w a) :
  Calls Tryz.prog 172 #[.slice a.A a.xs.length a.cap] w fun en w' => kq w w' en (ye xy a.z) := by
 have cs := Jy .p xy (fun n W h1 h2 => zbB n W h1 h2) a.A a.xs a.cap w ha; go_enter Tryz.func172, Tryz.ntmps172
 go_wp2_with (go_at_call 95; ((with_reducible refine cs.mono ?_); rintro en w3 ⟨C, zs, cap2, rfl, own, dv, hm, hg3⟩; have Fin := hh_ (And.intro own (And.intro dv hm)); clear own dv hm))
 refine qX_ (by simp [results, Tryz.results172, go_sem] <;> rfl) rfl ?_; exact ⟨C, zs, cap2, rfl, Fin.out.1, Fin.out.2.1, Fin.out.2.2, hg3⟩
theorem zad (a : S) (w : World) (ha : In w a) :
  Calls Tryz.prog 172 #[.slice a.A a.xs.length a.cap] w fun en w' => yr w w' en (ye xy a.z) := (TX a w ha).mono fun _ _ h => h.gives
theorem Tw (a : S) (w : World) (ha : In w a) :
  Calls Tryz.prog 42 #[.slice a.A a.xs.length a.cap] w fun en w' => kq w w' en (ye yM a.z) := by
 have cs := Jy .d yM (fun n W h1 h2 => za1 n W h1 h2) a.A a.xs a.cap w ha; go_enter Tryz.func42, Tryz.ntmps42
 go_wp2_with (go_at_call 95; ((with_reducible refine cs.mono ?_); rintro en w3 ⟨C, zs, cap2, rfl, own, dv, hm, hg3⟩; have Fin := hh_ (And.intro own (And.intro dv hm)); clear own dv hm))
 refine qX_ (by simp [results, Tryz.results42, go_sem] <;> rfl) rfl ?_; exact ⟨C, zs, cap2, rfl, Fin.out.1, Fin.out.2.1, Fin.out.2.2, hg3⟩
theorem W5 (a : S) (w : World) (ha : In w a) :
  Calls Tryz.prog 42 #[.slice a.A a.xs.length a.cap] w fun en w' => yr w w' en (ye yM a.z) := (Tw a w ha).mono fun _ _ h => h.gives
theorem In.of {w : World} {B : Option Addr} {ys : List I} {cap : Nat} (hz : xe w B ys) (hk : yf B ys.length cap) (h : zC (ys.map zh) = 0) : In w ⟨B, ys, cap⟩ := by
 obtain ⟨a1, a2, a3, a4⟩ := S.facts (s := ⟨B, ys, cap⟩) h; exact ⟨hz, hk, by show ys.length <= _; have : ys.length <= 400 := a1; omega, fun x hx => by have := a2 x hx; omega⟩
theorem Bv {a b : List Z} (ha : zC a = 0) (hb : zC b = 0) : xf a b (-1) = yy (a ++ yP (fun n => -n) b) /\ zC (yP (fun n => -n) b) = 0 := by
 have sa := SM.of ha; have sb := SM.of hb; obtain ⟨s, e, _, ss, _⟩ := zbj sb uX_ uX_; unfold ye at e; rw [if_neg (by rw [hb]; simp)] at e; have e1 : yP (fun n => -n) b = s := (Prod.mk.inj e).1; refine ⟨?_, by rw [e1]; exact ss.rz uX_ uX_⟩; unfold xf yy; rw [if_neg (by rw [ha]; simp), if_neg (by rw [hb]; simp)]; congr 1; refine Rl (fun x hx => ((qQ sa.ok (Y0 sb.ok (-1))) x hx).2) (fun x hx => ((qQ sa.ok (Qp sb.ok _)) x hx).2) (fun q => ?_); rw [qo, qo, Uo]; congr 1; have : yI (-1) b = b.map (fun x => (x.1, -x.2)) := by simp [yI]
 rw [this]
theorem zar (a b : S) (w : World) (ha : In w a) (hb : In w b) :
  Calls Tryz.prog 171 #[.slice a.A a.xs.length a.cap, .slice b.A b.xs.length b.cap] w fun en w' => yr w w' en (xf a.z b.z (-1)) := by
 have Ha := hh_ ha; have Hb := hh_ hb; clear ha hb; go_enter Tryz.func171, Tryz.ntmps171; obtain ⟨E, hE⟩ : ∃ E, qh [a.z, b.z] = E := ⟨_, rfl⟩
 have cr := fun W (h1 : zb W w.heap.size 25 #[.slice a.A a.xs.length a.cap, .slice b.A b.xs.length b.cap]) (hg : za w W) => KQ a b w.heap.size W _ h1 (Ha.out.grow hg) (Hb.out.grow hg)
 rw [hE] at cr; have HE := hh_ hE; clear hE; go_upto_region 2 with (go_at_call 141; ((with_reducible refine (cr _ (zb.new _ _ _) ze).mono ?_); rintro e w2 ⟨rfl, hg2⟩)); have G2 := ((za.refl w).al _).trans hg2; clear cr
 by_cases h0 : E = 0
 ·have d0 : (E != 0) = false := by simpa using h0
  obtain ⟨ra, rb⟩ := Mw (HE.out.trans h0); obtain ⟨a1, a2, a3, a4⟩ := S.facts ra; have fin := Bv ra rb; have en : ye (fun n => -n) b.z = (yP (fun n => -n) b.z, 0) := by unfold ye; rw [if_neg (by rw [rb]; simp)]
  have cn := fun W (h : za w W) => GQ b W (Hb.out.grow h)
  rw [en] at cn; have Fin := hh_ fin; have Ra := hh_ ra; clear fin ra rb a2 a3 a4 en; go_upto_region 5 with (go_at_call 198; ((with_reducible refine (cn _ G2).mono ?_); rintro e w3 ⟨B, ys, cap, rfl, hz3, hm3, hk3, hg3⟩; have Y := hh_ (And.intro hz3 (And.intro hm3 hk3)); clear hz3 hm3 hk3)); have G3 := G2.trans hg3; have ry : zC (ys.map zh) = 0 := by rw [Y.out.2.1]; exact Fin.out.2
  have iy := In.of Y.out.1 Y.out.2.2 ry; obtain ⟨b1, _⟩ := S.facts (s := ⟨B, ys, cap⟩) ry; have b1 : ys.length <= 400 := b1; have cc := fun W (h1 : zb W w3.heap.size 25 #[.slice a.A a.xs.length a.cap, .slice B ys.length cap]) (hg : za w3 W) => Ju a ⟨B, ys, cap⟩ w3.heap.size W _ h1 (Ha.out.grow (G3.trans hg)) (iy.grow hg) (by show a.xs.length + ys.length <= _; omega)
  have cs := fun B' cap' W hz => Uc a ⟨B, ys, cap⟩ B' cap' W hz Ra.out ry
  have e2 : xf a.z b.z (-1) = yy (a.z ++ S.z ⟨B, ys, cap⟩) := by rw [Fin.out.1]; congr 2; exact Y.out.2.1.symm
  have E2 := hh_ e2; clear e2 ry iy
  go_wp2_with (first
   | (go_at_call 142; ((with_reducible refine (cc _ (zb.new _ _ _) ((za.refl _).al _)).mono ?_); rintro e w4 ⟨D, cap4, rfl, hz4, hk4, hg4⟩; have Hz4 := hh_ hz4; clear hz4 hk4))
   | (go_at_call 29; ((with_reducible refine (cs _ _ _ Hz4.out).mono ?_); rintro e w5 ⟨C, zs, cap5, rfl, hz5, hm5, hk5, hg5⟩; have Out := hh_ (And.intro hz5 (And.intro hm5 hk5)); clear hz5 hm5 hk5)))
  refine qX_ oD_ rfl ?_; exact ⟨C, zs, cap5, by rw [E2.out], Out.out.1, by rw [E2.out]; exact Out.out.2.1, Out.out.2.2, ((G3.al _).trans hg4).trans hg5⟩
 ·have d0 : (E != 0) = true := by simpa using h0
  go_wp2; refine qX_ oD_ rfl ?_; have e : xf a.z b.z (-1) = ([], E) := by rw [MZ, HE.out, if_pos h0]
  exact ⟨none, [], 0, by rw [e]; rfl, zX _ _, by rw [e]; rfl, yf.nil, G2⟩
def ZJ (z : List Z) : Prop := z.length <= 400 /\ Xk z
theorem NM : ZJ [] := ⟨by simp, fun x hx => by simp at hx⟩
theorem S.sml {s : S} (h : ZJ s.z) : s.ok := ⟨by have := h.1; simp [S.z] at this; omega, fun x hx => by have := (h.2 (zh x) (qZ9 hx)).1; simp only [zh] at this; omega⟩
theorem In.sml {w : World} {B : Option Addr} {ys : List I} {cap : Nat} (hz : xe w B ys) (hk : yf B ys.length cap) (h : ZJ (ys.map zh)) : In w ⟨B, ys, cap⟩ := ⟨hz, hk, S.sml (s := ⟨B, ys, cap⟩) h⟩
theorem YP {f : Int -> Int} {z d : List Z} (h : ye f z = (d, 0)) : zC z = 0 := by
 unfold ye at h; split at h
 ·exact u8_
 ·rename_i h1; simpa using h1
theorem zas {l : List Z} (h : Xk l) : ZJ (yy l).1 := by
 unfold yy; rcases XC (yE l) with ⟨e, h2, _⟩ | ⟨e, _, hf⟩
 ·rw [e]; exact ⟨h2, Jb h⟩
 ·rw [hf]; exact NM
theorem Cz (x y : List Z) (t : Int) : ZJ (xf x y t).1 := by
 unfold xf; split
 ·exact NM
 ·rename_i h1; split
  ·exact NM
  ·rename_i h2; exact zas (qQ (SM.of uB_).ok (Y0 (SM.of uE_).ok t))
theorem T3 (s1 s2 : S) (W : World) (h1 : In W s1) (h2 : In W s2) (hR : s1.z = s2.z) :
  Calls Tryz.prog 9 #[.slice s1.A s1.xs.length s1.cap, .slice s2.A s2.xs.length s2.cap] W fun e w' => e = .returned (.bool true) /\ za W w' :=
 E6 s1.xs s2.xs s1.A s2.A s1.cap s2.cap W h1.ok.1 h2.ok.1 h1.z h2.z h1.ok.2 h2.ok.2 true ((Q9 _ _).2 hR)
theorem CA {a b t : List Z} {n : Int} (ha : zC a = 0) (hb : zC b = 0) (hc : yA t) (ht : zC t = 0) (hw : ∀ q, zW a q + n * zW b q = zW t q) : xf a b n = (t, 0) := by
 have sa := SM.of ha; have sb := SM.of hb; have st := SM.of ht; have e : t = yE (a ++ yI n b) := NK (fun x hx => ((qQ sa.ok (Y0 sb.ok n)) x hx).2) hc (fun q => by rw [qo, Xx, hw]); unfold xf yy; rw [if_neg (by rw [ha]; simp), if_neg (by rw [hb]; simp), <- e]; exact YR st.len st.bd
theorem YM {a b s : List Z} {n : Int} (h : xf a b n = (s, 0)) : zC a = 0 /\ zC b = 0 /\ yA s /\ zC s = 0 /\ ∀ q, zW s q = zW a q + n * zW b q := by
 unfold xf at h; split at h
 ·exact u8_
 ·rename_i h1; split at h
  ·exact wg_
  ·rename_i h2; have h1 : zC a = 0 := by simpa using h1
   have h2 : zC b = 0 := by simpa using h2
   have ok := qQ (SM.of h1).ok (Y0 (SM.of h2).ok n); have sp := yW (a ++ yI n b) (fun x hx => (ok x hx).2); unfold yy at h; rcases XC (yE (a ++ yI n b)) with ⟨e, hl, hb⟩ | ⟨e, he, hf⟩
   ·rw [e] at h; have es : yE (a ++ yI n b) = s := (Prod.mk.inj h).1; rw [es] at sp hl hb; have oks : Xk s := by rw [<- es]; exact Jb ok
    exact ⟨h1, h2, sp.1, (SM.canon sp.1 oks hb hl).rz uX_ uX_, fun q => by rw [sp.2, qo, Xx]⟩
   ·rw [hf] at h; exact absurd (Prod.mk.inj h).2 he
