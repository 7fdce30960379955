/-
 Joined texts of this claim: Az, Zs17, Zs18. What each proves its own head says; no condition beside those that each theorem names.
-/
import Derived.Test.YtcaedcpjdmlilaaGreatGJ
import Derived.Test.YtcaedcpjdmlilaaGreatGI
set_option maxRecDepth 100000
set_option maxHeartbeats 8000000
namespace Go.Proofs.YtcaedcpjdmlilaaGreat
open Go.RowKit Go.Calm
set_option linter.unusedSimpArgs false
set_option linter.unusedVariables false
theorem zbp {w : World} {g : Nat} {xs : List I} (h : DB w g xs) (hv : ∀ x ∈ xs, xp w x.A x.row) : xF w (some ⟨g, 0, none⟩) xs := fun i x hx => by
 obtain ⟨a, b⟩ := h.at hx; exact ⟨g, 0, rfl, by rw [Nat.zero_add]; exact a, by rw [Nat.zero_add]; exact b, hv x (List.mem_of_getElem? hx)⟩
def nV (n : Int) : V := ⟨3, n, ⟨#[]⟩⟩
theorem Bq (f : Int -> Int) (hf : ∀ n W, -1000000 <= n -> n <= 1000000 -> Calls Tryz.prog 193 #[.int .i64 n] W fun e w' => e = .returned (.int .i64 (f n)) /\ za W w') (A : Option Addr) (xs : List I) (c : Nat) (w : World) (ha : In w ⟨A, xs, c⟩) :
  Calls Tryz.prog 48 #[.slice A xs.length c, .func (.func 193) #[] #[]] w fun en w' => yu w w' en (zP f (xs.map zj)) := by
 have Ha := Lib.hid ha; have Hf := Lib.hid hf; clear ha hf; go_enter Tryz.func48, Tryz.ntmps48; obtain ⟨E, hE⟩ : ∃ E, zu (xs.map zj) = E := ⟨_, rfl⟩
 have cr := fun W (h1 : zb W w.heap.size 38 #[.slice A xs.length c]) (hg : za w W) => XK ⟨A, xs, c⟩ w.heap.size W _ h1 (Ha.out.grow hg)
 rw [show zu (S.z ⟨A, xs, c⟩) = E from hE] at cr; have HE := Lib.hid hE; clear hE; go_upto_region 2 with (go_at_call 51; ((with_reducible refine (cr _ (zb.new _ _ _) (by with_reducible repeat (first | exact za.refl _ | assumption | refine za.set ?_ (by simp <;> omega) _ | refine za.al ?_ _ | refine za.drew ?_ | refine za.drewN ?_ _ | refine za.trans ?_ (by assumption)))).mono ?_); rintro e w2 ⟨rfl, hg2⟩)); have G2 := ((za.refl w).al _).trans hg2; clear cr
 by_cases h0 : E = 0
 ·have d0 : (E != 0) = false := by simpa using h0
  obtain ⟨a1, a2, a3, a4⟩ := S.facts (s := ⟨A, xs, c⟩) (HE.out.trans h0); have A2 := Lib.hid a2; have A4 := Lib.hid a4; have fin : zP f (xs.map zj) = (yq f (xs.map zj), 0) := by unfold zP; rw [HE.out, if_neg (by simpa using h0)]
  have Fin := Lib.hid fin; clear fin a2 a3 a4; go_wp2
  go_loopw [7, 19] (fun t i wr => ∃ (k : Nat) (out : List I), k <= xs.length /\ i = .int .i64 k /\ wr.ownsRow w.heap.size 62 2 t out.length (zt out) /\ out.map zj = yq f ((xs.take k).map zj) /\ (∀ y ∈ out, ∃ g, y.A = some ⟨g, 0, none⟩ /\ DV wr g y.row) /\ out.length <= k /\ za w wr) (fun _ i _ => xs.length - (intOf i).toNat)
  case atStart => exact ⟨0, [], Nat.zero_le _, rfl, World.ownsRow_nil _ _ _ _, rfl, fun y hy => by simp at hy, Nat.le_refl _, G2⟩
  case round =>
   obtain ⟨k, out, hk, rfl, hown, hmap, hdv, hol, hg⟩ := hrel; have Own := Lib.hid hown; have Map := Lib.hid hmap; have Dvs := Lib.hid hdv; clear hown hmap hdv
   by_cases hlt : k < xs.length
   ·obtain ⟨x, hxk⟩ : ∃ x, xs[k]? = some x := ⟨_, List.getElem?_eq_getElem hlt⟩
    obtain ⟨gx, ox, rfl, c1, c2, hxv⟩ := (Ha.out.z.grow hg) k x hxk; have hmem := List.mem_of_getElem? hxk; have hlx := A2.out x hmem; have cb := fun W (h : za wr W) => kJ x.row x.A x.cap W (by omega) (hxv.grow h)
    have cf := fun W => Hf.out x.w W (A4.out x hmem).1 (A4.out x hmem).2
    have es := Xn f hxk; rw [<- Map.out] at es; have Es := Lib.hid es; obtain ⟨m, hm⟩ : ∃ m, f x.w = m := ⟨_, rfl⟩
    rw [hm] at cf; have Hm := Lib.hid hm; clear hxk hxv hmem es hm; go_upto_region 8 with fail
    refine zc (fun X => zb X wr.heap.size 62 #[.slice x.A x.row.length x.cap, .int .i64 x.w] /\ za wr X) ⟨zb.new _ _ _, (za.refl wr).al _⟩ ?_; rintro X ⟨Bx, G⟩; obtain ⟨bx, fx⟩ := Bx.rules; go_upto_region 9 with (go_at_call 193; (with_reducible refine (cf _).mono ?_); rintro e w3 ⟨rfl, hg3⟩); have Bx3 := Bx.grow hg3; obtain ⟨bx3, fx3⟩ := Bx3.rules; have G3 := G.trans hg3; have Own3 := Lib.hid (zl Own.out G3)
    by_cases hm0 : m = 0
    ·have dm : (m != 0) = false := by simpa using hm0
     go_wp2; go_roundw
     case rel => exact ⟨k + 1, out, by omega, by go_num, Own3.out, by rw [Es.out, Hm.out, if_neg (by simpa using hm0), List.append_nil], fun y hy => by obtain ⟨g, h1, h2⟩ := Dvs.out y hy; exact ⟨g, h1, h2.grow G3⟩, by omega, hg.trans G3⟩
     case measure => simp [intOf]; omega
    ·have dm : (m != 0) = true := by simpa using hm0
     go_wp2_with (first
      | (go_at_call 92; ((with_reducible refine (cb _ G3).mono ?_); rintro e w4 ⟨gi, rfl, hdv4, hge, hg4⟩; have Dv4 := Lib.hid hdv4; have Own4 := Lib.hid (zl Own3.out hg4); clear hdv4))
      | (at_builtin; refine zS rfl _ _ rfl w.heap.size _ out.length out rfl (Own4.out.alloc _) _ [I.mk (some ⟨gi, 0, none⟩) (zd x.row) x.row.length m] rfl (jJ (jM x.row) (zb.new _ _ _)) (by simp; omega) (by have := (hg.trans (G3.trans hg4)).size; simp; omega) ?_; intro v7 w7 own7 gr7))
     have G7 : za w w7 := zY ((hg.trans (G3.trans hg4)).al _) gr7 (Own4.out.alloc _); have Own7 := Lib.hid own7; have Dv7 := Lib.hid (DV.kept (Dv4.out.grow ((za.refl _).al _)) (Own4.out.alloc _) gr7)
     have Dvs7 : ∀ y ∈ out, ∃ g, y.A = some ⟨g, 0, none⟩ /\ DV w7 g y.row := fun y hy => by
      obtain ⟨g, h1, h2⟩ := Dvs.out y hy; exact ⟨g, h1, DV.kept (h2.grow ((G3.trans hg4).al _)) (Own4.out.alloc _) gr7⟩
     have DVS7 := Lib.hid Dvs7; clear own7 gr7 Dvs7; go_roundw
     case rel =>
      refine ⟨k + 1, out ++ [I.mk (some ⟨gi, 0, none⟩) (zd x.row) x.row.length m], by omega, by go_num, by simpa using Own7.out, ?_, fun y hy => ?_, by simp; omega, G7⟩
      ·rw [Es.out, Hm.out, if_pos hm0]; simp [zj]
      ·rcases List.mem_append.1 hy with hy | hy
       ·exact DVS7.out y hy
       ·simp at hy; subst hy; exact ⟨gi, rfl, Dv7.out⟩
     case measure => simp [intOf]; omega
   ·obtain rfl : k = xs.length := by omega
    obtain ⟨B, cap, rfl, hz, hk2⟩ := Yh Own.out (fun y hy => by obtain ⟨g, h1, h2⟩ := Dvs.out y hy; rw [h1]; exact h2.vsl); have Out := Lib.hid (And.intro hz hk2); have hm2 : out.map zj = yq f (xs.map zj) := by rw [Map.out, List.take_length]
    have Hm2 := Lib.hid hm2; clear hz hk2 hm2; go_wp2; refine bodyPost_ret (by simp [results, Tryz.results48, go_sem] <;> rfl) rfl ?_; exact ⟨B, out, cap, by rw [Fin.out], Out.out.1, by rw [Fin.out]; exact Hm2.out, Out.out.2, hg⟩
 ·have d0 : (E != 0) = true := by simpa using h0
  go_wp2; refine bodyPost_ret (by simp [results, Tryz.results48, go_sem] <;> rfl) rfl ?_; have e : zP f (xs.map zj) = ([], E) := by unfold zP; rw [HE.out, if_pos h0]
  exact ⟨none, [], 0, by rw [e]; rfl, yd _ _, by rw [e]; rfl, yw.nil, G2⟩
theorem Bt (f : Int -> Int) (hf : ∀ n W, -1000000 <= n -> n <= 1000000 -> Calls Tryz.prog 155 #[.int .i64 n] W fun e w' => e = .returned (.int .i64 (f n)) /\ za W w') (A : Option Addr) (xs : List I) (c : Nat) (w : World) (ha : In w ⟨A, xs, c⟩) :
  Calls Tryz.prog 48 #[.slice A xs.length c, .func (.func 155) #[] #[]] w fun en w' => yu w w' en (zP f (xs.map zj)) := by
 have Ha := Lib.hid ha; have Hf := Lib.hid hf; clear ha hf; go_enter Tryz.func48, Tryz.ntmps48; obtain ⟨E, hE⟩ : ∃ E, zu (xs.map zj) = E := ⟨_, rfl⟩
 have cr := fun W (h1 : zb W w.heap.size 38 #[.slice A xs.length c]) (hg : za w W) => XK ⟨A, xs, c⟩ w.heap.size W _ h1 (Ha.out.grow hg)
 rw [show zu (S.z ⟨A, xs, c⟩) = E from hE] at cr; have HE := Lib.hid hE; clear hE; go_upto_region 2 with (go_at_call 51; ((with_reducible refine (cr _ (zb.new _ _ _) (by with_reducible repeat (first | exact za.refl _ | assumption | refine za.set ?_ (by simp <;> omega) _ | refine za.al ?_ _ | refine za.drew ?_ | refine za.drewN ?_ _ | refine za.trans ?_ (by assumption)))).mono ?_); rintro e w2 ⟨rfl, hg2⟩)); have G2 := ((za.refl w).al _).trans hg2; clear cr
 by_cases h0 : E = 0
 ·have d0 : (E != 0) = false := by simpa using h0
  obtain ⟨a1, a2, a3, a4⟩ := S.facts (s := ⟨A, xs, c⟩) (HE.out.trans h0); have A2 := Lib.hid a2; have A4 := Lib.hid a4; have fin : zP f (xs.map zj) = (yq f (xs.map zj), 0) := by unfold zP; rw [HE.out, if_neg (by simpa using h0)]
  have Fin := Lib.hid fin; clear fin a2 a3 a4; go_wp2
  go_loopw [7, 19] (fun t i wr => ∃ (k : Nat) (out : List I), k <= xs.length /\ i = .int .i64 k /\ wr.ownsRow w.heap.size 62 2 t out.length (zt out) /\ out.map zj = yq f ((xs.take k).map zj) /\ (∀ y ∈ out, ∃ g, y.A = some ⟨g, 0, none⟩ /\ DV wr g y.row) /\ out.length <= k /\ za w wr) (fun _ i _ => xs.length - (intOf i).toNat)
  case atStart => exact ⟨0, [], Nat.zero_le _, rfl, World.ownsRow_nil _ _ _ _, rfl, fun y hy => by simp at hy, Nat.le_refl _, G2⟩
  case round =>
   obtain ⟨k, out, hk, rfl, hown, hmap, hdv, hol, hg⟩ := hrel; have Own := Lib.hid hown; have Map := Lib.hid hmap; have Dvs := Lib.hid hdv; clear hown hmap hdv
   by_cases hlt : k < xs.length
   ·obtain ⟨x, hxk⟩ : ∃ x, xs[k]? = some x := ⟨_, List.getElem?_eq_getElem hlt⟩
    obtain ⟨gx, ox, rfl, c1, c2, hxv⟩ := (Ha.out.z.grow hg) k x hxk; have hmem := List.mem_of_getElem? hxk; have hlx := A2.out x hmem; have cb := fun W (h : za wr W) => kJ x.row x.A x.cap W (by omega) (hxv.grow h)
    have cf := fun W => Hf.out x.w W (A4.out x hmem).1 (A4.out x hmem).2
    have es := Xn f hxk; rw [<- Map.out] at es; have Es := Lib.hid es; obtain ⟨m, hm⟩ : ∃ m, f x.w = m := ⟨_, rfl⟩
    rw [hm] at cf; have Hm := Lib.hid hm; clear hxk hxv hmem es hm; go_upto_region 8 with fail
    refine zc (fun X => zb X wr.heap.size 62 #[.slice x.A x.row.length x.cap, .int .i64 x.w] /\ za wr X) ⟨zb.new _ _ _, (za.refl wr).al _⟩ ?_; rintro X ⟨Bx, G⟩; obtain ⟨bx, fx⟩ := Bx.rules; go_upto_region 9 with (go_at_call 155; (with_reducible refine (cf _).mono ?_); rintro e w3 ⟨rfl, hg3⟩); have Bx3 := Bx.grow hg3; obtain ⟨bx3, fx3⟩ := Bx3.rules; have G3 := G.trans hg3; have Own3 := Lib.hid (zl Own.out G3)
    by_cases hm0 : m = 0
    ·have dm : (m != 0) = false := by simpa using hm0
     go_wp2; go_roundw
     case rel => exact ⟨k + 1, out, by omega, by go_num, Own3.out, by rw [Es.out, Hm.out, if_neg (by simpa using hm0), List.append_nil], fun y hy => by obtain ⟨g, h1, h2⟩ := Dvs.out y hy; exact ⟨g, h1, h2.grow G3⟩, by omega, hg.trans G3⟩
     case measure => simp [intOf]; omega
    ·have dm : (m != 0) = true := by simpa using hm0
     go_wp2_with (first
      | (go_at_call 92; ((with_reducible refine (cb _ G3).mono ?_); rintro e w4 ⟨gi, rfl, hdv4, hge, hg4⟩; have Dv4 := Lib.hid hdv4; have Own4 := Lib.hid (zl Own3.out hg4); clear hdv4))
      | (at_builtin; refine zS rfl _ _ rfl w.heap.size _ out.length out rfl (Own4.out.alloc _) _ [I.mk (some ⟨gi, 0, none⟩) (zd x.row) x.row.length m] rfl (jJ (jM x.row) (zb.new _ _ _)) (by simp; omega) (by have := (hg.trans (G3.trans hg4)).size; simp; omega) ?_; intro v7 w7 own7 gr7))
     have G7 : za w w7 := zY ((hg.trans (G3.trans hg4)).al _) gr7 (Own4.out.alloc _); have Own7 := Lib.hid own7; have Dv7 := Lib.hid (DV.kept (Dv4.out.grow ((za.refl _).al _)) (Own4.out.alloc _) gr7)
     have Dvs7 : ∀ y ∈ out, ∃ g, y.A = some ⟨g, 0, none⟩ /\ DV w7 g y.row := fun y hy => by
      obtain ⟨g, h1, h2⟩ := Dvs.out y hy; exact ⟨g, h1, DV.kept (h2.grow ((G3.trans hg4).al _)) (Own4.out.alloc _) gr7⟩
     have DVS7 := Lib.hid Dvs7; clear own7 gr7 Dvs7; go_roundw
     case rel =>
      refine ⟨k + 1, out ++ [I.mk (some ⟨gi, 0, none⟩) (zd x.row) x.row.length m], by omega, by go_num, by simpa using Own7.out, ?_, fun y hy => ?_, by simp; omega, G7⟩
      ·rw [Es.out, Hm.out, if_pos hm0]; simp [zj]
      ·rcases List.mem_append.1 hy with hy | hy
       ·exact DVS7.out y hy
       ·simp at hy; subst hy; exact ⟨gi, rfl, Dv7.out⟩
     case measure => simp [intOf]; omega
   ·obtain rfl : k = xs.length := by omega
    obtain ⟨B, cap, rfl, hz, hk2⟩ := Yh Own.out (fun y hy => by obtain ⟨g, h1, h2⟩ := Dvs.out y hy; rw [h1]; exact h2.vsl); have Out := Lib.hid (And.intro hz hk2); have hm2 : out.map zj = yq f (xs.map zj) := by rw [Map.out, List.take_length]
    have Hm2 := Lib.hid hm2; clear hz hk2 hm2; go_wp2; refine bodyPost_ret (by simp [results, Tryz.results48, go_sem] <;> rfl) rfl ?_; exact ⟨B, out, cap, by rw [Fin.out], Out.out.1, by rw [Fin.out]; exact Hm2.out, Out.out.2, hg⟩
 ·have d0 : (E != 0) = true := by simpa using h0
  go_wp2; refine bodyPost_ret (by simp [results, Tryz.results48, go_sem] <;> rfl) rfl ?_; have e : zP f (xs.map zj) = ([], E) := by unfold zP; rw [HE.out, if_pos h0]
  exact ⟨none, [], 0, by rw [e]; rfl, yd _ _, by rw [e]; rfl, yw.nil, G2⟩
theorem Bn (f : Int -> Int) (hf : ∀ n W, -1000000 <= n -> n <= 1000000 -> Calls Tryz.prog 49 #[.int .i64 n] W fun e w' => e = .returned (.int .i64 (f n)) /\ za W w') (A : Option Addr) (xs : List I) (c : Nat) (w : World) (ha : In w ⟨A, xs, c⟩) :
  Calls Tryz.prog 48 #[.slice A xs.length c, .func (.func 49) #[] #[]] w fun en w' => yu w w' en (zP f (xs.map zj)) := by
 have Ha := Lib.hid ha; have Hf := Lib.hid hf; clear ha hf; go_enter Tryz.func48, Tryz.ntmps48; obtain ⟨E, hE⟩ : ∃ E, zu (xs.map zj) = E := ⟨_, rfl⟩
 have cr := fun W (h1 : zb W w.heap.size 38 #[.slice A xs.length c]) (hg : za w W) => XK ⟨A, xs, c⟩ w.heap.size W _ h1 (Ha.out.grow hg)
 rw [show zu (S.z ⟨A, xs, c⟩) = E from hE] at cr; have HE := Lib.hid hE; clear hE; go_upto_region 2 with (go_at_call 51; ((with_reducible refine (cr _ (zb.new _ _ _) (by with_reducible repeat (first | exact za.refl _ | assumption | refine za.set ?_ (by simp <;> omega) _ | refine za.al ?_ _ | refine za.drew ?_ | refine za.drewN ?_ _ | refine za.trans ?_ (by assumption)))).mono ?_); rintro e w2 ⟨rfl, hg2⟩)); have G2 := ((za.refl w).al _).trans hg2; clear cr
 by_cases h0 : E = 0
 ·have d0 : (E != 0) = false := by simpa using h0
  obtain ⟨a1, a2, a3, a4⟩ := S.facts (s := ⟨A, xs, c⟩) (HE.out.trans h0); have A2 := Lib.hid a2; have A4 := Lib.hid a4; have fin : zP f (xs.map zj) = (yq f (xs.map zj), 0) := by unfold zP; rw [HE.out, if_neg (by simpa using h0)]
  have Fin := Lib.hid fin; clear fin a2 a3 a4; go_wp2
  go_loopw [7, 19] (fun t i wr => ∃ (k : Nat) (out : List I), k <= xs.length /\ i = .int .i64 k /\ wr.ownsRow w.heap.size 62 2 t out.length (zt out) /\ out.map zj = yq f ((xs.take k).map zj) /\ (∀ y ∈ out, ∃ g, y.A = some ⟨g, 0, none⟩ /\ DV wr g y.row) /\ out.length <= k /\ za w wr) (fun _ i _ => xs.length - (intOf i).toNat)
  case atStart => exact ⟨0, [], Nat.zero_le _, rfl, World.ownsRow_nil _ _ _ _, rfl, fun y hy => by simp at hy, Nat.le_refl _, G2⟩
  case round =>
   obtain ⟨k, out, hk, rfl, hown, hmap, hdv, hol, hg⟩ := hrel; have Own := Lib.hid hown; have Map := Lib.hid hmap; have Dvs := Lib.hid hdv; clear hown hmap hdv
   by_cases hlt : k < xs.length
   ·obtain ⟨x, hxk⟩ : ∃ x, xs[k]? = some x := ⟨_, List.getElem?_eq_getElem hlt⟩
    obtain ⟨gx, ox, rfl, c1, c2, hxv⟩ := (Ha.out.z.grow hg) k x hxk; have hmem := List.mem_of_getElem? hxk; have hlx := A2.out x hmem; have cb := fun W (h : za wr W) => kJ x.row x.A x.cap W (by omega) (hxv.grow h)
    have cf := fun W => Hf.out x.w W (A4.out x hmem).1 (A4.out x hmem).2
    have es := Xn f hxk; rw [<- Map.out] at es; have Es := Lib.hid es; obtain ⟨m, hm⟩ : ∃ m, f x.w = m := ⟨_, rfl⟩
    rw [hm] at cf; have Hm := Lib.hid hm; clear hxk hxv hmem es hm; go_upto_region 8 with fail
    refine zc (fun X => zb X wr.heap.size 62 #[.slice x.A x.row.length x.cap, .int .i64 x.w] /\ za wr X) ⟨zb.new _ _ _, (za.refl wr).al _⟩ ?_; rintro X ⟨Bx, G⟩; obtain ⟨bx, fx⟩ := Bx.rules; go_upto_region 9 with (go_at_call 49; (with_reducible refine (cf _).mono ?_); rintro e w3 ⟨rfl, hg3⟩); have Bx3 := Bx.grow hg3; obtain ⟨bx3, fx3⟩ := Bx3.rules; have G3 := G.trans hg3; have Own3 := Lib.hid (zl Own.out G3)
    by_cases hm0 : m = 0
    ·have dm : (m != 0) = false := by simpa using hm0
     go_wp2; go_roundw
     case rel => exact ⟨k + 1, out, by omega, by go_num, Own3.out, by rw [Es.out, Hm.out, if_neg (by simpa using hm0), List.append_nil], fun y hy => by obtain ⟨g, h1, h2⟩ := Dvs.out y hy; exact ⟨g, h1, h2.grow G3⟩, by omega, hg.trans G3⟩
     case measure => simp [intOf]; omega
    ·have dm : (m != 0) = true := by simpa using hm0
     go_wp2_with (first
      | (go_at_call 92; ((with_reducible refine (cb _ G3).mono ?_); rintro e w4 ⟨gi, rfl, hdv4, hge, hg4⟩; have Dv4 := Lib.hid hdv4; have Own4 := Lib.hid (zl Own3.out hg4); clear hdv4))
      | (at_builtin; refine zS rfl _ _ rfl w.heap.size _ out.length out rfl (Own4.out.alloc _) _ [I.mk (some ⟨gi, 0, none⟩) (zd x.row) x.row.length m] rfl (jJ (jM x.row) (zb.new _ _ _)) (by simp; omega) (by have := (hg.trans (G3.trans hg4)).size; simp; omega) ?_; intro v7 w7 own7 gr7))
     have G7 : za w w7 := zY ((hg.trans (G3.trans hg4)).al _) gr7 (Own4.out.alloc _); have Own7 := Lib.hid own7; have Dv7 := Lib.hid (DV.kept (Dv4.out.grow ((za.refl _).al _)) (Own4.out.alloc _) gr7)
     have Dvs7 : ∀ y ∈ out, ∃ g, y.A = some ⟨g, 0, none⟩ /\ DV w7 g y.row := fun y hy => by
      obtain ⟨g, h1, h2⟩ := Dvs.out y hy; exact ⟨g, h1, DV.kept (h2.grow ((G3.trans hg4).al _)) (Own4.out.alloc _) gr7⟩
     have DVS7 := Lib.hid Dvs7; clear own7 gr7 Dvs7; go_roundw
     case rel =>
      refine ⟨k + 1, out ++ [I.mk (some ⟨gi, 0, none⟩) (zd x.row) x.row.length m], by omega, by go_num, by simpa using Own7.out, ?_, fun y hy => ?_, by simp; omega, G7⟩
      ·rw [Es.out, Hm.out, if_pos hm0]; simp [zj]
      ·rcases List.mem_append.1 hy with hy | hy
       ·exact DVS7.out y hy
       ·simp at hy; subst hy; exact ⟨gi, rfl, Dv7.out⟩
     case measure => simp [intOf]; omega
   ·obtain rfl : k = xs.length := by omega
    obtain ⟨B, cap, rfl, hz, hk2⟩ := Yh Own.out (fun y hy => by obtain ⟨g, h1, h2⟩ := Dvs.out y hy; rw [h1]; exact h2.vsl); have Out := Lib.hid (And.intro hz hk2); have hm2 : out.map zj = yq f (xs.map zj) := by rw [Map.out, List.take_length]
    have Hm2 := Lib.hid hm2; clear hz hk2 hm2; go_wp2; refine bodyPost_ret (by simp [results, Tryz.results48, go_sem] <;> rfl) rfl ?_; exact ⟨B, out, cap, by rw [Fin.out], Out.out.1, by rw [Fin.out]; exact Hm2.out, Out.out.2, hg⟩
 ·have d0 : (E != 0) = true := by simpa using h0
  go_wp2; refine bodyPost_ret (by simp [results, Tryz.results48, go_sem] <;> rfl) rfl ?_; have e : zP f (xs.map zj) = ([], E) := by unfold zP; rw [HE.out, if_pos h0]
  exact ⟨none, [], 0, by rw [e]; rfl, yd _ _, by rw [e]; rfl, yw.nil, G2⟩
theorem zaJ (n : Int) (w : World) (h1 : -1000000 <= n) (h2 : n <= 1000000) : Calls Tryz.prog 193 #[.int .i64 n] w fun e w' => e = .returned (.int .i64 (-n)) /\ za w w' := by
 have hwp : IntKind.i64.wrap (-n) = -n := by rw [IntKind.wrap_i64]; omega
 go_enter Tryz.func193, Tryz.ntmps193; go_wp2; go_ret; exact zA rfl (za.refl _)
theorem Dh (n : Int) (w : World) (h1 : -1000000 <= n) (h2 : n <= 1000000) : Calls Tryz.prog 155 #[.int .i64 n] w fun e w' => e = .returned (.int .i64 (yJ n)) /\ za w w' := by
 go_enter Tryz.func155, Tryz.ntmps155
 by_cases h : n < 0
 ·have e : yJ n = 0 := by unfold yJ; rw [if_pos h]
  rw [e]; go_wp2; go_ret; exact zA (by omega) (za.refl _)
 ·have e : yJ n = n := by unfold yJ; rw [if_neg h]
  rw [e]; go_wp2; go_ret; exact zA (by omega) (za.refl _)
theorem zaq (n : Int) (w : World) (h1 : -1000000 <= n) (h2 : n <= 1000000) : Calls Tryz.prog 49 #[.int .i64 n] w fun e w' => e = .returned (.int .i64 (yB n)) /\ za w w' := by
 go_enter Tryz.func49, Tryz.ntmps49
 by_cases h : 0 < n
 ·have e : yB n = 1 := by unfold yB; rw [if_pos h]
  rw [e]; go_wp2; go_ret; exact zA (by omega) (za.refl _)
 ·have e : yB n = 0 := by unfold yB; rw [if_neg h]
  rw [e]; go_wp2; go_ret; exact zA (by omega) (za.refl _)
theorem Fz (a : S) (w : World) (ha : In w a) :
  Calls Tryz.prog 154 #[.slice a.A a.xs.length a.cap] w fun en w' => yu w w' en (zP (fun n => -n) a.z) := by
 have cs := Bq (fun n => -n) (fun n W h1 h2 => zaJ n W h1 h2) a.A a.xs a.cap w ha; go_enter Tryz.func154, Tryz.ntmps154
 go_wp2_with (go_at_call 48; ((with_reducible refine cs.mono ?_); rintro en w3 ⟨C, zs, cap2, rfl, hz3, hm, hk3, hg3⟩; have Fin := Lib.hid (And.intro hz3 (And.intro hm hk3)); clear hz3 hm hk3))
 refine bodyPost_ret (by simp [results, Tryz.results154, go_sem] <;> rfl) rfl ?_; exact ⟨C, zs, cap2, rfl, Fin.out.1, Fin.out.2.1, Fin.out.2.2, hg3⟩
theorem FX (a : S) (w : World) (ha : In w a) :
  Calls Tryz.prog 115 #[.slice a.A a.xs.length a.cap] w fun en w' => yu w w' en (zP yJ a.z) := by
 have cs := Bt yJ (fun n W h1 h2 => Dh n W h1 h2) a.A a.xs a.cap w ha; go_enter Tryz.func115, Tryz.ntmps115
 go_wp2_with (go_at_call 48; ((with_reducible refine cs.mono ?_); rintro en w3 ⟨C, zs, cap2, rfl, hz3, hm, hk3, hg3⟩; have Fin := Lib.hid (And.intro hz3 (And.intro hm hk3)); clear hz3 hm hk3))
 refine bodyPost_ret (by simp [results, Tryz.results115, go_sem] <;> rfl) rfl ?_; exact ⟨C, zs, cap2, rfl, Fin.out.1, Fin.out.2.1, Fin.out.2.2, hg3⟩
theorem W7 (a : S) (w : World) (ha : In w a) :
  Calls Tryz.prog 22 #[.slice a.A a.xs.length a.cap] w fun en w' => yu w w' en (zP yB a.z) := by
 have cs := Bn yB (fun n W h1 h2 => zaq n W h1 h2) a.A a.xs a.cap w ha; go_enter Tryz.func22, Tryz.ntmps22
 go_wp2_with (go_at_call 48; ((with_reducible refine cs.mono ?_); rintro en w3 ⟨C, zs, cap2, rfl, hz3, hm, hk3, hg3⟩; have Fin := Lib.hid (And.intro hz3 (And.intro hm hk3)); clear hz3 hm hk3))
 refine bodyPost_ret (by simp [results, Tryz.results22, go_sem] <;> rfl) rfl ?_; exact ⟨C, zs, cap2, rfl, Fin.out.1, Fin.out.2.1, Fin.out.2.2, hg3⟩
theorem In.of {w : World} {B : Option Addr} {ys : List I} {cap : Nat} (hz : xF w B ys) (hk : yw B ys.length cap) (h : zu (ys.map zj) = 0) : In w ⟨B, ys, cap⟩ := by
 obtain ⟨a1, a2, a3, a4⟩ := S.facts (s := ⟨B, ys, cap⟩) h; exact ⟨hz, hk, by show ys.length <= _; have : ys.length <= 400 := a1; omega, fun x hx => by have := a2 x hx; omega⟩
theorem Vz {a b : List Z} (ha : zu a = 0) (hb : zu b = 0) : yI a b (-1) = yN (a ++ yq (fun n => -n) b) /\ zu (yq (fun n => -n) b) = 0 := by
 have sa := SM.of ha; have sb := SM.of hb; obtain ⟨s, e, _, ss, _⟩ := zaK sb (by omega) (by omega); unfold zP at e; rw [if_neg (by rw [hb]; simp)] at e; have e1 : yq (fun n => -n) b = s := (Prod.mk.inj e).1; refine ⟨?_, by rw [e1]; exact ss.rz (by omega) (by omega)⟩; unfold yI yN; rw [if_neg (by rw [ha]; simp), if_neg (by rw [hb]; simp)]; congr 1; refine PU (fun x hx => ((qX sa.ok (YN sb.ok (-1))) x hx).2) (fun x hx => ((qX sa.ok (J0 sb.ok _)) x hx).2) (fun q => ?_); rw [jc, jc, T2]; congr 1; have : xl (-1) b = b.map (fun x => (x.1, -x.2)) := by simp [xl]
 rw [this]
theorem Gq (a b : S) (w : World) (ha : In w a) (hb : In w b) :
  Calls Tryz.prog 114 #[.slice a.A a.xs.length a.cap, .slice b.A b.xs.length b.cap] w fun en w' => yu w w' en (yI a.z b.z (-1)) := by
 have Ha := Lib.hid ha; have Hb := Lib.hid hb; clear ha hb; go_enter Tryz.func114, Tryz.ntmps114; obtain ⟨E, hE⟩ : ∃ E, xW [a.z, b.z] = E := ⟨_, rfl⟩
 have cr := fun W (h1 : zb W w.heap.size 38 #[.slice a.A a.xs.length a.cap, .slice b.A b.xs.length b.cap]) (hg : za w W) => KE a b w.heap.size W _ h1 (Ha.out.grow hg) (Hb.out.grow hg)
 rw [hE] at cr; have HE := Lib.hid hE; clear hE; go_upto_region 2 with (go_at_call 51; ((with_reducible refine (cr _ (zb.new _ _ _) (by with_reducible repeat (first | exact za.refl _ | assumption | refine za.set ?_ (by simp <;> omega) _ | refine za.al ?_ _ | refine za.drew ?_ | refine za.drewN ?_ _ | refine za.trans ?_ (by assumption)))).mono ?_); rintro e w2 ⟨rfl, hg2⟩)); have G2 := ((za.refl w).al _).trans hg2; clear cr
 by_cases h0 : E = 0
 ·have d0 : (E != 0) = false := by simpa using h0
  obtain ⟨ra, rb⟩ := L8 (HE.out.trans h0); obtain ⟨a1, a2, a3, a4⟩ := S.facts ra; have fin := Vz ra rb; have en : zP (fun n => -n) b.z = (yq (fun n => -n) b.z, 0) := by unfold zP; rw [if_neg (by rw [rb]; simp)]
  have cn := fun W (h : za w W) => Fz b W (Hb.out.grow h)
  rw [en] at cn; have Fin := Lib.hid fin; have Ra := Lib.hid ra; clear fin ra rb a2 a3 a4 en; go_upto_region 5 with (go_at_call 154; ((with_reducible refine (cn _ G2).mono ?_); rintro e w3 ⟨B, ys, cap, rfl, hz3, hm3, hk3, hg3⟩; have Y := Lib.hid (And.intro hz3 (And.intro hm3 hk3)); clear hz3 hm3 hk3)); have G3 := G2.trans hg3; have ry : zu (ys.map zj) = 0 := by rw [Y.out.2.1]; exact Fin.out.2
  have iy := In.of Y.out.1 Y.out.2.2 ry; obtain ⟨b1, _⟩ := S.facts (s := ⟨B, ys, cap⟩) ry; have b1 : ys.length <= 400 := b1; have cc := fun W (h1 : zb W w3.heap.size 38 #[.slice a.A a.xs.length a.cap, .slice B ys.length cap]) (hg : za w3 W) => Jy a ⟨B, ys, cap⟩ w3.heap.size W _ h1 (Ha.out.grow (G3.trans hg)) (iy.grow hg) (by show a.xs.length + ys.length <= _; omega)
  have cs := fun B' cap' W hz => TT a ⟨B, ys, cap⟩ B' cap' W hz Ra.out ry
  have e2 : yI a.z b.z (-1) = yN (a.z ++ S.z ⟨B, ys, cap⟩) := by rw [Fin.out.1]; congr 2; exact Y.out.2.1.symm
  have E2 := Lib.hid e2; clear e2 ry iy
  go_wp2_with (first
   | (go_at_call 53; ((with_reducible refine (cc _ (zb.new _ _ _) ((za.refl _).al _)).mono ?_); rintro e w4 ⟨D, cap4, rfl, hz4, hk4, hg4⟩; have Hz4 := Lib.hid hz4; clear hz4 hk4))
   | (go_at_call 52; ((with_reducible refine (cs _ _ _ Hz4.out).mono ?_); rintro e w5 ⟨C, zs, cap5, rfl, hz5, hm5, hk5, hg5⟩; have Out := Lib.hid (And.intro hz5 (And.intro hm5 hk5)); clear hz5 hm5 hk5)))
  refine bodyPost_ret (by simp [results, Tryz.results114, go_sem] <;> rfl) rfl ?_; exact ⟨C, zs, cap5, by rw [E2.out], Out.out.1, by rw [E2.out]; exact Out.out.2.1, Out.out.2.2, ((G3.al _).trans hg4).trans hg5⟩
 ·have d0 : (E != 0) = true := by simpa using h0
  go_wp2; refine bodyPost_ret (by simp [results, Tryz.results114, go_sem] <;> rfl) rfl ?_; have e : yI a.z b.z (-1) = ([], E) := by rw [Ms, HE.out, if_pos h0]
  exact ⟨none, [], 0, by rw [e]; rfl, yd _ _, by rw [e]; rfl, yw.nil, G2⟩
end Go.Proofs.YtcaedcpjdmlilaaGreat

