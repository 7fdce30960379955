/-
 Joined texts of this claim: OpE, Pt. What each proves its own head says; no condition beside those that each theorem names.
-/
import Derived.Test.YtcaedcpjdmlilaaGreatGVb
set_option maxRecDepth 100000
set_option maxHeartbeats 4000000
namespace Go.Proofs.YtcaedcpjdmlilaaGreat
open Go.RowKit Go.Calm
set_option linter.unusedSimpArgs false
set_option linter.unusedVariables false
def xK (want : Bool) (l r : List Int) (x : E) (a b : List Z) : List Z × Int := if xC l r x a b ≠ 0 then ([], xC l r x a b) else yN (a.filter (fun p => js x b p == want))
def Yb (l r : List Int) (x : E) (a b : List Z) : List Z × Int := if xC l r x a b ≠ 0 then ([], xC l r x a b) else yN (qY r.length x a b)
theorem PR : RV yf := qg
theorem PG {l r : List Int} {x : E} {a b : S} {ys : List I} (h0 : xC l r x a.z b.z = 0) (m : ys.map zj = qY r.length x a.z b.z) : ys.length <= 160400 /\ (∀ y ∈ ys, y.row.length <= 8) /\ (∀ y ∈ ys, ∀ v ∈ y.row, RV v) /\ ∀ y ∈ ys, -1000000000000 <= y.w /\ y.w <= 1000000000000 := by
 have ok := Kq h0; obtain ⟨h8, hc, ha, hb⟩ := yM h0; have fa := zp ha
 have mem : ∀ y ∈ ys, (∃ p ∈ a.xs, ∃ q ∈ b.xs, y.row = p.row ++ q.row /\ y.w = p.w * q.w) \/ ∃ p ∈ a.xs, y.row = p.row ++ List.replicate r.length yf /\ y.w = p.w := fun y hy => by
  have h : zj y ∈ qY r.length x a.z b.z := by rw [<- m]; exact List.mem_map_of_mem hy
  rcases List.mem_append.1 h with h | h
  ·left; obtain ⟨p, hp, q, hq, e⟩ := QZ h; obtain ⟨p', hp', rfl⟩ := List.mem_map.1 hp; obtain ⟨q', hq', rfl⟩ := List.mem_map.1 hq; exact ⟨p', hp', q', hq', congrArg Prod.fst e, congrArg Prod.snd e⟩
  ·right; obtain ⟨p, hp, e⟩ := List.mem_map.1 h; obtain ⟨p', hp', rfl⟩ := List.mem_map.1 (List.mem_filter.1 hp).1; exact ⟨p', hp', (congrArg Prod.fst e).symm, (congrArg Prod.snd e).symm⟩
 refine ⟨?_, fun y hy => ?_, fun y hy => ?_, fun y hy => ?_⟩
 ·have h1 := congrArg List.length m; have h2 := QY x a.z b.z; have h3 := ok.la; have h4 := ok.lb; have h5 := List.length_filter_le (fun p => js x b.z p == false) a.z; unfold qY at h1; simp only [List.length_append, List.length_map] at h1; have e1 : a.z.length = a.xs.length := by simp [S.z]
  have e2 : b.z.length = b.xs.length := by simp [S.z]
  rw [e1, e2] at h2; rw [e1] at h5; have := Nat.mul_le_mul h3 h4; omega
 ·rcases mem y hy with ⟨p, hp, q, hq, e, _⟩ | ⟨p, hp, e, _⟩
  ·rw [e]; exact (ok.re p hp q hq).2.2
  ·rw [e]; have := ((yP _ _).1 (fa.2.2 (zj p) (List.mem_map_of_mem hp))).1; have : p.row.length = l.length := this; simp; omega
 ·rcases mem y hy with ⟨p, hp, q, hq, e, _⟩ | ⟨p, hp, e, _⟩
  ·rw [e]; exact (ok.re p hp q hq).2.1
  ·rw [e]; intro v hv; rcases List.mem_append.1 hv with hv | hv
   ·exact ok.va p hp v hv
   ·rw [(List.mem_replicate.1 hv).2]; exact PR
 ·rcases mem y hy with ⟨p, hp, q, hq, _, e⟩ | ⟨p, hp, _, e⟩
  ·rw [e]; obtain ⟨h1, h2⟩ := ok.wa p hp; obtain ⟨h3, h4⟩ := ok.wb q hq; have ha : (p.w).natAbs <= 1000000 := by omega
   have hb : (q.w).natAbs <= 1000000 := by omega
   have : (p.w * q.w).natAbs <= 1000000 * 1000000 := by rw [Int.natAbs_mul]; exact Nat.mul_le_mul ha hb
   omega
  ·rw [e]; have := ok.wa p hp; omega
theorem Dz (l r : L2 Int) (x : E) (a b : S) (w : World) (hll : l.xs.length <= 140737488355328) (hlr : r.xs.length <= 140737488355328) (hl : xe w l.A l.xs) (hr : xe w r.A r.xs) (hE : EX w x) (ha : In w a) (hb : In w b) :
  Calls Tryz.prog 111 #[.slice l.A l.xs.length l.cap, .slice r.A r.xs.length r.cap, x.val, .slice a.A a.xs.length a.cap, .slice b.A b.xs.length b.cap] w fun en w' => yu w w' en (xK true l.xs r.xs x a.z b.z) := by
 have HX := Lib.hid hE; have Ha := Lib.hid ha; have Hb := Lib.hid hb; have ct := fun W (hg : za w W) => Ji l r x a b W hll hlr (hl.grow hg) (hr.grow hg) (hE.grow hg) (ha.grow hg) (hb.grow hg)
 obtain ⟨E2, hE2⟩ : ∃ e, xC l.xs r.xs x a.z b.z = e := ⟨_, rfl⟩
 rw [hE2] at ct; obtain ⟨Q, hQ⟩ : ∃ Q, xK true l.xs r.xs x a.z b.z = Q := ⟨_, rfl⟩
 rw [hQ]; have fin : Q = if E2 ≠ 0 then ([], E2) else yN (a.z.filter (fun p => js x b.z p == true)) := by rw [<- hQ]; unfold xK; rw [hE2]
 have Fin := Lib.hid fin; have H2 := Lib.hid hE2; have HE : ∀ W g, zb W g 27 #[.int .i64 x.kind, .int .i64 x.v.k, .int .i64 x.v.n, .string x.v.s, .int .i64 x.col, .slice x.A x.n x.cap] -> zv W g 0 x := fun W g B => ⟨B.cells rfl, B.cells rfl, B.cells rfl, B.cells rfl, B.cells rfl, B.cells rfl⟩
 clear hl hr hE ha hb hE2 hQ fin; unfold E.val at *; go_enter Tryz.func111, Tryz.ntmps111; go_upto_region 1 with fail
 refine zc (fun X => zb X w.heap.size 27 #[.int .i64 x.kind, .int .i64 x.v.k, .int .i64 x.v.n, .string x.v.s, .int .i64 x.col, .slice x.A x.n x.cap] /\ za w X) ⟨zb.new _ _ _, (za.refl w).al _⟩ ?_; rintro X ⟨Bx, G⟩; obtain ⟨bx, fx⟩ := Bx.rules
 by_cases h0 : E2 = 0
 ·subst h0; have eQ : Q = yN (a.z.filter (fun p => js x b.z p == true)) := by rw [Fin.out]; simp
  have EQ := Lib.hid eQ; clear eQ; go_upto_region 4 with (go_at_call 149; ((with_reducible refine (ct _ G).mono ?_); rintro e w2 ⟨rfl, hg2⟩)); have G2 := Lib.hid (G.trans hg2); have ok := Lib.hid (Kq H2.out); have cm := MP w.heap.size 0 x a b w2 (HX.out.grow G2.out) (HE _ _ (Bx.grow hg2)) (Ha.out.z.grow G2.out) (Hb.out.z.grow G2.out) ok.out; obtain ⟨m, hm⟩ : ∃ m : I -> Bool, m = fun y => js x b.z (zj y) := ⟨_, rfl⟩
  rw [<- hm] at cm; have cc := fun g W (h : za w2 W) (hf : BV W g (a.xs.map m)) => Zs a.xs a.A a.cap m g true W ok.out.la (Ha.out.z.grow (G2.out.trans h)) hf
  obtain ⟨ys, hys⟩ : ∃ l, a.xs.filter (fun y => m y == true) = l := ⟨_, rfl⟩
  simp only [hys] at cc; have mem : ∀ y ∈ ys, y ∈ a.xs := fun y hy => by rw [<- hys] at hy; exact (List.mem_filter.1 hy).1
  have ly : ys.length <= 400 := by rw [<- hys]; have := List.length_filter_le (fun y => m y == true) a.xs; have := ok.out.la; omega
  have my : ys.map zj = a.z.filter (fun p => js x b.z p == true) := by rw [<- hys, hm]; exact Zt _ _ _ _
  have Mem := Lib.hid mem; have My := Lib.hid my; clear ct bx fx hm hys mem my
  go_wp2_with (first
   | (go_at_call 152; (with_reducible refine cm.mono ?_); rintro e w3 ⟨gf, rfl, bv3, hg3⟩)
   | (go_at_call 151; (with_reducible refine (cc gf _ hg3 bv3).mono ?_); rintro e w4 ⟨B, cap, rfl, own4, hg4⟩; have zs := M5 own4 (fun y hy => (Ha.out.z.vsl y (Mem.out y hy)).grow (G2.out.trans (hg3.trans hg4))); have cs := kF ys B cap w4 (by omega) zs (fun y hy => by have := ok.out.ra y (Mem.out y hy); omega) (fun y hy => ok.out.va y (Mem.out y hy)) (fun y hy => ok.out.wa y (Mem.out y hy)); rw [My.out, <- EQ.out] at cs; clear own4 zs bv3)
   | (go_at_call 52; ((with_reducible refine cs.mono ?_); rintro en w5 ⟨C, zs, cap2, rfl, hz3, hm3, hk3, hg5⟩; have Out := Lib.hid (And.intro hz3 (And.intro hm3 hk3)); clear hz3 hm3 hk3)))
  refine bodyPost_ret (by simp [results, Tryz.results111, go_sem] <;> rfl) rfl ?_; exact ⟨C, zs, cap2, rfl, Out.out.1, Out.out.2.1, Out.out.2.2, G2.out.trans (hg3.trans (hg4.trans hg5))⟩
 ·have d0 : (E2 != 0) = true := by simpa using h0
  have eQ : Q = ([], E2) := by rw [Fin.out, if_pos h0]
  go_wp2_with (go_at_call 149; ((with_reducible refine (ct _ G).mono ?_); rintro e w2 ⟨rfl, hg2⟩))
  refine bodyPost_ret (by simp [results, Tryz.results111, go_sem] <;> rfl) rfl ?_; exact ⟨none, [], 0, by rw [eQ]; rfl, yd _ _, by rw [eQ]; rfl, yw.nil, G.trans hg2⟩
theorem VV (l r : L2 Int) (x : E) (a b : S) (w : World) (hll : l.xs.length <= 140737488355328) (hlr : r.xs.length <= 140737488355328) (hl : xe w l.A l.xs) (hr : xe w r.A r.xs) (hE : EX w x) (ha : In w a) (hb : In w b) :
  Calls Tryz.prog 112 #[.slice l.A l.xs.length l.cap, .slice r.A r.xs.length r.cap, x.val, .slice a.A a.xs.length a.cap, .slice b.A b.xs.length b.cap] w fun en w' => yu w w' en (xK false l.xs r.xs x a.z b.z) := by
 have HX := Lib.hid hE; have Ha := Lib.hid ha; have Hb := Lib.hid hb; have ct := fun W (hg : za w W) => Ji l r x a b W hll hlr (hl.grow hg) (hr.grow hg) (hE.grow hg) (ha.grow hg) (hb.grow hg)
 obtain ⟨E2, hE2⟩ : ∃ e, xC l.xs r.xs x a.z b.z = e := ⟨_, rfl⟩
 rw [hE2] at ct; obtain ⟨Q, hQ⟩ : ∃ Q, xK false l.xs r.xs x a.z b.z = Q := ⟨_, rfl⟩
 rw [hQ]; have fin : Q = if E2 ≠ 0 then ([], E2) else yN (a.z.filter (fun p => js x b.z p == false)) := by rw [<- hQ]; unfold xK; rw [hE2]
 have Fin := Lib.hid fin; have H2 := Lib.hid hE2; have HE : ∀ W g, zb W g 27 #[.int .i64 x.kind, .int .i64 x.v.k, .int .i64 x.v.n, .string x.v.s, .int .i64 x.col, .slice x.A x.n x.cap] -> zv W g 0 x := fun W g B => ⟨B.cells rfl, B.cells rfl, B.cells rfl, B.cells rfl, B.cells rfl, B.cells rfl⟩
 clear hl hr hE ha hb hE2 hQ fin; unfold E.val at *; go_enter Tryz.func112, Tryz.ntmps112; go_upto_region 1 with fail
 refine zc (fun X => zb X w.heap.size 27 #[.int .i64 x.kind, .int .i64 x.v.k, .int .i64 x.v.n, .string x.v.s, .int .i64 x.col, .slice x.A x.n x.cap] /\ za w X) ⟨zb.new _ _ _, (za.refl w).al _⟩ ?_; rintro X ⟨Bx, G⟩; obtain ⟨bx, fx⟩ := Bx.rules
 by_cases h0 : E2 = 0
 ·subst h0; have eQ : Q = yN (a.z.filter (fun p => js x b.z p == false)) := by rw [Fin.out]; simp
  have EQ := Lib.hid eQ; clear eQ; go_upto_region 4 with (go_at_call 149; ((with_reducible refine (ct _ G).mono ?_); rintro e w2 ⟨rfl, hg2⟩)); have G2 := Lib.hid (G.trans hg2); have ok := Lib.hid (Kq H2.out); have cm := MP w.heap.size 0 x a b w2 (HX.out.grow G2.out) (HE _ _ (Bx.grow hg2)) (Ha.out.z.grow G2.out) (Hb.out.z.grow G2.out) ok.out; obtain ⟨m, hm⟩ : ∃ m : I -> Bool, m = fun y => js x b.z (zj y) := ⟨_, rfl⟩
  rw [<- hm] at cm; have cc := fun g W (h : za w2 W) (hf : BV W g (a.xs.map m)) => Zs a.xs a.A a.cap m g false W ok.out.la (Ha.out.z.grow (G2.out.trans h)) hf
  obtain ⟨ys, hys⟩ : ∃ l, a.xs.filter (fun y => m y == false) = l := ⟨_, rfl⟩
  simp only [hys] at cc; have mem : ∀ y ∈ ys, y ∈ a.xs := fun y hy => by rw [<- hys] at hy; exact (List.mem_filter.1 hy).1
  have ly : ys.length <= 400 := by rw [<- hys]; have := List.length_filter_le (fun y => m y == false) a.xs; have := ok.out.la; omega
  have my : ys.map zj = a.z.filter (fun p => js x b.z p == false) := by rw [<- hys, hm]; exact Zt _ _ _ _
  have Mem := Lib.hid mem; have My := Lib.hid my; clear ct bx fx hm hys mem my
  go_wp2_with (first
   | (go_at_call 152; (with_reducible refine cm.mono ?_); rintro e w3 ⟨gf, rfl, bv3, hg3⟩)
   | (go_at_call 151; (with_reducible refine (cc gf _ hg3 bv3).mono ?_); rintro e w4 ⟨B, cap, rfl, own4, hg4⟩; have zs := M5 own4 (fun y hy => (Ha.out.z.vsl y (Mem.out y hy)).grow (G2.out.trans (hg3.trans hg4))); have cs := kF ys B cap w4 (by omega) zs (fun y hy => by have := ok.out.ra y (Mem.out y hy); omega) (fun y hy => ok.out.va y (Mem.out y hy)) (fun y hy => ok.out.wa y (Mem.out y hy)); rw [My.out, <- EQ.out] at cs; clear own4 zs bv3)
   | (go_at_call 52; ((with_reducible refine cs.mono ?_); rintro en w5 ⟨C, zs, cap2, rfl, hz3, hm3, hk3, hg5⟩; have Out := Lib.hid (And.intro hz3 (And.intro hm3 hk3)); clear hz3 hm3 hk3)))
  refine bodyPost_ret (by simp [results, Tryz.results112, go_sem] <;> rfl) rfl ?_; exact ⟨C, zs, cap2, rfl, Out.out.1, Out.out.2.1, Out.out.2.2, G2.out.trans (hg3.trans (hg4.trans hg5))⟩
 ·have d0 : (E2 != 0) = true := by simpa using h0
  have eQ : Q = ([], E2) := by rw [Fin.out, if_pos h0]
  go_wp2_with (go_at_call 149; ((with_reducible refine (ct _ G).mono ?_); rintro e w2 ⟨rfl, hg2⟩))
  refine bodyPost_ret (by simp [results, Tryz.results112, go_sem] <;> rfl) rfl ?_; exact ⟨none, [], 0, by rw [eQ]; rfl, yd _ _, by rw [eQ]; rfl, yw.nil, G.trans hg2⟩
theorem Cv (l r : L2 Int) (x : E) (a b : S) (w : World) (hll : l.xs.length <= 140737488355328) (hlr : r.xs.length <= 140737488355328) (hl : xe w l.A l.xs) (hr : xe w r.A r.xs) (hE : EX w x) (ha : In w a) (hb : In w b) :
  Calls Tryz.prog 113 #[.slice l.A l.xs.length l.cap, .slice r.A r.xs.length r.cap, x.val, .slice a.A a.xs.length a.cap, .slice b.A b.xs.length b.cap] w fun en w' => yu w w' en (Yb l.xs r.xs x a.z b.z) := by
 have HX := Lib.hid hE; have Ha := Lib.hid ha; have Hb := Lib.hid hb; have ct := fun W (hg : za w W) => Ji l r x a b W hll hlr (hl.grow hg) (hr.grow hg) (hE.grow hg) (ha.grow hg) (hb.grow hg)
 obtain ⟨E2, hE2⟩ : ∃ e, xC l.xs r.xs x a.z b.z = e := ⟨_, rfl⟩
 rw [hE2] at ct; obtain ⟨Q, hQ⟩ : ∃ Q, Yb l.xs r.xs x a.z b.z = Q := ⟨_, rfl⟩
 rw [hQ]; have fin : Q = if E2 ≠ 0 then ([], E2) else yN (qY r.xs.length x a.z b.z) := by rw [<- hQ]; unfold Yb; rw [hE2]
 have Fin := Lib.hid fin; have H2 := Lib.hid hE2; have HE : ∀ W g, zb W g 27 #[.int .i64 x.kind, .int .i64 x.v.k, .int .i64 x.v.n, .string x.v.s, .int .i64 x.col, .slice x.A x.n x.cap] -> zv W g 0 x := fun W g B => ⟨B.cells rfl, B.cells rfl, B.cells rfl, B.cells rfl, B.cells rfl, B.cells rfl⟩
 clear hl hr hE ha hb hE2 hQ fin; unfold E.val at *; go_enter Tryz.func113, Tryz.ntmps113; go_upto_region 1 with fail
 refine zc (fun X => zb X w.heap.size 27 #[.int .i64 x.kind, .int .i64 x.v.k, .int .i64 x.v.n, .string x.v.s, .int .i64 x.col, .slice x.A x.n x.cap] /\ za w X) ⟨zb.new _ _ _, (za.refl w).al _⟩ ?_; rintro X ⟨Bx, G⟩; obtain ⟨bx, fx⟩ := Bx.rules
 by_cases h0 : E2 = 0
 ·subst h0; have eQ : Q = yN (qY r.xs.length x a.z b.z) := by rw [Fin.out]; simp
  have EQ := Lib.hid eQ; clear eQ; go_upto_region 4 with (go_at_call 149; ((with_reducible refine (ct _ G).mono ?_); rintro e w2 ⟨rfl, hg2⟩)); have G2 := Lib.hid (G.trans hg2); have ok := Lib.hid (Kq H2.out); have lr8 : r.xs.length <= 8 := by have := (yM H2.out).1; omega
  have co := Vd w.heap.size 0 x r.xs.length a b w2 lr8 (HX.out.grow G2.out) (HE _ _ (Bx.grow hg2)) (Ha.out.z.grow G2.out) (Hb.out.z.grow G2.out) ok.out; clear ct bx fx
  go_wp2_with (first
   | (go_at_call 153; (with_reducible refine co.mono ?_); rintro e w3 ⟨B, ys, cap, rfl, own3, El, m3, hg3⟩; have zs := Da own3 El; have fa := PG H2.out m3; have cs := Nm ys B cap w3 (by have := fa.1; omega) zs.1 (fun y hy => by have := fa.2.1 y hy; omega) fa.2.2.1 fa.2.2.2; rw [m3, <- EQ.out] at cs; clear own3 El m3 zs fa)
   | (go_at_call 52; ((with_reducible refine cs.mono ?_); rintro en w4 ⟨C, zs, cap2, rfl, hz3, hm3, hk3, hg4⟩; have Out := Lib.hid (And.intro hz3 (And.intro hm3 hk3)); clear hz3 hm3 hk3)))
  refine bodyPost_ret (by simp [results, Tryz.results113, go_sem] <;> rfl) rfl ?_; exact ⟨C, zs, cap2, rfl, Out.out.1, Out.out.2.1, Out.out.2.2, G2.out.trans (hg3.trans hg4)⟩
 ·have d0 : (E2 != 0) = true := by simpa using h0
  have eQ : Q = ([], E2) := by rw [Fin.out, if_pos h0]
  go_wp2_with (go_at_call 149; ((with_reducible refine (ct _ G).mono ?_); rintro e w2 ⟨rfl, hg2⟩))
  refine bodyPost_ret (by simp [results, Tryz.results113, go_sem] <;> rfl) rfl ?_; exact ⟨none, [], 0, by rw [eQ]; rfl, yd _ _, by rw [eQ]; rfl, yw.nil, G.trans hg2⟩
def KU (x : E) (b : List Z) (r : List V) : Bool := b.any (fun q => zw x (r ++ q.1) && decide (0 < q.2))
theorem Ss (x : E) (b : List Z) {r q : List V} (h : zd r = zd q) : KU x b r = KU x b q := by
 unfold KU; congr 1; funext p; rw [qz x (show zd (r ++ p.1) = zd (q ++ p.1) from by rw [jL, jL, h])]
theorem GN (want : Bool) (x : E) (b : List Z) (u : List V) (a : List Z) : yi (a.filter (fun p => js x b p == want)) u = if KU x b u == want then yi a u else 0 :=
 Y5 (fun r => KU x b r == want) (fun r q h => by rw [Ss x b h]) u a
theorem QE {want : Bool} {l r : List Int} {x : E} {a b : List Z} (h : xC l r x a b = 0) : xK want l r x a b = (xJ (a.filter (fun p => js x b p == want)), 0) /\ yp (xJ (a.filter (fun p => js x b p == want))) /\ zu (xJ (a.filter (fun p => js x b p == want))) = 0 /\ ∀ u, yi (xJ (a.filter (fun p => js x b p == want))) u = if KU x b u == want then yi a u else 0 := by
 obtain ⟨_, _, ha, _⟩ := yM h; obtain ⟨_, hw, _⟩ := zp ha; have sm := QX (SM.of hw) (fun p => js x b p == want); obtain ⟨e, c, s, w⟩ := SR (M := 1000000) (N := 400) sm.ok (fun q => D7 (by omega) sm.rv sm.up sm.bd q) sm.len (by omega) (by omega); refine ⟨?_, c, s.rz (by omega) (by omega), fun u => by rw [w, GN]⟩; unfold xK; rw [if_neg (by rw [h]; simp), e]
theorem Db {want : Bool} {l r : List Int} {x : E} {a b : List Z} (h : xC l r x a b ≠ 0) : xK want l r x a b = ([], xC l r x a b) := by
 unfold xK; rw [if_pos h]
theorem Ve {l r : List Int} {x : E} {a b : List Z} (h : xC l r x a b = 0) : QC (qY r.length x a b) := by
 refine qX (JU h) (fun y hy => ?_); obtain ⟨h8, _, ha, _⟩ := yM h; obtain ⟨_, hw, hf⟩ := zp ha; obtain ⟨z, hz, rfl⟩ := List.mem_map.1 hy; have hz := (List.mem_filter.1 hz).1; have lz := ((yP _ _).1 (hf z hz)).1; refine ⟨by simp [FP, lz]; omega, fun v hv => ?_⟩; rcases List.mem_append.1 hv with hv | hv
 ·exact ((SM.of hw).ok z hz).2 v hv
 ·rw [(List.mem_replicate.1 hv).2]; exact PR
end Go.Proofs.YtcaedcpjdmlilaaGreat

