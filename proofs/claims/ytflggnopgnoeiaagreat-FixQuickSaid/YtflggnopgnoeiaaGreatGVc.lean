/- Parts of a proof. No condition. -/
import Derived.Test.YtflggnopgnoeiaaGreatGVb
set_option maxRecDepth 100000
set_option maxHeartbeats 4000000
set_option maxRecDepth 100000
set_option linter.unusedSimpArgs false
set_option linter.unusedVariables false
namespace Go
variable {p : Prop}
theorem oH_ (h : p := by simp [results, Tryz.results168, go_sem] <;> rfl) : p := h
theorem oI_ (h : p := by simp [results, Tryz.results169, go_sem] <;> rfl) : p := h
theorem oJ_ (h : p := by simp [results, Tryz.results170, go_sem] <;> rfl) : p := h
theorem uM_ (h : p := by rw [h]; simp) : p := h
end Go
namespace Go.Proofs.YtflggnopgnoeiaaGreat
open Go.RowKit Go.Calm
def qJ (want : Bool) (l r : List Int) (x : E) (a b : List Z) : List Z × Int := if qv l r x a b ≠ 0 then ([], qv l r x a b) else yy (a.filter (fun p => kC x b p == want))
def Qj (l r : List Int) (x : E) (a b : List Z) : List Z × Int := if qv l r x a b ≠ 0 then ([], qv l r x a b) else yy (jf r.length x a b)
theorem Rj : RV yj := qu
theorem P5 {l r : List Int} {x : E} {a b : S} {ys : List I} (h0 : qv l r x a.z b.z = 0) (m : ys.map zh = jf r.length x a.z b.z) : ys.length <= 160400 /\ (∀ y ∈ ys, y.row.length <= 8) /\ (∀ y ∈ ys, ∀ v ∈ y.row, RV v) /\ ∀ y ∈ ys, -1000000000000 <= y.w /\ y.w <= 1000000000000 := by
 have ok := Kw h0; obtain ⟨h8, hc, ha, hb⟩ := xZ h0; have fa := zE ha
 have mem : ∀ y ∈ ys, (∃ p ∈ a.xs, ∃ q ∈ b.xs, y.row = p.row ++ q.row /\ y.w = p.w * q.w) \/ ∃ p ∈ a.xs, y.row = p.row ++ List.replicate r.length yj /\ y.w = p.w := fun y hy => by
  have h : zh y ∈ jf r.length x a.z b.z := by rw [<- m]; exact qZ9 hy
  rcases List.mem_append.1 h with h | h
  ·left; obtain ⟨p, hp, q, hq, e⟩ := Xi h; obtain ⟨p', hp', rfl⟩ := List.mem_map.1 hp; obtain ⟨q', hq', rfl⟩ := List.mem_map.1 hq; exact ⟨p', hp', q', hq', congrArg Prod.fst e, congrArg Prod.snd e⟩
  ·right; obtain ⟨p, hp, e⟩ := List.mem_map.1 h; obtain ⟨p', hp', rfl⟩ := List.mem_map.1 (List.mem_filter.1 hp).1; exact ⟨p', hp', (congrArg Prod.fst e).symm, (congrArg Prod.snd e).symm⟩
 refine ⟨?_, fun y hy => ?_, fun y hy => ?_, fun y hy => ?_⟩
 ·have h1 := congrArg List.length m; have h2 := QU x a.z b.z; have h3 := ok.la; have h4 := ok.lb; have h5 := List.length_filter_le (fun p => kC x b.z p == false) a.z; unfold jf at h1; simp only [List.length_append, List.length_map] at h1; have e1 : a.z.length = a.xs.length := by simp [S.z]
  have e2 : b.z.length = b.xs.length := by simp [S.z]
  rw [e1, e2] at h2; rw [e1] at h5; have := Nat.mul_le_mul h3 h4; omega
 ·rcases mem y hy with ⟨p, hp, q, hq, e, _⟩ | ⟨p, hp, e, _⟩
  ·rw [e]; exact (ok.re p hp q hq).2.2
  ·rw [e]; have := ((y7 _ _).1 (fa.2.2 (zh p) (qZ9 hp))).1; have : p.row.length = l.length := this; simp; omega
 ·rcases mem y hy with ⟨p, hp, q, hq, e, _⟩ | ⟨p, hp, e, _⟩
  ·rw [e]; exact (ok.re p hp q hq).2.1
  ·rw [e]; intro v hv; rcases List.mem_append.1 hv with hv | hv
   ·exact ok.va p hp v hv
   ·rw [(List.mem_replicate.1 hv).2]; exact Rj
 ·rcases mem y hy with ⟨p, hp, q, hq, _, e⟩ | ⟨p, hp, _, e⟩
  ·rw [e]; obtain ⟨h1, h2⟩ := ok.wa p hp; obtain ⟨h3, h4⟩ := ok.wb q hq; have ha : (p.w).natAbs <= 1000000 := by omega
   have hb : (q.w).natAbs <= 1000000 := by omega
   have : (p.w * q.w).natAbs <= 1000000 * 1000000 := by rw [Int.natAbs_mul]; exact Nat.mul_le_mul ha hb
   omega
  ·rw [e]; have := ok.wa p hp; omega
theorem E8 (l r : L2 Int) (x : E) (a b : S) (w : World) (hll : l.xs.length <= 140737488355328) (hlr : r.xs.length <= 140737488355328) (hl : yU w l.A l.xs) (hr : yU w r.A r.xs) (hE : EX w x) (ha : In w a) (hb : In w b) :
  Calls Tryz.prog 168 #[.slice l.A l.xs.length l.cap, .slice r.A r.xs.length r.cap, x.val, .slice a.A a.xs.length a.cap, .slice b.A b.xs.length b.cap] w fun en w' => yr w w' en (qJ true l.xs r.xs x a.z b.z) := by
 have HX := hh_ hE; have Ha := hh_ ha; have Hb := hh_ hb; have ct := fun W (hg : za w W) => Je l r x a b W hll hlr (hl.grow hg) (hr.grow hg) (hE.grow hg) (ha.grow hg) (hb.grow hg)
 obtain ⟨E2, hE2⟩ : ∃ e, qv l.xs r.xs x a.z b.z = e := ⟨_, rfl⟩
 rw [hE2] at ct; obtain ⟨Q, hQ⟩ : ∃ Q, qJ true l.xs r.xs x a.z b.z = Q := ⟨_, rfl⟩
 rw [hQ]; have fin : Q = if E2 ≠ 0 then ([], E2) else yy (a.z.filter (fun p => kC x b.z p == true)) := by rw [<- hQ]; unfold qJ; rw [hE2]
 have Fin := hh_ fin; have H2 := hh_ hE2; have HE : ∀ W g, zb W g 35 #[.int .i64 x.kind, .int .i64 x.v.k, .int .i64 x.v.n, .string x.v.s, .int .i64 x.col, .slice x.A x.n x.cap] -> zF W g 0 x := fun W g B => ⟨B.cells rfl, B.cells rfl, B.cells rfl, B.cells rfl, B.cells rfl, B.cells rfl⟩
 clear hl hr hE ha hb hE2 hQ fin; unfold E.val at *; go_enter Tryz.func168, Tryz.ntmps168; go_upto_region 1 with fail
 refine zc (fun X => zb X w.heap.size 35 #[.int .i64 x.kind, .int .i64 x.v.k, .int .i64 x.v.n, .string x.v.s, .int .i64 x.col, .slice x.A x.n x.cap] /\ za w X) ⟨zb.new _ _ _, (za.refl w).al _⟩ ?_; rintro X ⟨Bx, G⟩; obtain ⟨bx, fx⟩ := Bx.rules
 by_cases h0 : E2 = 0
 ·subst h0; have eQ : Q = yy (a.z.filter (fun p => kC x b.z p == true)) := by rw [Fin.out]; simp
  have EQ := hh_ eQ; clear eQ; go_upto_region 4 with (go_at_call 193; ((with_reducible refine (ct _ G).mono ?_); rintro e w2 ⟨rfl, hg2⟩)); have G2 := hh_ (G.trans hg2); have ok := hh_ (Kw H2.out); have cm := Nw w.heap.size 0 x a b w2 (HX.out.grow G2.out) (HE _ _ (Bx.grow hg2)) (Ha.out.z.grow G2.out) (Hb.out.z.grow G2.out) ok.out; obtain ⟨m, hm⟩ : ∃ m : I -> Bool, m = fun y => kC x b.z (zh y) := ⟨_, rfl⟩
  rw [<- hm] at cm; have cc := fun g W (h : za w2 W) (hf : BV W g (a.xs.map m)) => Zo a.xs a.A a.cap m g true W ok.out.la (Ha.out.z.grow (G2.out.trans h)) hf
  obtain ⟨ys, hys⟩ : ∃ l, a.xs.filter (fun y => m y == true) = l := ⟨_, rfl⟩
  simp only [hys] at cc; have mem : ∀ y ∈ ys, y ∈ a.xs := fun y hy => by rw [<- hys] at hy; exact (List.mem_filter.1 hy).1
  have ly : ys.length <= 400 := by rw [<- hys]; have := List.length_filter_le (fun y => m y == true) a.xs; have := ok.out.la; omega
  have my : ys.map zh = a.z.filter (fun p => kC x b.z p == true) := by rw [<- hys, hm]; exact Zp _ _ _ _
  have Mem := hh_ mem; have My := hh_ my; clear ct bx fx hm hys mem my
  go_wp2_with (first
   | (go_at_call 196; (with_reducible refine cm.mono ?_); rintro e w3 ⟨gf, rfl, bv3, hg3⟩)
   | (go_at_call 195; (with_reducible refine (cc gf _ hg3 bv3).mono ?_); rintro e w4 ⟨B, cap, rfl, own4, hg4⟩; have zs := ND own4 (fun y hy => (Ha.out.z.vsl y (Mem.out y hy)).grow (G2.out.trans (hg3.trans hg4))); have cs := kW ys B cap w4 uX_ zs (fun y hy => by have := ok.out.ra y (Mem.out y hy); omega) (fun y hy => ok.out.va y (Mem.out y hy)) (fun y hy => ok.out.wa y (Mem.out y hy)); rw [My.out, <- EQ.out] at cs; clear own4 zs bv3)
   | (go_at_call 29; ((with_reducible refine cs.mono ?_); rintro en w5 ⟨C, zs, cap2, rfl, hz3, hm3, hk3, hg5⟩; have Out := hh_ (And.intro hz3 (And.intro hm3 hk3)); clear hz3 hm3 hk3)))
  refine qX_ oH_ rfl ?_; exact ⟨C, zs, cap2, rfl, Out.out.1, Out.out.2.1, Out.out.2.2, G2.out.trans (hg3.trans (hg4.trans hg5))⟩
 ·have d0 : (E2 != 0) = true := by simpa using h0
  have eQ : Q = ([], E2) := by rw [Fin.out, if_pos h0]
  go_wp2_with (go_at_call 193; ((with_reducible refine (ct _ G).mono ?_); rintro e w2 ⟨rfl, hg2⟩))
  refine qX_ oH_ rfl ?_; exact ⟨none, [], 0, by rw [eQ]; rfl, zX _ _, by rw [eQ]; rfl, yf.nil, G.trans hg2⟩
theorem Co (l r : L2 Int) (x : E) (a b : S) (w : World) (hll : l.xs.length <= 140737488355328) (hlr : r.xs.length <= 140737488355328) (hl : yU w l.A l.xs) (hr : yU w r.A r.xs) (hE : EX w x) (ha : In w a) (hb : In w b) :
  Calls Tryz.prog 169 #[.slice l.A l.xs.length l.cap, .slice r.A r.xs.length r.cap, x.val, .slice a.A a.xs.length a.cap, .slice b.A b.xs.length b.cap] w fun en w' => yr w w' en (qJ false l.xs r.xs x a.z b.z) := by
 have HX := hh_ hE; have Ha := hh_ ha; have Hb := hh_ hb; have ct := fun W (hg : za w W) => Je l r x a b W hll hlr (hl.grow hg) (hr.grow hg) (hE.grow hg) (ha.grow hg) (hb.grow hg)
 obtain ⟨E2, hE2⟩ : ∃ e, qv l.xs r.xs x a.z b.z = e := ⟨_, rfl⟩
 rw [hE2] at ct; obtain ⟨Q, hQ⟩ : ∃ Q, qJ false l.xs r.xs x a.z b.z = Q := ⟨_, rfl⟩
 rw [hQ]; have fin : Q = if E2 ≠ 0 then ([], E2) else yy (a.z.filter (fun p => kC x b.z p == false)) := by rw [<- hQ]; unfold qJ; rw [hE2]
 have Fin := hh_ fin; have H2 := hh_ hE2; have HE : ∀ W g, zb W g 35 #[.int .i64 x.kind, .int .i64 x.v.k, .int .i64 x.v.n, .string x.v.s, .int .i64 x.col, .slice x.A x.n x.cap] -> zF W g 0 x := fun W g B => ⟨B.cells rfl, B.cells rfl, B.cells rfl, B.cells rfl, B.cells rfl, B.cells rfl⟩
 clear hl hr hE ha hb hE2 hQ fin; unfold E.val at *; go_enter Tryz.func169, Tryz.ntmps169; go_upto_region 1 with fail
 refine zc (fun X => zb X w.heap.size 35 #[.int .i64 x.kind, .int .i64 x.v.k, .int .i64 x.v.n, .string x.v.s, .int .i64 x.col, .slice x.A x.n x.cap] /\ za w X) ⟨zb.new _ _ _, (za.refl w).al _⟩ ?_; rintro X ⟨Bx, G⟩; obtain ⟨bx, fx⟩ := Bx.rules
 by_cases h0 : E2 = 0
 ·subst h0; have eQ : Q = yy (a.z.filter (fun p => kC x b.z p == false)) := by rw [Fin.out]; simp
  have EQ := hh_ eQ; clear eQ; go_upto_region 4 with (go_at_call 193; ((with_reducible refine (ct _ G).mono ?_); rintro e w2 ⟨rfl, hg2⟩)); have G2 := hh_ (G.trans hg2); have ok := hh_ (Kw H2.out); have cm := Nw w.heap.size 0 x a b w2 (HX.out.grow G2.out) (HE _ _ (Bx.grow hg2)) (Ha.out.z.grow G2.out) (Hb.out.z.grow G2.out) ok.out; obtain ⟨m, hm⟩ : ∃ m : I -> Bool, m = fun y => kC x b.z (zh y) := ⟨_, rfl⟩
  rw [<- hm] at cm; have cc := fun g W (h : za w2 W) (hf : BV W g (a.xs.map m)) => Zo a.xs a.A a.cap m g false W ok.out.la (Ha.out.z.grow (G2.out.trans h)) hf
  obtain ⟨ys, hys⟩ : ∃ l, a.xs.filter (fun y => m y == false) = l := ⟨_, rfl⟩
  simp only [hys] at cc; have mem : ∀ y ∈ ys, y ∈ a.xs := fun y hy => by rw [<- hys] at hy; exact (List.mem_filter.1 hy).1
  have ly : ys.length <= 400 := by rw [<- hys]; have := List.length_filter_le (fun y => m y == false) a.xs; have := ok.out.la; omega
  have my : ys.map zh = a.z.filter (fun p => kC x b.z p == false) := by rw [<- hys, hm]; exact Zp _ _ _ _
  have Mem := hh_ mem; have My := hh_ my; clear ct bx fx hm hys mem my
  go_wp2_with (first
   | (go_at_call 196; (with_reducible refine cm.mono ?_); rintro e w3 ⟨gf, rfl, bv3, hg3⟩)
   | (go_at_call 195; (with_reducible refine (cc gf _ hg3 bv3).mono ?_); rintro e w4 ⟨B, cap, rfl, own4, hg4⟩; have zs := ND own4 (fun y hy => (Ha.out.z.vsl y (Mem.out y hy)).grow (G2.out.trans (hg3.trans hg4))); have cs := kW ys B cap w4 uX_ zs (fun y hy => by have := ok.out.ra y (Mem.out y hy); omega) (fun y hy => ok.out.va y (Mem.out y hy)) (fun y hy => ok.out.wa y (Mem.out y hy)); rw [My.out, <- EQ.out] at cs; clear own4 zs bv3)
   | (go_at_call 29; ((with_reducible refine cs.mono ?_); rintro en w5 ⟨C, zs, cap2, rfl, hz3, hm3, hk3, hg5⟩; have Out := hh_ (And.intro hz3 (And.intro hm3 hk3)); clear hz3 hm3 hk3)))
  refine qX_ oI_ rfl ?_; exact ⟨C, zs, cap2, rfl, Out.out.1, Out.out.2.1, Out.out.2.2, G2.out.trans (hg3.trans (hg4.trans hg5))⟩
 ·have d0 : (E2 != 0) = true := by simpa using h0
  have eQ : Q = ([], E2) := by rw [Fin.out, if_pos h0]
  go_wp2_with (go_at_call 193; ((with_reducible refine (ct _ G).mono ?_); rintro e w2 ⟨rfl, hg2⟩))
  refine qX_ oI_ rfl ?_; exact ⟨none, [], 0, by rw [eQ]; rfl, zX _ _, by rw [eQ]; rfl, yf.nil, G.trans hg2⟩
theorem DP (l r : L2 Int) (x : E) (a b : S) (w : World) (hll : l.xs.length <= 140737488355328) (hlr : r.xs.length <= 140737488355328) (hl : yU w l.A l.xs) (hr : yU w r.A r.xs) (hE : EX w x) (ha : In w a) (hb : In w b) :
  Calls Tryz.prog 170 #[.slice l.A l.xs.length l.cap, .slice r.A r.xs.length r.cap, x.val, .slice a.A a.xs.length a.cap, .slice b.A b.xs.length b.cap] w fun en w' => yr w w' en (Qj l.xs r.xs x a.z b.z) := by
 have HX := hh_ hE; have Ha := hh_ ha; have Hb := hh_ hb; have ct := fun W (hg : za w W) => Je l r x a b W hll hlr (hl.grow hg) (hr.grow hg) (hE.grow hg) (ha.grow hg) (hb.grow hg)
 obtain ⟨E2, hE2⟩ : ∃ e, qv l.xs r.xs x a.z b.z = e := ⟨_, rfl⟩
 rw [hE2] at ct; obtain ⟨Q, hQ⟩ : ∃ Q, Qj l.xs r.xs x a.z b.z = Q := ⟨_, rfl⟩
 rw [hQ]; have fin : Q = if E2 ≠ 0 then ([], E2) else yy (jf r.xs.length x a.z b.z) := by rw [<- hQ]; unfold Qj; rw [hE2]
 have Fin := hh_ fin; have H2 := hh_ hE2; have HE : ∀ W g, zb W g 35 #[.int .i64 x.kind, .int .i64 x.v.k, .int .i64 x.v.n, .string x.v.s, .int .i64 x.col, .slice x.A x.n x.cap] -> zF W g 0 x := fun W g B => ⟨B.cells rfl, B.cells rfl, B.cells rfl, B.cells rfl, B.cells rfl, B.cells rfl⟩
 clear hl hr hE ha hb hE2 hQ fin; unfold E.val at *; go_enter Tryz.func170, Tryz.ntmps170; go_upto_region 1 with fail
 refine zc (fun X => zb X w.heap.size 35 #[.int .i64 x.kind, .int .i64 x.v.k, .int .i64 x.v.n, .string x.v.s, .int .i64 x.col, .slice x.A x.n x.cap] /\ za w X) ⟨zb.new _ _ _, (za.refl w).al _⟩ ?_; rintro X ⟨Bx, G⟩; obtain ⟨bx, fx⟩ := Bx.rules
 by_cases h0 : E2 = 0
 ·subst h0; have eQ : Q = yy (jf r.xs.length x a.z b.z) := by rw [Fin.out]; simp
  have EQ := hh_ eQ; clear eQ; go_upto_region 4 with (go_at_call 193; ((with_reducible refine (ct _ G).mono ?_); rintro e w2 ⟨rfl, hg2⟩)); have G2 := hh_ (G.trans hg2); have ok := hh_ (Kw H2.out); have lr8 : r.xs.length <= 8 := by have := (xZ H2.out).1; omega
  have co := VC w.heap.size 0 x r.xs.length a b w2 lr8 (HX.out.grow G2.out) (HE _ _ (Bx.grow hg2)) (Ha.out.z.grow G2.out) (Hb.out.z.grow G2.out) ok.out; clear ct bx fx
  go_wp2_with (first
   | (go_at_call 197; (with_reducible refine co.mono ?_); rintro e w3 ⟨B, ys, cap, rfl, own3, Ec, m3, hg3⟩; have zs := El own3 Ec; have fa := P5 H2.out m3; have cs := NQ ys B cap w3 (by have := fa.1; omega) zs.1 (fun y hy => by have := fa.2.1 y hy; omega) fa.2.2.1 fa.2.2.2; rw [m3, <- EQ.out] at cs; clear own3 Ec m3 zs fa)
   | (go_at_call 29; ((with_reducible refine cs.mono ?_); rintro en w4 ⟨C, zs, cap2, rfl, hz3, hm3, hk3, hg4⟩; have Out := hh_ (And.intro hz3 (And.intro hm3 hk3)); clear hz3 hm3 hk3)))
  refine qX_ oJ_ rfl ?_; exact ⟨C, zs, cap2, rfl, Out.out.1, Out.out.2.1, Out.out.2.2, G2.out.trans (hg3.trans hg4)⟩
 ·have d0 : (E2 != 0) = true := by simpa using h0
  have eQ : Q = ([], E2) := by rw [Fin.out, if_pos h0]
  go_wp2_with (go_at_call 193; ((with_reducible refine (ct _ G).mono ?_); rintro e w2 ⟨rfl, hg2⟩))
  refine qX_ oJ_ rfl ?_; exact ⟨none, [], 0, by rw [eQ]; rfl, zX _ _, by rw [eQ]; rfl, yf.nil, G.trans hg2⟩
def Vp (x : E) (b : List Z) (r : List V) : Bool := b.any (fun q => yD x (r ++ q.1) && decide (0 < q.2))
theorem SH (x : E) (b : List Z) {r q : List V} (h : zd r = zd q) : Vp x b r = Vp x b q := by
 unfold Vp; congr 1; funext p; rw [XG x (show zd (r ++ p.1) = zd (q ++ p.1) from by rw [j4, j4, h])]
theorem zaB (want : Bool) (x : E) (b : List Z) (u : List V) (a : List Z) : zW (a.filter (fun p => kC x b p == want)) u = if Vp x b u == want then zW a u else 0 :=
 kp (fun r => Vp x b r == want) (fun r q h => by rw [SH x b h]) u a
theorem Qr {want : Bool} {l r : List Int} {x : E} {a b : List Z} (h : qv l r x a b = 0) : qJ want l r x a b = (yE (a.filter (fun p => kC x b p == want)), 0) /\ yA (yE (a.filter (fun p => kC x b p == want))) /\ zC (yE (a.filter (fun p => kC x b p == want))) = 0 /\ ∀ u, zW (yE (a.filter (fun p => kC x b p == want))) u = if Vp x b u == want then zW a u else 0 := by
 obtain ⟨_, _, ha, _⟩ := xZ h; obtain ⟨_, hw, _⟩ := zE ha; have sm := LI (SM.of hw) (fun p => kC x b p == want); obtain ⟨e, c, s, w⟩ := Fk (M := 1000000) (N := 400) sm.ok (fun q => FN uX_ sm.rv sm.up sm.bd q) sm.len uX_ uX_; refine ⟨?_, c, s.rz uX_ uX_, fun u => by rw [w, zaB]⟩; unfold qJ; rw [if_neg uM_, e]
theorem Eo {want : Bool} {l r : List Int} {x : E} {a b : List Z} (h : qv l r x a b ≠ 0) : qJ want l r x a b = ([], qv l r x a b) := by
 unfold qJ; rw [if_pos h]
theorem Mk {l r : List Int} {x : E} {a b : List Z} (h : qv l r x a b = 0) : Xk (jf r.length x a b) := by
 refine qQ (je h) (fun y hy => ?_); obtain ⟨h8, _, ha, _⟩ := xZ h; obtain ⟨_, hw, hf⟩ := zE ha; obtain ⟨z, hz, rfl⟩ := List.mem_map.1 hy; have hz := (List.mem_filter.1 hz).1; have lz := ((y7 _ _).1 (hf z hz)).1; refine ⟨by simp [zac, lz]; omega, fun v hv => ?_⟩; rcases List.mem_append.1 hv with hv | hv
 ·exact ((SM.of hw).ok z hz).2 v hv
 ·rw [(List.mem_replicate.1 hv).2]; exact Rj
