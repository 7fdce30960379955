/- Parts of a proof. No condition. -/
import Derived.Test.YthhbiemnbkfobaaGreatGVb
set_option maxRecDepth 100000
set_option maxHeartbeats 4000000
set_option maxRecDepth 100000
set_option linter.unusedSimpArgs false
set_option linter.unusedVariables false
namespace Go
variable {p : Prop}
theorem oB_ (h : p := by simp [results, Tryz.results51, go_sem] <;> rfl) : p := h
theorem oC_ (h : p := by simp [results, Tryz.results52, go_sem] <;> rfl) : p := h
theorem oD_ (h : p := by simp [results, Tryz.results53, go_sem] <;> rfl) : p := h
end Go
namespace Go.Proofs.YthhbiemnbkfobaaGreat
open Go.RowKit Go.Calm
def xA (want : Bool) (l r : List Int) (x : E) (a b : List Z) : List Z × Int := if xQ l r x a b ≠ 0 then ([], xQ l r x a b) else yF (a.filter (fun p => qh x b p == want))
def jV (l r : List Int) (x : E) (a b : List Z) : List Z × Int := if xQ l r x a b ≠ 0 then ([], xQ l r x a b) else yF (xj r.length x a b)
theorem YU : RV zR := xM
theorem Mm {l r : List Int} {x : E} {a b : S} {ys : List I} (h0 : xQ l r x a.z b.z = 0) (m : ys.map zp = xj r.length x a.z b.z) : ys.length <= 160400 /\ (∀ y ∈ ys, y.row.length <= 8) /\ (∀ y ∈ ys, ∀ v ∈ y.row, RV v) /\ ∀ y ∈ ys, -1000000000000 <= y.w /\ y.w <= 1000000000000 := by
  have ok := Yl h0; obtain ⟨h8, hc, ha, hb⟩ := qy h0; have fa := zj ha
  have mem : ∀ y ∈ ys, (∃ p ∈ a.xs, ∃ q ∈ b.xs, y.row = p.row ++ q.row /\ y.w = p.w * q.w) \/ ∃ p ∈ a.xs, y.row = p.row ++ List.replicate r.length zR /\ y.w = p.w := fun y hy => by
    have h : zp y ∈ xj r.length x a.z b.z := by rw [<- m]; exact qZ9 hy
    rcases List.mem_append.1 h with h | h
    · left
      obtain ⟨p, hp, q, hq, e⟩ := x8 h; obtain ⟨p', hp', rfl⟩ := List.mem_map.1 hp; obtain ⟨q', hq', rfl⟩ := List.mem_map.1 hq; exact ⟨p', hp', q', hq', congrArg Prod.fst e, congrArg Prod.snd e⟩
    · right
      obtain ⟨p, hp, e⟩ := List.mem_map.1 h; obtain ⟨p', hp', rfl⟩ := List.mem_map.1 (List.mem_filter.1 hp).1; exact ⟨p', hp', (congrArg Prod.fst e).symm, (congrArg Prod.snd e).symm⟩
  refine ⟨?_, fun y hy => ?_, fun y hy => ?_, fun y hy => ?_⟩
  · have h1 := congrArg List.length m
    have h2 := jT x a.z b.z; have h3 := ok.la; have h4 := ok.lb; have h5 := List.length_filter_le (fun p => qh x b.z p == false) a.z; unfold xj at h1; simp only [List.length_append, List.length_map] at h1; have e1 : a.z.length = a.xs.length := by simp [S.z]
    have e2 : b.z.length = b.xs.length := by simp [S.z]
    rw [e1, e2] at h2; rw [e1] at h5; have := Nat.mul_le_mul h3 h4; omega
  · rcases mem y hy with ⟨p, hp, q, hq, e, _⟩ | ⟨p, hp, e, _⟩
    · rw [e]; exact (ok.re p hp q hq).2.2
    · rw [e]
      have := ((yz _ _).1 (fa.2.2 (zp p) (qZ9 hp))).1; have : p.row.length = l.length := this; simp; omega
  · rcases mem y hy with ⟨p, hp, q, hq, e, _⟩ | ⟨p, hp, e, _⟩
    · rw [e]; exact (ok.re p hp q hq).2.1
    · rw [e]
      intro v hv; rcases List.mem_append.1 hv with hv | hv
      · exact ok.va p hp v hv
      · rw [(List.mem_replicate.1 hv).2]; exact YU
  · rcases mem y hy with ⟨p, hp, q, hq, _, e⟩ | ⟨p, hp, _, e⟩
    · rw [e]
      obtain ⟨h1, h2⟩ := ok.wa p hp; obtain ⟨h3, h4⟩ := ok.wb q hq; have ha : (p.w).natAbs <= 1000000 := by omega
      have hb : (q.w).natAbs <= 1000000 := by omega
      have : (p.w * q.w).natAbs <= 1000000 * 1000000 := by rw [Int.natAbs_mul]; exact Nat.mul_le_mul ha hb
      omega
    · rw [e]
      have := ok.wa p hp; omega
theorem Uw (l r : L2 Int) (x : E) (a b : S) (w : World) (hll : l.xs.length <= 140737488355328) (hlr : r.xs.length <= 140737488355328) (hl : xc w l.A l.xs) (hr : xc w r.A r.xs) (hE : EX w x) (ha : In w a) (hb : In w b) :
    Calls Tryz.prog 51 #[.slice l.A l.xs.length l.cap, .slice r.A r.xs.length r.cap, x.val, .slice a.A a.xs.length a.cap, .slice b.A b.xs.length b.cap] w fun en w' => yK w w' en (xA true l.xs r.xs x a.z b.z) := by
  have HX := hh_ hE; have Ha := hh_ ha; have Hb := hh_ hb; have ct := fun W (hg : za w W) => Ql l r x a b W hll hlr (hl.grow hg) (hr.grow hg) (hE.grow hg) (ha.grow hg) (hb.grow hg)
  obtain ⟨E2, hE2⟩ : ∃ e, xQ l.xs r.xs x a.z b.z = e := ⟨_, rfl⟩
  rw [hE2] at ct; obtain ⟨Q, hQ⟩ : ∃ Q, xA true l.xs r.xs x a.z b.z = Q := ⟨_, rfl⟩
  rw [hQ]; have fin : Q = if E2 ≠ 0 then ([], E2) else yF (a.z.filter (fun p => qh x b.z p == true)) := by rw [<- hQ]; unfold xA; rw [hE2]
  have Fin := hh_ fin; have H2 := hh_ hE2; have HE : ∀ W g, zc W g 27 #[.int .i64 x.kind, .int .i64 x.v.k, .int .i64 x.v.n, .string x.v.s, .int .i64 x.col, .slice x.A x.n x.cap] -> zA W g 0 x := fun W g B => ⟨B.cells rfl, B.cells rfl, B.cells rfl, B.cells rfl, B.cells rfl, B.cells rfl⟩
  clear hl hr hE ha hb hE2 hQ fin; unfold E.val at *; go_enter Tryz.func51, Tryz.ntmps51; go_upto_region 1 with fail
  refine zd (fun X => zc X w.heap.size 27 #[.int .i64 x.kind, .int .i64 x.v.k, .int .i64 x.v.n, .string x.v.s, .int .i64 x.col, .slice x.A x.n x.cap] /\ za w X) ⟨zc.new _ _ _, (za.refl w).al _⟩ ?_; rintro X ⟨Bx, G⟩; obtain ⟨bx, fx⟩ := Bx.rules
  by_cases h0 : E2 = 0
  · subst h0
    have eQ : Q = yF (a.z.filter (fun p => qh x b.z p == true)) := by rw [Fin.out]; simp
    have EQ := hh_ eQ; clear eQ; go_upto_region 4 with (go_at_call 89; ((with_reducible refine (ct _ G).mono ?_); rintro e w2 ⟨rfl, hg2⟩)); have G2 := hh_ (G.trans hg2); have ok := hh_ (Yl H2.out); have cm := Qe w.heap.size 0 x a b w2 (HX.out.grow G2.out) (HE _ _ (Bx.grow hg2)) (Ha.out.z.grow G2.out) (Hb.out.z.grow G2.out) ok.out; obtain ⟨m, hm⟩ : ∃ m : I -> Bool, m = fun y => qh x b.z (zp y) := ⟨_, rfl⟩
    rw [<- hm] at cm; have cc := fun g W (h : za w2 W) (hf : BV W g (a.xs.map m)) => jj a.xs a.A a.cap m g true W ok.out.la (Ha.out.z.grow (G2.out.trans h)) hf
    obtain ⟨ys, hys⟩ : ∃ l, a.xs.filter (fun y => m y == true) = l := ⟨_, rfl⟩
    simp only [hys] at cc; have mem : ∀ y ∈ ys, y ∈ a.xs := fun y hy => by rw [<- hys] at hy; exact (List.mem_filter.1 hy).1
    have ly : ys.length <= 400 := by rw [<- hys]; have := List.length_filter_le (fun y => m y == true) a.xs; have := ok.out.la; omega
    have my : ys.map zp = a.z.filter (fun p => qh x b.z p == true) := by rw [<- hys, hm]; exact XU _ _ _ _
    have Mem := hh_ mem; have My := hh_ my; clear ct bx fx hm hys mem my
    go_wp2_with (first
      | (go_at_call 91; (with_reducible refine cm.mono ?_); rintro e w3 ⟨gf, rfl, bv3, hg3⟩)
      | (go_at_call 90; (with_reducible refine (cc gf _ hg3 bv3).mono ?_); rintro e w4 ⟨B, cap, rfl, own4, hg4⟩; have zs := Wa own4 (fun y hy => (Ha.out.z.vsl y (Mem.out y hy)).grow (G2.out.trans (hg3.trans hg4))); have cs := jF ys B cap w4 vU_ zs (fun y hy => by have := ok.out.ra y (Mem.out y hy); omega) (fun y hy => ok.out.va y (Mem.out y hy)) (fun y hy => ok.out.wa y (Mem.out y hy)); rw [My.out, <- EQ.out] at cs; clear own4 zs bv3)
      | (go_at_call 20; ((with_reducible refine cs.mono ?_); rintro en w5 ⟨C, zs, cap2, rfl, hz3, hm3, hk3, hg5⟩; have Out := hh_ (And.intro hz3 (And.intro hm3 hk3)); clear hz3 hm3 hk3)))
    refine qX_ oB_ rfl ?_; exact ⟨C, zs, cap2, rfl, Out.out.1, Out.out.2.1, Out.out.2.2, G2.out.trans (hg3.trans (hg4.trans hg5))⟩
  · have d0 : (E2 != 0) = true := by simpa using h0
    have eQ : Q = ([], E2) := by rw [Fin.out, if_pos h0]
    go_wp2_with (go_at_call 89; ((with_reducible refine (ct _ G).mono ?_); rintro e w2 ⟨rfl, hg2⟩))
    refine qX_ oB_ rfl ?_; exact ⟨none, [], 0, by rw [eQ]; rfl, zu _ _, by rw [eQ]; rfl, zN.nil, G.trans hg2⟩
theorem Td (l r : L2 Int) (x : E) (a b : S) (w : World) (hll : l.xs.length <= 140737488355328) (hlr : r.xs.length <= 140737488355328) (hl : xc w l.A l.xs) (hr : xc w r.A r.xs) (hE : EX w x) (ha : In w a) (hb : In w b) :
    Calls Tryz.prog 52 #[.slice l.A l.xs.length l.cap, .slice r.A r.xs.length r.cap, x.val, .slice a.A a.xs.length a.cap, .slice b.A b.xs.length b.cap] w fun en w' => yK w w' en (xA false l.xs r.xs x a.z b.z) := by
  have HX := hh_ hE; have Ha := hh_ ha; have Hb := hh_ hb; have ct := fun W (hg : za w W) => Ql l r x a b W hll hlr (hl.grow hg) (hr.grow hg) (hE.grow hg) (ha.grow hg) (hb.grow hg)
  obtain ⟨E2, hE2⟩ : ∃ e, xQ l.xs r.xs x a.z b.z = e := ⟨_, rfl⟩
  rw [hE2] at ct; obtain ⟨Q, hQ⟩ : ∃ Q, xA false l.xs r.xs x a.z b.z = Q := ⟨_, rfl⟩
  rw [hQ]; have fin : Q = if E2 ≠ 0 then ([], E2) else yF (a.z.filter (fun p => qh x b.z p == false)) := by rw [<- hQ]; unfold xA; rw [hE2]
  have Fin := hh_ fin; have H2 := hh_ hE2; have HE : ∀ W g, zc W g 27 #[.int .i64 x.kind, .int .i64 x.v.k, .int .i64 x.v.n, .string x.v.s, .int .i64 x.col, .slice x.A x.n x.cap] -> zA W g 0 x := fun W g B => ⟨B.cells rfl, B.cells rfl, B.cells rfl, B.cells rfl, B.cells rfl, B.cells rfl⟩
  clear hl hr hE ha hb hE2 hQ fin; unfold E.val at *; go_enter Tryz.func52, Tryz.ntmps52; go_upto_region 1 with fail
  refine zd (fun X => zc X w.heap.size 27 #[.int .i64 x.kind, .int .i64 x.v.k, .int .i64 x.v.n, .string x.v.s, .int .i64 x.col, .slice x.A x.n x.cap] /\ za w X) ⟨zc.new _ _ _, (za.refl w).al _⟩ ?_; rintro X ⟨Bx, G⟩; obtain ⟨bx, fx⟩ := Bx.rules
  by_cases h0 : E2 = 0
  · subst h0
    have eQ : Q = yF (a.z.filter (fun p => qh x b.z p == false)) := by rw [Fin.out]; simp
    have EQ := hh_ eQ; clear eQ; go_upto_region 4 with (go_at_call 89; ((with_reducible refine (ct _ G).mono ?_); rintro e w2 ⟨rfl, hg2⟩)); have G2 := hh_ (G.trans hg2); have ok := hh_ (Yl H2.out); have cm := Qe w.heap.size 0 x a b w2 (HX.out.grow G2.out) (HE _ _ (Bx.grow hg2)) (Ha.out.z.grow G2.out) (Hb.out.z.grow G2.out) ok.out; obtain ⟨m, hm⟩ : ∃ m : I -> Bool, m = fun y => qh x b.z (zp y) := ⟨_, rfl⟩
    rw [<- hm] at cm; have cc := fun g W (h : za w2 W) (hf : BV W g (a.xs.map m)) => jj a.xs a.A a.cap m g false W ok.out.la (Ha.out.z.grow (G2.out.trans h)) hf
    obtain ⟨ys, hys⟩ : ∃ l, a.xs.filter (fun y => m y == false) = l := ⟨_, rfl⟩
    simp only [hys] at cc; have mem : ∀ y ∈ ys, y ∈ a.xs := fun y hy => by rw [<- hys] at hy; exact (List.mem_filter.1 hy).1
    have ly : ys.length <= 400 := by rw [<- hys]; have := List.length_filter_le (fun y => m y == false) a.xs; have := ok.out.la; omega
    have my : ys.map zp = a.z.filter (fun p => qh x b.z p == false) := by rw [<- hys, hm]; exact XU _ _ _ _
    have Mem := hh_ mem; have My := hh_ my; clear ct bx fx hm hys mem my
    go_wp2_with (first
      | (go_at_call 91; (with_reducible refine cm.mono ?_); rintro e w3 ⟨gf, rfl, bv3, hg3⟩)
      | (go_at_call 90; (with_reducible refine (cc gf _ hg3 bv3).mono ?_); rintro e w4 ⟨B, cap, rfl, own4, hg4⟩; have zs := Wa own4 (fun y hy => (Ha.out.z.vsl y (Mem.out y hy)).grow (G2.out.trans (hg3.trans hg4))); have cs := jF ys B cap w4 vU_ zs (fun y hy => by have := ok.out.ra y (Mem.out y hy); omega) (fun y hy => ok.out.va y (Mem.out y hy)) (fun y hy => ok.out.wa y (Mem.out y hy)); rw [My.out, <- EQ.out] at cs; clear own4 zs bv3)
      | (go_at_call 20; ((with_reducible refine cs.mono ?_); rintro en w5 ⟨C, zs, cap2, rfl, hz3, hm3, hk3, hg5⟩; have Out := hh_ (And.intro hz3 (And.intro hm3 hk3)); clear hz3 hm3 hk3)))
    refine qX_ oC_ rfl ?_; exact ⟨C, zs, cap2, rfl, Out.out.1, Out.out.2.1, Out.out.2.2, G2.out.trans (hg3.trans (hg4.trans hg5))⟩
  · have d0 : (E2 != 0) = true := by simpa using h0
    have eQ : Q = ([], E2) := by rw [Fin.out, if_pos h0]
    go_wp2_with (go_at_call 89; ((with_reducible refine (ct _ G).mono ?_); rintro e w2 ⟨rfl, hg2⟩))
    refine qX_ oC_ rfl ?_; exact ⟨none, [], 0, by rw [eQ]; rfl, zu _ _, by rw [eQ]; rfl, zN.nil, G.trans hg2⟩
theorem T6 (l r : L2 Int) (x : E) (a b : S) (w : World) (hll : l.xs.length <= 140737488355328) (hlr : r.xs.length <= 140737488355328) (hl : xc w l.A l.xs) (hr : xc w r.A r.xs) (hE : EX w x) (ha : In w a) (hb : In w b) :
    Calls Tryz.prog 53 #[.slice l.A l.xs.length l.cap, .slice r.A r.xs.length r.cap, x.val, .slice a.A a.xs.length a.cap, .slice b.A b.xs.length b.cap] w fun en w' => yK w w' en (jV l.xs r.xs x a.z b.z) := by
  have HX := hh_ hE; have Ha := hh_ ha; have Hb := hh_ hb; have ct := fun W (hg : za w W) => Ql l r x a b W hll hlr (hl.grow hg) (hr.grow hg) (hE.grow hg) (ha.grow hg) (hb.grow hg)
  obtain ⟨E2, hE2⟩ : ∃ e, xQ l.xs r.xs x a.z b.z = e := ⟨_, rfl⟩
  rw [hE2] at ct; obtain ⟨Q, hQ⟩ : ∃ Q, jV l.xs r.xs x a.z b.z = Q := ⟨_, rfl⟩
  rw [hQ]; have fin : Q = if E2 ≠ 0 then ([], E2) else yF (xj r.xs.length x a.z b.z) := by rw [<- hQ]; unfold jV; rw [hE2]
  have Fin := hh_ fin; have H2 := hh_ hE2; have HE : ∀ W g, zc W g 27 #[.int .i64 x.kind, .int .i64 x.v.k, .int .i64 x.v.n, .string x.v.s, .int .i64 x.col, .slice x.A x.n x.cap] -> zA W g 0 x := fun W g B => ⟨B.cells rfl, B.cells rfl, B.cells rfl, B.cells rfl, B.cells rfl, B.cells rfl⟩
  clear hl hr hE ha hb hE2 hQ fin; unfold E.val at *; go_enter Tryz.func53, Tryz.ntmps53; go_upto_region 1 with fail
  refine zd (fun X => zc X w.heap.size 27 #[.int .i64 x.kind, .int .i64 x.v.k, .int .i64 x.v.n, .string x.v.s, .int .i64 x.col, .slice x.A x.n x.cap] /\ za w X) ⟨zc.new _ _ _, (za.refl w).al _⟩ ?_; rintro X ⟨Bx, G⟩; obtain ⟨bx, fx⟩ := Bx.rules
  by_cases h0 : E2 = 0
  · subst h0
    have eQ : Q = yF (xj r.xs.length x a.z b.z) := by rw [Fin.out]; simp
    have EQ := hh_ eQ; clear eQ; go_upto_region 4 with (go_at_call 89; ((with_reducible refine (ct _ G).mono ?_); rintro e w2 ⟨rfl, hg2⟩)); have G2 := hh_ (G.trans hg2); have ok := hh_ (Yl H2.out); have lr8 : r.xs.length <= 8 := by have := (qy H2.out).1; omega
    have co := JD w.heap.size 0 x r.xs.length a b w2 lr8 (HX.out.grow G2.out) (HE _ _ (Bx.grow hg2)) (Ha.out.z.grow G2.out) (Hb.out.z.grow G2.out) ok.out; clear ct bx fx
    go_wp2_with (first
      | (go_at_call 92; (with_reducible refine co.mono ?_); rintro e w3 ⟨B, ys, cap, rfl, own3, U7, m3, hg3⟩; have zs := Ui own3 U7; have fa := Mm H2.out m3; have cs := Qj ys B cap w3 (by have := fa.1; omega) zs.1 (fun y hy => by have := fa.2.1 y hy; omega) fa.2.2.1 fa.2.2.2; rw [m3, <- EQ.out] at cs; clear own3 U7 m3 zs fa)
      | (go_at_call 20; ((with_reducible refine cs.mono ?_); rintro en w4 ⟨C, zs, cap2, rfl, hz3, hm3, hk3, hg4⟩; have Out := hh_ (And.intro hz3 (And.intro hm3 hk3)); clear hz3 hm3 hk3)))
    refine qX_ oD_ rfl ?_; exact ⟨C, zs, cap2, rfl, Out.out.1, Out.out.2.1, Out.out.2.2, G2.out.trans (hg3.trans hg4)⟩
  · have d0 : (E2 != 0) = true := by simpa using h0
    have eQ : Q = ([], E2) := by rw [Fin.out, if_pos h0]
    go_wp2_with (go_at_call 89; ((with_reducible refine (ct _ G).mono ?_); rintro e w2 ⟨rfl, hg2⟩))
    refine qX_ oD_ rfl ?_; exact ⟨none, [], 0, by rw [eQ]; rfl, zu _ _, by rw [eQ]; rfl, zN.nil, G.trans hg2⟩
def kJ (x : E) (b : List Z) (r : List V) : Bool := b.any (fun q => yu x (r ++ q.1) && decide (0 < q.2))
theorem Q6 (x : E) (b : List Z) {r q : List V} (h : zg r = zg q) : kJ x b r = kJ x b q := by
  unfold kJ; congr 1; funext p; rw [yZ x (show zg (r ++ p.1) = zg (q ++ p.1) from by rw [yr, yr, h])]
theorem Rh (want : Bool) (x : E) (b : List Z) (u : List V) (a : List Z) : zE (a.filter (fun p => qh x b p == want)) u = if kJ x b u == want then zE a u else 0 :=
  xu (fun r => kJ x b r == want) (fun r q h => by rw [Q6 x b h]) u a
theorem PE {want : Bool} {l r : List Int} {x : E} {a b : List Z} (h : xQ l r x a b = 0) : xA want l r x a b = (zW (a.filter (fun p => qh x b p == want)), 0) /\ yJ (zW (a.filter (fun p => qh x b p == want))) /\ zw (zW (a.filter (fun p => qh x b p == want))) = 0 /\ ∀ u, zE (zW (a.filter (fun p => qh x b p == want))) u = if kJ x b u == want then zE a u else 0 := by
  obtain ⟨_, _, ha, _⟩ := qy h; obtain ⟨_, hw, _⟩ := zj ha; have sm := Jc (SM.of hw) (fun p => qh x b p == want); obtain ⟨e, c, s, w⟩ := UF (M := 1000000) (N := 400) sm.ok (fun q => C7 vU_ sm.rv sm.up sm.bd q) sm.len vU_ vU_; refine ⟨?_, c, s.rz vU_ vU_, fun u => by rw [w, Rh]⟩; unfold xA; rw [if_neg (by rw [h]; simp), e]
theorem Mp {want : Bool} {l r : List Int} {x : E} {a b : List Z} (h : xQ l r x a b ≠ 0) : xA want l r x a b = ([], xQ l r x a b) := by
  unfold xA; rw [if_pos h]
theorem SR (l : List Z) : zO (fun _ => 0) l = 0 := by
  induction l with
  | nil => rfl
  | cons x l ih => simp [zO, ih]
theorem Sr (N u : List V) : XR (fun r => kw u (r ++ N)) := fun r q h => Zn u _ _ vL_
theorem El (n : Nat) (u : List V) (l : List Z) : zE (l.map (Uj n)) u = zO (fun r => kw u (r ++ List.replicate n zR)) l := Zx (fun r => r ++ List.replicate n zR) u l
theorem JE {l r : List Int} {x : E} {a b : List Z} (h : xQ l r x a b = 0) : Y7 (xj r.length x a b) := by
  refine kq (Mc h) (fun y hy => ?_); obtain ⟨h8, _, ha, _⟩ := qy h; obtain ⟨_, hw, hf⟩ := zj ha; obtain ⟨z, hz, rfl⟩ := List.mem_map.1 hy; have hz := (List.mem_filter.1 hz).1; have lz := ((yz _ _).1 (hf z hz)).1; refine ⟨by simp [Uj, lz]; omega, fun v hv => ?_⟩; rcases List.mem_append.1 hv with hv | hv
  · exact ((SM.of hw).ok z hz).2 v hv
  · rw [(List.mem_replicate.1 hv).2]; exact YU
