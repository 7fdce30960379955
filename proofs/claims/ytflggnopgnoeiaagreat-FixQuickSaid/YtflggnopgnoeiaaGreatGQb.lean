/- Parts of a proof. No condition. -/
import Derived.Test.YtflggnopgnoeiaaGreatGQa
import Derived.Test.YtflggnopgnoeiaaGreatGN
set_option maxRecDepth 100000
set_option maxHeartbeats 8000000
set_option maxRecDepth 100000
set_option linter.unusedSimpArgs false
set_option linter.unusedVariables false
namespace Go
variable {p : Prop}
theorem oU_ (h : p := by simp [results, Tryz.results140, go_sem] <;> rfl) : p := h
theorem o4_ (h : p := by simp [results, Tryz.results94, go_sem] <;> rfl) : p := h
theorem o5_ (h : p := by simp [results, Tryz.results41, go_sem] <;> rfl) : p := h
theorem wE_ (h : p := by
 obtain rfl : k = ds.length := by omega
 have fin : R = 0 := by
  have := xt.out; rw [show (ds.map S.z).drop ds.length = [] from List.drop_eq_nil_of_le uY_] at this; rw [<- this]; unfold y6; split
  ·rename_i h; simp at h
  ·rfl
 go_wp2; go_ret; exact zk fin.symm hg) : p := h
end Go
namespace Go.Proofs.YtflggnopgnoeiaaGreat
open Go.RowKit Go.Calm
def GT (r : List Z × Int) (v : Value) (W : World) : Prop := ∃ (B : Option Addr) (ys : List I) (cap : Nat), v = .tuple #[.slice B ys.length cap, .int .i64 r.2] /\ xe W B ys /\ ys.map zh = r.1 /\ yf B ys.length cap
def GS (r : List Z × Int) (v : Value) (W : World) : Prop := ∃ (B : Option Addr) (ys : List I) (cap : Nat), v = .slice B ys.length cap /\ xe W B ys /\ ys.map zh = r.1 /\ yf B ys.length cap
theorem GT.pers (r : List Z × Int) : xQ (GT r) := fun v w w' hg ⟨B, ys, cap, e, h, m, k⟩ => ⟨B, ys, cap, e, h.grow hg, m, k⟩
theorem GS.pers (r : List Z × Int) : xQ (GS r) := fun v w w' hg ⟨B, ys, cap, e, h, m, k⟩ => ⟨B, ys, cap, e, h.grow hg, m, k⟩
abbrev sL (s : S) : Value := .slice s.A s.xs.length s.cap
inductive Qk where
 | f | m | g | t | j | s | a | l | d | u | p | q
@[reducible] def Qk.k : Qk -> Int
 | .f => 2 | .m => 3 | .g => 12 | .t => 13 | .j => 4 | .s => 5 | .a => 6 | .l => 7 | .d => 8 | .u => 9 | .p => 10 | .q => 11
@[reducible] def Qk.n : Qk -> Nat
 | .f => 1 | .m => 1 | .g => 1 | .t => 1 | .p => 1 | .q => 1 | _ => 2
@[reducible] def Qk.c : Qk -> Nat
 | .f => 13 | .m => 13 | .g => 17 | .t => 17 | .d => 9 | .u => 9 | _ => 19
structure Nn (n : Nat) : Prop where
 t : True
@[reducible] def Qk.fn : Qk -> Nat
 | .f => 165
 | .m => 166
 | .g => 173
 | .t => 174
 | .j => 167
 | .s => 168
 | .a => 169
 | .l => 170
 | .d => 98
 | .u => 171
 | .p => 172
 | .q => 42
@[reducible] def Qk.args (qk : Qk) (n : Int) (x : E) (xs : X5) (ag : XY) (a b : L2 Int) (s t : S) : Array Value := match qk with
 | .f => #[vL a, x.val, sL s]
 | .m => #[vL a, .slice xs.A xs.l.length xs.c, sL s]
 | .g => #[vL a, .slice xs.A xs.l.length xs.c, .slice ag.A ag.l.length ag.c, sL s]
 | .t => #[vL a, .slice xs.A xs.l.length xs.c, .int .i64 n, sL s]
 | .d => #[sL s, sL t]
 | .u => #[sL s, sL t]
 | .p => #[sL s]
 | .q => #[sL s]
 | _ => #[vL a, vL b, x.val, sL s, sL t]
theorem jO (qk : Qk) (n : Int) (x : E) (xs : X5) (ag : XY) (A : Option Addr) (mm cap : Nat) (kid : Nat -> PL) (gx ox g1 nc g2 nz : Nat) (a b : L2 Int) (s t : S) (w : World) (hx : yt w gx ox (.mk qk.k n x xs ag A mm cap kid)) (C0 : w.cell? ⟨g1, 0, none⟩ = some (vL a)) (Z0 : w.cell? ⟨g2, 0, none⟩ = some (sL s)) (C1 : qk.n = 2 -> w.cell? ⟨g1, 1, none⟩ = some (vL b)) (Z1 : qk.n = 2 -> w.cell? ⟨g2, 1, none⟩ = some (sL t)) (R : List Z × Int)
    (cq : ∀ W, za w W -> Calls Tryz.prog qk.fn (qk.args n x xs ag a b s t) W fun en w' => yr W w' en R) :
    Calls Tryz.prog 140 #[.pointer (some ⟨gx, ox, none⟩), .slice (some ⟨g1, 0, none⟩) qk.n nc, .slice (some ⟨g2, 0, none⟩) qk.n nz] w fun en w' => yr w w' en R := by
  have Hx := hh_ hx; have Hc := hh_ (And.intro C0 Z0); obtain ⟨c0, c1, c2, c3, c4, c5, c6, c7, c8, c9, c10⟩ := hx; simp only [PL.k, PL.n, PL.x, PL.xs, PL.ag, PL.A, PL.m, PL.cap] at c0 c1 c2 c3 c4 c5 c6 c7 c8 c9 c10; have hn : Nn qk.c := ⟨trivial⟩
  cases qk
  all_goals as_aux_lemma =>
    dsimp only [Qk.k, Qk.n, Qk.c, Qk.fn, Qk.args] at *
    try unfold E.val at cq
    have CQ := hh_ cq
    try (replace C1 := C1 rfl; replace Z1 := Z1 rfl)
    have H1 := hh_ (And.intro C1 Z1); clear cq C1 Z1; go_enter Tryz.func140, Tryz.ntmps140
    first
    | (go_wp2_with ((first | go_at_call 172 | go_at_call 42); ((with_reducible refine (CQ.out _ (za.refl _)).mono ?_); rintro en w4 ⟨B, ys, cap9, rfl, hz4, hm4, hk4, hg4⟩; have Out := hh_ (And.intro hz4 (And.intro hm4 hk4)); clear hz4 hm4 hk4))
       refine qX_ oU_ rfl ?_
       exact ⟨B, ys, cap9, rfl, Out.out.1, Out.out.2.1, Out.out.2.2, hg4⟩)
    | (clear C0 Z0
       go_wp2
       first | (replace hn : Nn 13 := hn; apply wp_region_calm 13 uQ_ uQ_) | (replace hn : Nn 17 := hn; apply wp_region_calm 17 uQ_ uQ_) | (replace hn : Nn 19 := hn; apply wp_region_calm 19 uQ_ uQ_) | (replace hn : Nn 9 := hn; apply wp_region_calm 9 uQ_ uQ_)
       case h' =>
         intro Q0 hQ0; simp only [List.take_succ_cons, List.take_zero]
         repeat ((first | ((first | apply calm_p rfl | apply zu rfl rfl rfl); case h1 => (intro w1 hw1 hF K hK; obtain ⟨c0, c1, c2, c3, c4, c5, c6, c7, c8, c9, c10⟩ := Hx.out.grow hw1; simp only [PL.k, PL.n, PL.x, PL.xs, PL.ag, PL.A, PL.m, PL.cap] at c0 c1 c2 c3 c4 c5 c6 c7 c8 c9 c10; have e1 := hw1.cell Hc.out.1; have e2 := hw1.cell Hc.out.2; (try (have e3 := hw1.cell H1.out.1; have e4 := hw1.cell H1.out.2)); go_simp; first | exact hK _ (za.refl _))) | apply zw rfl rfl rfl rfl); intro K hK; go_simp; apply hK; clear hK K)
         apply calm_fp (GT R) rfl
         case h1 =>
           intro w1 hw1 hF K hK; obtain ⟨c0, c1, c2, c3, c4, c5, c6, c7, c8, c9, c10⟩ := Hx.out.grow hw1; simp only [PL.k, PL.n, PL.x, PL.xs, PL.ag, PL.A, PL.m, PL.cap] at c0 c1 c2 c3 c4 c5 c6 c7 c8 c9 c10; have e1 := hw1.cell Hc.out.1; have e2 := hw1.cell Hc.out.2
           try (have e3 := hw1.cell H1.out.1; have e4 := hw1.cell H1.out.2)
           go_simp
           first | go_at_call 165 | go_at_call 166 | go_at_call 173 | go_at_call 174 | go_at_call 167 | go_at_call 168 | go_at_call 169 | go_at_call 170 | go_at_call 98 | go_at_call 171
           refine (CQ.out w1 hw1).mono ?_; rintro en w' ⟨B, ys, cap9, rfl, hz, hm, hk, hg'⟩; exact ⟨_, rfl, hK _ _ hg' ⟨B, ys, cap9, rfl, hz, hm, hk⟩⟩
         intro v130 K hK; go_simp; apply hK; clear hK K; apply calm_fp (GS R) rfl
         case h1 =>
           intro w1 hw1 hF K hK; obtain ⟨B, ys, cap9, hv, hz, hm, hk⟩ := hF _ (List.mem_cons_self ..) ⟨_, rfl, by decide⟩; subst hv; go_simp; exact hK _ _ (za.refl _) ⟨B, ys, cap9, rfl, hz, hm, hk⟩
         intro v131 K hK; go_simp; apply hK; clear hK K; apply calm_p rfl
         case h1 =>
           intro w1 hw1 hF K hK; obtain ⟨B, ys, cap9, hv, hz, hm, hk⟩ := hF _ (List.mem_cons_of_mem _ (List.mem_cons_self ..)) ⟨_, rfl, by decide⟩; subst hv; go_simp; exact hK _ (za.refl _)
         intro K hK; go_simp; apply hK; clear hK K; refine calm_nil ?_; intro w1 hw1 hF; apply hQ0; clear hQ0; simp only [List.drop_succ_cons, List.drop_zero]; obtain ⟨B, ys, cap9, hv, hz, hm, hk⟩ := hF _ (List.mem_cons_self ..); subst hv; have Out := hh_ (And.intro hz (And.intro hm hk)); clear hF hz hm hk; go_wp2; refine qX_ oU_ rfl ?_; exact ⟨B, ys, cap9, rfl, Out.out.1, Out.out.2.1, Out.out.2.2, hw1⟩
       case hp' => exact ⟨GT.pers _, GS.pers _, trivial⟩)
/-! two rows of a call's own beside each other -/
theorem kJ.kept {w w' : World} {base n : Nat} {v : Value} {ss : List S} {row : Option Nat} (h : kJ w base v n ss) (hg : w.grownBy w' row) (hn : v.ownBlock = none \/ v.ownBlock ≠ row) : kJ w' base v n ss := by
 refine ⟨h.1.kept hg hn, fun g' hv j u hu => h.2 g' hv j u ?_⟩; rw [<- Zv hg (h.1.lt g' hv).2 oj_]; exact hu
theorem qA.kept2 {te : TypeId} {w w' : World} {base n : Nat} {v : Value} {vs : List Value} {row : Option Nat} (h : qA te w base v n vs) (hg : w.grownBy w' row) (hn : v.ownBlock = none \/ v.ownBlock ≠ row) : qA te w' base v n vs := xz_
theorem Ka {w : World} {b1 b2 n1 n2 : Nat} {u v : Value} {vs : List Value} {ss : List S} (h1 : qA 22 w b1 u n1 vs) (h2 : kJ w b2 v n2 ss) : (u.ownBlock = none \/ u.ownBlock ≠ v.ownBlock) /\ (v.ownBlock = none \/ v.ownBlock ≠ u.ownBlock) := by
 rcases h1.1.2 with ⟨rfl, _⟩ | ⟨g1, c1, cur1, rfl, _, hg1, _⟩
 ·refine ⟨.inl rfl, ?_⟩; rcases h2.1.2 with ⟨rfl, _⟩ | ⟨g2, c2, cur2, rfl, _, hg2, _⟩
  ·exact .inl rfl
  ·exact .inr (by simp [Value.ownBlock])
 ·rcases h2.1.2 with ⟨rfl, _⟩ | ⟨g2, c2, cur2, rfl, _, hg2, _⟩
  ·exact ⟨.inr (by simp [Value.ownBlock]), .inl rfl⟩
  ·have hne : g1 ≠ g2 := fun e => by
    subst e; rw [hg1] at hg2; simp at hg2
   exact ⟨.inr (by simp [Value.ownBlock]; omega), .inr (by simp [Value.ownBlock]; omega)⟩
theorem kJ.one {w : World} {base : Nat} {v : Value} {a : S} (h : kJ w base v 1 [a]) : ∃ (g1 cap : Nat), v = .slice (some ⟨g1, 0, none⟩) 1 cap /\ w.cell? ⟨g1, 0, none⟩ = some (sL a) := by
 rcases h.1.2 with ⟨_, h0⟩ | ⟨g, cap, cur, rfl, _⟩
 ·omega
 ·exact ⟨g, cap, rfl, by have := h.1.cells (g := g) rfl 0 _ rfl; simpa [zQ, S.v'] using this⟩
theorem kJ.two {w : World} {base : Nat} {v : Value} {a b : S} (h : kJ w base v 2 [a, b]) : ∃ (g1 cap : Nat), v = .slice (some ⟨g1, 0, none⟩) 2 cap /\ w.cell? ⟨g1, 0, none⟩ = some (sL a) /\ w.cell? ⟨g1, 1, none⟩ = some (sL b) := by
 rcases h.1.2 with ⟨_, h0⟩ | ⟨g, cap, cur, rfl, _⟩
 ·omega
 ·exact ⟨g, cap, rfl, by have := h.1.cells (g := g) rfl 0 _ rfl; simpa [zQ, S.v'] using this, by have := h.1.cells (g := g) rfl 1 _ rfl; simpa [zQ, S.v'] using this⟩
def DI (k : Int) (a b : Nat) : Prop := ((k = 2 \/ k = 3 \/ k = 10 \/ k = 11 \/ k = 12 \/ k = 13) /\ a = 1 /\ b = 1) \/ ((k = 4 \/ k = 5 \/ k = 6 \/ k = 7 \/ k = 8 \/ k = 9) /\ a = 2 /\ b = 2)
theorem EA (k n : Int) (x : E) (xs : X5) (ag : XY) (A : Option Addr) (mm cap : Nat) (kid : Nat -> PL) (gx ox base : Nat) (cs : List (L2 Int)) (zs : List S) (tc tz : Value) (w : World) (hP : PX w (.mk k n x xs ag A mm cap kid)) (hx : yt w gx ox (.mk k n x xs ag A mm cap kid)) (hk : DI k cs.length zs.length) (hc : ∀ c ∈ cs, c.xs.length <= 140737488355328 /\ yU w c.A c.xs) (hz : ∀ s ∈ zs, In w s)
  (oc : qA 22 w base tc cs.length (cs.map vL)) (oz : kJ w base tz zs.length zs) :
  Calls Tryz.prog 140 #[.pointer (some ⟨gx, ox, none⟩), tc, tz] w fun en w' => yr w w' en (X9 k n x xs.l ag.l (cs.map L2.xs) (zs.map S.z)) := by
 obtain ⟨hEx, hES, hAG, hlens⟩ : EX w x /\ WW w xs.A xs.l /\ XZ w ag.A ag.l /\ (xs.l.length <= zp /\ ag.l.length <= zp) := by cases hP with | mk hm hc hk hx hs ha hl hi => exact ⟨hx, hs, ha, hl⟩
 unfold zp at hlens; rcases hk with ⟨hk, l1, l2⟩ | ⟨hk, l1, l2⟩
 ·obtain ⟨a, rfl⟩ := List.length_eq_one_iff.1 l1; obtain ⟨s, rfl⟩ := List.length_eq_one_iff.1 l2; obtain ⟨g1, n1, rfl, C0⟩ := qA.one (a := a) oc; obtain ⟨g2, n2, rfl, Z0⟩ := kJ.one oz; obtain ⟨hl, hi⟩ := hc a uY_; have hs := hz s uY_; rcases hk with rfl | rfl | rfl | rfl | rfl | rfl
  ·exact jO .f n x xs ag A mm cap kid gx ox g1 n1 g2 n2 a a s s w hx C0 Z0 (fun h => by cases h) (fun h => by cases h) _ (fun W h => Sh a.xs a.A a.cap x s.xs s.A s.cap W uX_ (hi.grow h) (hEx.grow h) (hs.grow h))
  ·exact jO .m n x xs ag A mm cap kid gx ox g1 n1 g2 n2 a a s s w hx C0 Z0 (fun h => by cases h) (fun h => by cases h) _ (fun W h => GL a.xs a.A a.cap xs.l xs.A xs.c s.xs s.A s.cap W uX_ uX_ (hi.grow h) (hES.grow h) (hs.grow h))
  ·exact jO .p n x xs ag A mm cap kid gx ox g1 n1 g2 n2 a a s s w hx C0 Z0 (fun h => by cases h) (fun h => by cases h) _ (fun W h => zad s W (hs.grow h))
  ·exact jO .q n x xs ag A mm cap kid gx ox g1 n1 g2 n2 a a s s w hx C0 Z0 (fun h => by cases h) (fun h => by cases h) _ (fun W h => W5 s W (hs.grow h))
  ·exact jO .g n x xs ag A mm cap kid gx ox g1 n1 g2 n2 a a s s w hx C0 Z0 (fun h => by cases h) (fun h => by cases h) _ (fun W h => Vc a.xs a.A a.cap xs.l xs.A xs.c ag.l ag.A ag.c s.xs s.A s.cap W uX_ uX_ uX_ (hi.grow h) (hES.grow h) (hAG.grow h) (hs.grow h))
  ·exact jO .t n x xs ag A mm cap kid gx ox g1 n1 g2 n2 a a s s w hx C0 Z0 (fun h => by cases h) (fun h => by cases h) _ (fun W h => zau a.xs a.A a.cap xs.l xs.A xs.c n s.xs s.A s.cap W uX_ uX_ (hi.grow h) (hES.grow h) (hs.grow h))
 ·obtain ⟨a, b, rfl⟩ := Nt l1; obtain ⟨s, t, rfl⟩ := Nt l2; obtain ⟨g1, n1, rfl, C0, C1⟩ := qA.two (a := a) (b := b) oc; obtain ⟨g2, n2, rfl, Z0, Z1⟩ := kJ.two oz; obtain ⟨hl, hi⟩ := hc a uY_; obtain ⟨hl2, hi2⟩ := hc b uY_; have hs := hz s uY_; have ht := hz t uY_; rcases hk with rfl | rfl | rfl | rfl | rfl | rfl
  ·exact jO .j n x xs ag A mm cap kid gx ox g1 n1 g2 n2 a b s t w hx C0 Z0 (fun _ => C1) (fun _ => Z1) _ (fun W h => Vv a b x s t W hl hl2 (hi.grow h) (hi2.grow h) (hEx.grow h) (hs.grow h) (ht.grow h))
  ·exact jO .s n x xs ag A mm cap kid gx ox g1 n1 g2 n2 a b s t w hx C0 Z0 (fun _ => C1) (fun _ => Z1) _ (fun W h => E8 a b x s t W hl hl2 (hi.grow h) (hi2.grow h) (hEx.grow h) (hs.grow h) (ht.grow h))
  ·exact jO .a n x xs ag A mm cap kid gx ox g1 n1 g2 n2 a b s t w hx C0 Z0 (fun _ => C1) (fun _ => Z1) _ (fun W h => Co a b x s t W hl hl2 (hi.grow h) (hi2.grow h) (hEx.grow h) (hs.grow h) (ht.grow h))
  ·exact jO .l n x xs ag A mm cap kid gx ox g1 n1 g2 n2 a b s t w hx C0 Z0 (fun _ => C1) (fun _ => Z1) _ (fun W h => DP a b x s t W hl hl2 (hi.grow h) (hi2.grow h) (hEx.grow h) (hs.grow h) (ht.grow h))
  ·exact jO .d n x xs ag A mm cap kid gx ox g1 n1 g2 n2 a b s t w hx C0 Z0 (fun _ => C1) (fun _ => Z1) _ (fun W h => Tp s t W (hs.grow h) (ht.grow h))
  ·exact jO .u n x xs ag A mm cap kid gx ox g1 n1 g2 n2 a b s t w hx C0 Z0 (fun _ => C1) (fun _ => Z1) _ (fun W h => zar s t W (hs.grow h) (ht.grow h))
/-! query.Data -/
theorem LE {α β : Type} {l : List α} {k : Nat} {x : α} (f : α -> β) (h : l[k]? = some x) : (l.map f).drop k = f x :: (l.map f).drop (k + 1) := by
 obtain ⟨h1, e1⟩ := qQ9.1 h; rw [List.drop_eq_getElem_cons uB_]; simp [e1]
theorem LB {ts : List (L2 Int)} {ds : List S} {k : Nat} {t : L2 Int} {s : S} (h1 : ts[k]? = some t) (h2 : ds[k]? = some s) : y6 ((zg ts).drop k) ((ds.map S.z).drop k) = if zo t.xs s.z ≠ 0 then zo t.xs s.z else y6 ((zg ts).drop (k + 1)) ((ds.map S.z).drop (k + 1)) := by
 rw [LE L2.xs h1, LE S.z h2]; rfl
theorem Mq (ts : List (L2 Int)) (At : Option Addr) (nt : Nat) (ds : List S) (Ad : Option Addr) (nd : Nat) (w : World) (hlt : ts.length <= zp) (hl : ∀ t ∈ ts, t.xs.length <= zp) (hts : WO w At ts) (hds : MW w Ad ds nd) :
  Calls Tryz.prog 93 #[.slice At ts.length nt, .slice Ad ds.length nd] w fun en w' => en = .returned (.int .i64 (yO (zg ts) (ds.map S.z))) /\ za w w' := by
 have Hts := hh_ hts; have Hds := hh_ hds; have HL := hh_ hl; have hlt' : ts.length <= 140737488355328 := hlt; have hdl := hds.len; obtain ⟨R, hR⟩ : ∃ R, yO (zg ts) (ds.map S.z) = R := ⟨_, rfl⟩
 rw [hR]; have HR := hh_ hR; clear hts hds hl hlt hR; go_enter Tryz.func93, Tryz.ntmps93
 by_cases hlen : ds.length = ts.length
 ·have dl : ((ds.length : Int) != (ts.length : Int)) = false := by simp; omega
  have inv0 : y6 ((zg ts).drop 0) ((ds.map S.z).drop 0) = R := by rw [<- HR.out]; unfold yO; rw [if_neg ur_, List.drop_zero, List.drop_zero]
  have Inv0 := hh_ inv0; have Hlen := hh_ hlen; clear inv0 hlen; go_wp2
  go_loopw [15] (fun i wr => ∃ k : Nat, k <= ds.length /\ i = .int .i64 k /\ y6 ((zg ts).drop k) ((ds.map S.z).drop k) = R /\ za w wr) (fun i _ => ds.length - (intOf i).toNat)
  case atStart => exact w0_
  case round =>
   obtain ⟨k, hk, rfl, hinv, hg⟩ := hrel; have xt := hh_ hinv; clear hinv
   by_cases hltk : k < ds.length
   ·have hltk2 : k < ts.length := by have := Hlen.out; omega
    obtain ⟨s, hsk⟩ : ∃ s, ds[k]? = some s := ⟨_, qQ_ hltk⟩
    obtain ⟨t, htk⟩ : ∃ t, ts[k]? = some t := ⟨_, qQ_ hltk2⟩
    obtain ⟨g, o, rfl, c1, hz⟩ := (Hds.out.grow hg).s k s hsk; obtain ⟨gt, ot, rfl, c2, hit⟩ := (Hts.out.grow hg) k t htk; have his := (Hds.out.grow hg).each s (qZ_ hsk); have htl : t.xs.length <= 140737488355328 := HL.out t (qZ_ htk); have inv2 := (LB htk hsk).symm.trans xt.out; obtain ⟨E, hE⟩ : ∃ E, zo t.xs s.z = E := ⟨_, rfl⟩
    rw [hE] at inv2; have cs := fun W (h : za wr W) => jw t.xs t.A t.cap s.xs s.A s.cap W uX_ (hit.grow h) (his.grow h)
    have hE' : zo t.xs (s.xs.map zh) = E := hE; simp only [hE'] at cs; have CS := hh_ cs; have Inv2 := hh_ inv2; clear inv2 hsk htk hz his hit hE hE' cs
    by_cases hw : E = 0
    ·have dw : (E != 0) = false := by simpa using hw
     go_wp2_with (go_at_call 23; ((with_reducible refine (CS.out _ ze).mono ?_); rintro e w2 ⟨rfl, hg2⟩))
     go_roundw
     case rel => exact xJ_
     case measure => exact u1_
    ·have dw : (E != 0) = true := by simpa using hw
     go_wp2_with (go_at_call 23; ((with_reducible refine (CS.out _ ze).mono ?_); rintro e w2 ⟨rfl, hg2⟩))
     go_ret; exact zk ox_ (hg.trans hg2)
   ·exact wE_
 ·have dl : ((ds.length : Int) != (ts.length : Int)) = true := by simp; omega
  have e : R = 8 := by rw [<- HR.out]; unfold yO; rw [if_pos ur_]
  go_wp2; go_ret; exact zk e.symm (za.refl _)
/-! query.Play -/
theorem DF {f : Nat -> List Z × Int} {n j : Nat} {zs : List (List Z)} (hj : j < n) (h : (f j).2 = 0) : xD f (n - j) j zs = xD f (n - (j + 1)) (j + 1) (zs ++ [(f j).1]) := by
 rw [show n - j = (n - (j + 1)) + 1 by omega]
 conv => lhs; unfold xD
 rw [if_pos h]
theorem DD {f : Nat -> List Z × Int} {n j : Nat} {zs : List (List Z)} (hj : j < n) (h : (f j).2 ≠ 0) : xD f (n - j) j zs = ((f j).2, zs) := by
 rw [show n - j = (n - (j + 1)) + 1 by omega]
 conv => lhs; unfold xD
 rw [if_neg h]
theorem ke {z : List Z} (h : jq z) : ZJ z := ⟨(SM.of h.2).len, (SM.of h.2).ok⟩
def Tn (ts : List (L2 Int)) (At : Option Addr) (nt : Nat) (ds : List S) (Ad : Option Addr) (nd : Nat) (p : PL) : Prop := ∀ (gx ox : Nat) (w : World), PX w p -> yt w gx ox p -> WO w At ts -> MW w Ad ds nd -> (zn (zg ts) p).2 = 0 ->
 Calls Tryz.prog 94 #[.slice At ts.length nt, .pointer (some ⟨gx, ox, none⟩), .slice Ad ds.length nd] w fun en w' => yr w w' en (zZ (zg ts) (ds.map S.z) p)
theorem SR (ts : List (L2 Int)) (At : Option Addr) (nt : Nat) (ds : List S) (Ad : Option Addr) (nd : Nat) (hd : ds.length = ts.length) (hok : Zj (ds.map S.z)) (n : Int) (x : E) (xs : X5) (ag : XY) (A : Option Addr) (mm cap : Nat) (kid : Nat -> PL) : Tn ts At nt ds Ad nd (.mk 1 n x xs ag A mm cap kid) := by
 intro gx ox w hP hx hts hds h0
 have hn : 0 <= n /\ n.toNat < ts.length := by
  have h1 := (yZ h0).2.2; unfold zH at h1; rw [if_pos rfl] at h1; split at h1
  ·simp at h1
  ·rename_i h2; simp at h2; omega
 obtain ⟨nn, rfl⟩ : ∃ nn : Nat, n = (nn : Int) := ⟨n.toNat, by omega⟩
 have hlt : nn < ds.length := by have := hn.2; simp at this; omega
 obtain ⟨s, hsk⟩ : ∃ s, ds[nn]? = some s := ⟨_, qQ_ hlt⟩
 obtain ⟨g, o, rfl, c1, hz⟩ := hds.s nn s hsk; have hdl := hds.len; have sm := SM.of (hok s.z (qZ9 (qZ_ hsk)))
 have eR : zZ (zg ts) (ds.map S.z) (.mk 1 (nn : Int) x xs ag A mm cap kid) = yy (s.xs.map zh) := by
  unfold zZ; rw [if_pos rfl, List.getD_eq_getElem?_getD]; simp [hsk, S.z]
 rw [eR]; have hl := sm.len; have hlx : s.xs.length <= 400 := by simpa [S.z] using hl
 have cs := fun W (h : za w W) => kW s.xs s.A s.cap W uX_ (hz.grow h) (fun y hy => by have := (sm.ok (zh y) (qZ9 hy)).1; simp only [zh] at this; omega) (fun y hy => (sm.ok (zh y) (qZ9 hy)).2) (fun y hy => by have := sm.bd (zh y) (qZ9 hy); simp only [zh] at this; omega)
 have CS := hh_ cs; obtain ⟨c0, c1', c2, c3, c4, c5, c6, c7, c8, c9, c10⟩ := hx; simp only [PL.k, PL.n, PL.x, PL.xs, PL.ag, PL.A, PL.m, PL.cap] at c0 c1' c2 c3 c4 c5 c6 c7 c8 c9 c10; have k1 : (0 : Int) <= (nn : Int) := by omega
 have k2 : (nn : Int) < (ds.length : Int) := by omega
 clear eR hl hlx cs sm hz hsk hn h0 hP hts hds hok hd; go_enter Tryz.func94, Tryz.ntmps94
 go_wp2_with (go_at_call 29; ((with_reducible refine (CS.out _ ze).mono ?_); rintro en w4 ⟨B, ys, cap9, rfl, hz4, hm4, hk4, hg4⟩; have Out := hh_ (And.intro hz4 (And.intro hm4 hk4)); clear hz4 hm4 hk4))
 refine qX_ o4_ rfl ?_; exact ⟨B, ys, cap9, rfl, Out.out.1, Out.out.2.1, Out.out.2.2, hg4⟩
theorem Vw {k : Int} {mm : Nat} (h1 : (mm : Int) = zJ k) (h2 : 0 <= zJ k) (h3 : k ≠ 1) : mm <= 2 /\ DI k mm mm := by
 unfold DI; unfold zJ at h1 h2
 repeat' split at h1
 all_goals omega
theorem VL (ts : List (L2 Int)) (At : Option Addr) (nt : Nat) (ds : List S) (Ad : Option Addr) (nd : Nat) (hlt : ts.length <= zp) (hl : ∀ t ∈ ts, t.xs.length <= zp) (hok : Zj (ds.map S.z)) (k n : Int) (x : E) (xs : X5) (ag : XY) (A : Option Addr) (mm cap : Nat) (kid : Nat -> PL) (ih : ∀ i, Tn ts At nt ds Ad nd (kid i)) (hk1 : k ≠ 1) : Tn ts At nt ds Ad nd (.mk k n x xs ag A mm cap kid) := by
 intro gx ox w hP hx hts hds h0; have Hx := hh_ hx; have HP := hh_ hP; have Hts := hh_ hts; have Hds := hh_ hds; have H0 := hh_ h0; have HL := hh_ (And.intro hlt hl); have HO := hh_ hok; have nodeE := yZ h0; have knd := Vw nodeE.1 nodeE.2.1 hk1; have Knd := hh_ knd.2; have hn2 : mm <= 2 := knd.1; obtain ⟨R, hR⟩ : ∃ R, zZ (zg ts) (ds.map S.z) (.mk k n x xs ag A mm cap kid) = R := ⟨_, rfl⟩
 rw [hR]; obtain ⟨F, hF⟩ : ∃ F : Nat -> List Z × Int, F = fun i => zZ (zg ts) (ds.map S.z) (kid i) := ⟨_, rfl⟩
 have eR : R = if (xD F mm 0 []).1 ≠ 0 then ([], (xD F mm 0 []).1) else X9 k n x xs.l ag.l ((List.range mm).map (fun i => (zn (zg ts) (kid i)).1)) (xD F mm 0 []).2 := by
  rw [<- hR, hF]
  conv => lhs; unfold zZ
  rw [if_neg hk1]
 have ER := hh_ eR; have HF := hh_ hF; have K1 := hh_ hk1; have dk : (k == 1) = false := by simpa using hk1
 obtain ⟨c0, c1, c2, c3, c4, c5, c6, c7, c8, c9, c10⟩ := hx; simp only [PL.k, PL.n, PL.x, PL.xs, PL.ag, PL.A, PL.m, PL.cap] at c0 c1 c2 c3 c4 c5 c6 c7 c8 c9 c10; clear hP hts hds h0 hlt hl hok nodeE knd hR hF eR hk1; go_enter Tryz.func94, Tryz.ntmps94; go_wp2
 go_loopw [8, 9, 35] (fun tc tz i wr => ∃ (j : Nat) (cs : List (L2 Int)) (zs : List S), j <= mm /\ i = .int .i64 j /\ qA 22 wr w.heap.size tc j (cs.map vL) /\ kJ wr w.heap.size tz j zs /\ za w wr /\ (∀ c ∈ cs, c.xs.length <= 140737488355328 /\ yU wr c.A c.xs) /\ (∀ s ∈ zs, In wr s) /\ cs.length = j /\ zs.length = j /\
   cs.map L2.xs = (List.range j).map (fun i => (zn (zg ts) (kid i)).1) /\ xD F (mm - j) j (zs.map S.z) = xD F mm 0 []) (fun _ _ i _ => mm - (intOf i).toNat)
 case atStart => exact ⟨0, [], [], Nat.zero_le _, rfl, qA.nil _ _ _, kJ.nil _ _, za.refl _, (fun c hc => by simp at hc), (fun s hs => by simp at hs), rfl, rfl, rfl, rfl⟩
 case round =>
  obtain ⟨j, cs, zs, hj, rfl, hown, hownz, hgw, hcs, hzs, hcl, hzl, hcm, hkz⟩ := hrel; have Own := hh_ hown; have OwnZ := hh_ hownz; have HC := hh_ hcs; have HZ := hh_ hzs; have HM := hh_ (And.intro hcl (And.intro hzl (And.intro hcm hkz))); obtain ⟨c0, c1, c2, c3, c4, c5, c6, c7, c8, c9, c10⟩ := Hx.out.grow hgw; simp only [PL.k, PL.n, PL.x, PL.xs, PL.ag, PL.A, PL.m, PL.cap] at c0 c1 c2 c3 c4 c5 c6 c7 c8 c9 c10; clear hown hownz hcs hzs hcl hzl hcm hkz
  by_cases hltj : j < mm
  ·obtain ⟨gk, ok, hA, hck, hEk⟩ : ∃ gk ok, A = some ⟨gk, ok, none⟩ /\ yt w gk (ok + j * 11) (kid j) /\ PX w (kid j) := by
    cases HP.out with
    | mk hm' hc hk =>
     obtain ⟨gk, ok, h1, h2⟩ := hc j hltj; exact ⟨gk, ok, h1, h2, hk j hltj⟩
   subst hA; have h0k := yp H0.out hltj; have ihj := ih j gk (ok + j * 11) wr (hEk.grow hgw) (hck.grow hgw) (Hts.out.grow hgw) (Hds.out.grow hgw) h0k; have eFj : zZ (zg ts) (ds.map S.z) (kid j) = F j := by rw [HF.out]
   rw [eFj] at ihj
   have hsm : (F j).2 = 0 -> ZJ (F j).1 := fun h => by
    have e : zZ (zg ts) (ds.map S.z) (kid j) = ((F j).1, 0) := by rw [eFj, <- h]
    exact ke (ZD HO.out (kid j) (yY h0k) e)
   obtain ⟨q1, q2, hq⟩ : ∃ q1 q2, F j = (q1, q2) := ⟨_, _, rfl⟩
   have cq := fun W (h : za w W) => Y8 ts At nt (kid j) W HL.out.1 HL.out.2 (Hts.out.grow h) (hEk.grow h)
   obtain ⟨C, hC⟩ : ∃ C, (zn (zg ts) (kid j)).1 = C := ⟨_, rfl⟩
   have hCE : zn (zg ts) (kid j) = (C, 0) := Prod.ext hC h0k; have hCl : C.length <= 8 := by rw [<- hC]; exact ju (zg ts) (kid j)
   rw [hCE] at cq; unfold X0 at cq; unfold PL.val at cq; rw [hq] at ihj hsm; unfold yr at ihj; simp only at ihj hsm; have IHJ := hh_ ihj; have CQ := hh_ cq; have HSM := hh_ hsm; have HQ := hh_ hq; have HCE := hh_ hC; have HCK := hh_ hck; clear ihj cq hsm hq h0k eFj hC hCE hck
   by_cases h2 : q2 = 0
   ·subst h2; have d0 : ((0 : Int) != 0) = false := rfl; go_upto_region 9 with (go_at_call 94; ((with_reducible refine IHJ.out.mono ?_); rintro en w2 ⟨B, ys, cap9, rfl, hz, hm, hk, hg2⟩)); have hin : In w2 ⟨B, ys, cap9⟩ := In.sml hz hk (by rw [hm]; exact HSM.out trivial); have HIN := hh_ hin; have HMZ := hh_ hm; have G2 := hgw.trans hg2; clear hz hk hin hm c0 c1 c2 c3 c4 c5 c6 c7 c8 c9 c10; obtain ⟨c0, c1, c2, c3, c4, c5, c6, c7, c8, c9, c10⟩ := Hx.out.grow G2; simp only [PL.k, PL.n, PL.x, PL.xs, PL.ag, PL.A, PL.m, PL.cap] at c0 c1 c2 c3 c4 c5 c6 c7 c8 c9 c10; obtain ⟨k0, k1, k2, k3, k4, k5, k6, k7, k8, k9, k10⟩ := HCK.out.grow G2; go_upto_region 12 with (go_at_call 90; ((with_reducible refine (CQ.out _ G2).mono ?_); rintro en w3 ⟨B3, n3, rfl, hi3, hn3, hg3⟩)); have G23 := hg2.trans hg3; have OwnC := hh_ (Own.out.grow G23); have OwnZ3 := hh_ (OwnZ.out.grow G23); have HI3 := hh_ hi3; have hs3 := (hgw.trans G23).size; clear hi3 hn3 c0 c1 c2 c3 c4 c5 c6 c7 c8 c9 c10 k0 k1 k2 k3 k4 k5 k6 k7 k8 k9 k10; have OwnCA := hh_ (OwnC.out.grow ((za.refl w3).al (.cells #[.slice B3 C.length n3] 22))); have OwnZA := hh_ (OwnZ3.out.grow ((za.refl w3).al (.cells #[.slice B3 C.length n3] 22))); have AP := hh_ (Ka OwnCA.out OwnZA.out); have hsA : w.heap.size <= (w3.alloc (.cells #[.slice B3 C.length n3] 22)).heap.size := by simp; omega
    have HSA := hh_ hsA; clear hsA hs3
    go_wp2_with (first
     | (at_builtin; refine XX kh rfl _ _ rfl w.heap.size _ _ _ rfl OwnCA.out _ _ ⟨_, _, _, rfl⟩ rfl _ (zb.new _ _ _) uX_ HSA.out ?_; intro v5 w5 own5 gb5; have OwnZ5 := hh_ ((OwnZA.out.kept gb5 AP.out.2).grow ((za.refl w5).al (.cells #[.slice B ys.length cap9] 25))); have HS5 := hh_ (Nat.le_trans HSA.out gb5.size); have Own5 := hh_ own5; have GB5 := hh_ gb5; clear own5 gb5)
     | (at_builtin; refine WT rfl _ _ rfl w.heap.size _ _ _ rfl OwnZ5.out _ ⟨B, ys, cap9⟩ rfl _ (zb.new _ _ _) uX_ (by simp; have := HS5.out; omega) ?_; intro v7 w7 own7 gb7; have Own7 := hh_ own7; have GB7 := hh_ gb7; clear own7 gb7))
    have GA : za w w5 := za.own ((hgw.trans G23).al _) GB5.out (fun i hi => (OwnC.out.1.lt i hi).1); have GB : za w w7 := za.own (GA.al _) GB7.out (fun i hi => (OwnZ5.out.1.lt i hi).1)
    have keepC : ∀ c ∈ cs ++ [⟨B3, C, n3⟩], c.xs.length <= 140737488355328 /\ yU w7 c.A c.xs := fun c hc => by
     have h3 : c.xs.length <= 140737488355328 /\ yU w3 c.A c.xs := by
      rcases List.mem_append.1 hc with hc | hc
      ·exact ⟨(HC.out c hc).1, (HC.out c hc).2.grow G23⟩
      ·simp at hc; subst hc; exact ⟨by simp only; omega, HI3.out⟩
     exact ⟨h3.1, (((h3.2.grow ((za.refl _).al _)).gb OwnCA.out.2.1 GB5.out).grow ((za.refl _).al _)).gb OwnZ5.out.2 GB7.out⟩
    have DC : ∀ s ∈ zs ++ [⟨B, ys, cap9⟩], In w7 s := fun s hs => by
     have h3 : In w3 s := by
      rcases List.mem_append.1 hs with hs | hs
      ·exact (HZ.out s hs).grow G23
      ·simp at hs; subst hs; exact HIN.out.grow hg3
     exact (((h3.grow ((za.refl _).al _)).gb OwnCA.out.2.1 GB5.out).grow ((za.refl _).al _)).gb OwnZ5.out.2 GB7.out
    have OwnC7 : qA 22 w7 w.heap.size v5 (j + 1) ((cs ++ [(⟨B3, C, n3⟩ : L2 Int)]).map vL) := by
     have h1 := (Own5.out.grow ((za.refl _).al (.cells #[.slice B ys.length cap9] 25))).kept2 GB7.out (Ka (Own5.out.grow ((za.refl _).al _)) OwnZ5.out).1; simpa using h1
    have fin := DF (f := F) (zs := zs.map S.z) hltj (by rw [HQ.out]); rw [HQ.out] at fin; have HMo := HM.out; have Z7 := hh_ (And.intro GB (And.intro keepC (And.intro DC (And.intro OwnC7 (And.intro fin HMo))))); clear GA GB keepC DC OwnC7 fin HMo; go_roundw
    case rel =>
     obtain ⟨z1, z2, z3, z4, z5, z6, z7, z8, z9⟩ := Z7.out; refine ⟨j + 1, cs ++ [⟨B3, C, n3⟩], zs ++ [⟨B, ys, cap9⟩], by omega, by go_num, z4, Own7.out, z1, z2, z3, by simp [z6], by simp [z7], ?_, ?_⟩
     ·rw [List.map_append, z8, List.range_succ, List.map_append]; simp [HCE.out]
     ·rw [<- z9, z5, List.map_append]; simp only [List.map_cons, List.map_nil, S.z, HMZ.out]
    case measure => exact u1_
   ·have dq : (q2 != 0) = true := by simpa using h2
    have fin : R = ([], q2) := by
     rw [ER.out, <- HM.out.2.2.2, DD (f := F) (zs := zs.map S.z) hltj (by rw [HQ.out]; exact h2), HQ.out, if_pos h2]
    have Fin := hh_ fin; clear fin
    go_wp2_with (go_at_call 94; ((with_reducible refine IHJ.out.mono ?_); rintro en w2 ⟨B, ys, cap9, rfl, hz, hm, hk, hg2⟩; clear hz hm hk))
    refine qX_ o4_ rfl ?_; exact ⟨none, [], 0, by rw [Fin.out]; rfl, zX _ _, by rw [Fin.out]; rfl, yf.nil, hgw.trans hg2⟩
  ·obtain rfl : j = mm := by omega
   obtain ⟨hcl, hzl, hcm, hkz⟩ := HM.out; rw [Nat.sub_self] at hkz; have e0 : xD F j 0 [] = (0, zs.map S.z) := by rw [<- hkz]; rfl
   have fin : R = X9 k n x xs.l ag.l (cs.map L2.xs) (zs.map S.z) := by rw [ER.out, e0, hcm]; simp
   have co := EA k n x xs ag A j cap kid gx ox w.heap.size cs zs _ _ wr (HP.out.grow hgw) (Hx.out.grow hgw) (by rw [hcl, hzl]; exact Knd.out) HC.out HZ.out (by rw [hcl]; exact Own.out) (by rw [hzl]; exact OwnZ.out); rw [<- fin] at co; unfold yr at co; have CO := hh_ co; clear hcl hzl hcm hkz e0 fin co ih
   go_wp2_with (go_at_call 140; ((with_reducible refine CO.out.mono ?_); rintro en w4 ⟨B, ys, cap9, rfl, hz4, hm4, hk4, hg4⟩; have Out := hh_ (And.intro hz4 (And.intro hm4 hk4)); clear hz4 hm4 hk4))
   refine qX_ o4_ rfl ?_; exact ⟨B, ys, cap9, rfl, Out.out.1, Out.out.2.1, Out.out.2.2, hgw.trans hg4⟩
theorem VN (ts : List (L2 Int)) (At : Option Addr) (nt : Nat) (ds : List S) (Ad : Option Addr) (nd : Nat) (hlt : ts.length <= zp) (hl : ∀ t ∈ ts, t.xs.length <= zp) (hd : ds.length = ts.length) (hok : Zj (ds.map S.z)) (p : PL) : Tn ts At nt ds Ad nd p := by
 induction p with
 | leaf => intro gx ox w hP hx hts hds h0; exact absurd rfl (yY h0)
 | mk k n x xs ag A mm cap kid ih =>
  by_cases hk : k = 1
  ·subst hk; exact SR ts At nt ds Ad nd hd hok n x xs ag A mm cap kid
  ·exact VL ts At nt ds Ad nd hlt hl hok k n x xs ag A mm cap kid ih hk
theorem Q2 (ts : List (L2 Int)) (At : Option Addr) (nt : Nat) (p : PL) (ds : List S) (Ad : Option Addr) (nd : Nat) (w : World) (hlt : ts.length <= zp) (hl : ∀ t ∈ ts, t.xs.length <= zp) (hts : WO w At ts) (hp : PX w p) (hds : MW w Ad ds nd) :
  Calls Tryz.prog 41 #[.slice At ts.length nt, p.val, .slice Ad ds.length nd] w fun en w' => yr w w' en (xl (zg ts) p (ds.map S.z)) := by
 have Hts := hh_ hts; have HP := hh_ hp; have Hds := hh_ hds; have HL := hh_ (And.intro hlt hl); obtain ⟨CE, hCE⟩ : ∃ CE, zn (zg ts) p = CE := ⟨_, rfl⟩
 obtain ⟨DE, hDE⟩ : ∃ DE, yO (zg ts) (ds.map S.z) = DE := ⟨_, rfl⟩
 obtain ⟨R, hR⟩ : ∃ R, xl (zg ts) p (ds.map S.z) = R := ⟨_, rfl⟩
 have cc := fun W (h : za w W) => Y8 ts At nt p W hlt hl (hts.grow h) (hp.grow h)
 have cd := fun W (h : za w W) => Mq ts At nt ds Ad nd W hlt hl (hts.grow h) (hds.grow h)
 have cp := fun (h1 : CE.2 = 0) (h2 : DE = 0) W (h : za w W) gx (B : yt W gx 0 p) => VN ts At nt ds Ad nd hlt hl (by
  rw [h2] at hDE; unfold yO at hDE; split at hDE
  ·simp at hDE
  ·rename_i h3; simpa using h3) (YN (by rw [hDE, h2])) p gx 0 W (hp.grow h) B (hts.grow h) (hds.grow h) (by rw [hCE, h1])
 rw [hR]; have fin : R = if CE.2 ≠ 0 then ([], CE.2) else if DE ≠ 0 then ([], DE) else zZ (zg ts) (ds.map S.z) p := by rw [<- hR]; unfold xl; rw [hCE, hDE]
 have Fin := hh_ fin; rw [hCE] at cc; simp only [hDE] at cd; unfold X0 at cc; unfold yr at cp; have hB : ∀ W g, zb W g 39 #[.int .i64 p.k, .int .i64 p.n, .int .i64 p.x.kind, .int .i64 p.x.v.k, .int .i64 p.x.v.n, .string p.x.v.s, .int .i64 p.x.col, .slice p.x.A p.x.n p.x.cap, .slice p.xs.A p.xs.l.length p.xs.c, .slice p.ag.A p.ag.l.length p.ag.c, .slice p.A p.m p.cap] -> yt W g 0 p := fun W g B => ⟨B.cells rfl, B.cells rfl, B.cells rfl, B.cells rfl, B.cells rfl, B.cells rfl, B.cells rfl, B.cells rfl, B.cells rfl, B.cells rfl, B.cells rfl⟩
 have HB := hh_ hB; unfold PL.val at cc ⊢; have CC := hh_ cc; have CD := hh_ cd; have CP := hh_ cp; clear hts hp hds hlt hl hCE hDE hR cc cd cp fin hB; go_enter Tryz.func41, Tryz.ntmps41; go_upto_region 1 with fail
 refine zc (fun X => zb X w.heap.size 39 #[.int .i64 p.k, .int .i64 p.n, .int .i64 p.x.kind, .int .i64 p.x.v.k, .int .i64 p.x.v.n, .string p.x.v.s, .int .i64 p.x.col, .slice p.x.A p.x.n p.x.cap, .slice p.xs.A p.xs.l.length p.xs.c, .slice p.ag.A p.ag.l.length p.ag.c, .slice p.A p.m p.cap] /\ za w X) ⟨zb.new _ _ _, (za.refl w).al _⟩ ?_; rintro X ⟨BX0, G⟩; have BX := hh_ BX0; obtain ⟨bx, fx⟩ := BX0.rules; have lx := BX0.lt; clear BX0; generalize w.heap.size = gx at *; go_upto_region 2 with (go_at_call 90; ((refine (CC.out _ G).mono ?_); rintro en w3 ⟨B3, n3, rfl, hi3, hn3, hg3⟩)); clear hi3 hn3 bx fx lx
 by_cases h1 : CE.2 = 0
 ·have d1 : (CE.2 != 0) = false := by simp [h1]
  have H1 := hh_ h1; clear h1; go_upto_region 5 with (go_at_call 93; ((refine (CD.out _ (G.trans hg3)).mono ?_); rintro en w4 ⟨rfl, hg4⟩))
  by_cases h2 : DE = 0
  ·have d2 : (DE != 0) = false := by simp [h2]
   have fin2 : R = zZ (zg ts) (ds.map S.z) p := by rw [Fin.out, if_neg (by simp [H1.out]), if_neg uT_]
   have cp := CP.out H1.out h2 w4 (G.trans (hg3.trans hg4)) gx (HB.out _ _ (BX.out.grow (hg3.trans hg4))); rw [<- fin2] at cp; have CP2 := hh_ cp; clear fin2 cp h2
   go_wp2_with (go_at_call 94; ((with_reducible refine CP2.out.mono ?_); rintro en w5 ⟨B, ys, cap9, rfl, hz4, hm4, hk4, hg5⟩; have Out := hh_ (And.intro hz4 (And.intro hm4 hk4)); clear hz4 hm4 hk4))
   refine qX_ o5_ rfl ?_; exact ⟨B, ys, cap9, rfl, Out.out.1, Out.out.2.1, Out.out.2.2, G.trans (hg3.trans (hg4.trans hg5))⟩
  ·have d2 : (DE != 0) = true := by simpa using h2
   have fin2 : R = ([], DE) := by rw [Fin.out, if_neg (by simp [H1.out]), if_pos h2]
   have Fin2 := hh_ fin2; clear fin2; go_wp2; refine qX_ o5_ rfl ?_; exact ⟨none, [], 0, by rw [Fin2.out]; rfl, zX _ _, by rw [Fin2.out]; rfl, yf.nil, G.trans (hg3.trans hg4)⟩
 ·have d1 : (CE.2 != 0) = true := by simpa using h1
  have fin2 : R = ([], CE.2) := by rw [Fin.out, if_pos h1]
  have Fin2 := hh_ fin2; clear fin2; go_wp2; refine qX_ o5_ rfl ?_; exact ⟨none, [], 0, by rw [Fin2.out]; rfl, zX _ _, by rw [Fin2.out]; rfl, yf.nil, G.trans hg3⟩
