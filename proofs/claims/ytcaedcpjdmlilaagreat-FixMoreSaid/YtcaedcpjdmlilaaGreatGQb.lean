/-
 Joined texts of this claim: Qn, Qo, Qo2. What each proves its own head says; no condition beside those that each theorem names.
-/
import Derived.Test.YtcaedcpjdmlilaaGreatGQa
import Derived.Test.YtcaedcpjdmlilaaGreatGVc
import Derived.Test.YtcaedcpjdmlilaaGreatGGa
import Derived.Test.YtcaedcpjdmlilaaGreatGTc
import Derived.Test.YtcaedcpjdmlilaaGreatGN
import Derived.Test.YtcaedcpjdmlilaaGreatGWa
set_option maxRecDepth 100000
set_option maxHeartbeats 8000000
namespace Go.Proofs.YtcaedcpjdmlilaaGreat
open Go.RowKit Go.Calm
set_option linter.unusedSimpArgs false
set_option linter.unusedVariables false
def GT (r : List Z × Int) (v : Value) (W : World) : Prop := ∃ (B : Option Addr) (ys : List I) (cap : Nat), v = .tuple #[.slice B ys.length cap, .int .i64 r.2] /\ xF W B ys /\ ys.map zj = r.1 /\ yw B ys.length cap
def GS (r : List Z × Int) (v : Value) (W : World) : Prop := ∃ (B : Option Addr) (ys : List I) (cap : Nat), v = .slice B ys.length cap /\ xF W B ys /\ ys.map zj = r.1 /\ yw B ys.length cap
theorem GT.pers (r : List Z × Int) : xx (GT r) := fun v w w' hg ⟨B, ys, cap, e, h, m, k⟩ => ⟨B, ys, cap, e, h.grow hg, m, k⟩
theorem GS.pers (r : List Z × Int) : xx (GS r) := fun v w w' hg ⟨B, ys, cap, e, h, m, k⟩ => ⟨B, ys, cap, e, h.grow hg, m, k⟩
abbrev sL (s : S) : Value := .slice s.A s.xs.length s.cap
inductive Qk where
 | f | m | g | t | j | s | a | l | d | u | p | q
@[reducible] def Qk.k : Qk -> Int
 | .f => 2 | .m => 3 | .g => 12 | .t => 13 | .j => 4 | .s => 5 | .a => 6 | .l => 7 | .d => 8 | .u => 9 | .p => 10 | .q => 11
@[reducible] def Qk.n : Qk -> Nat
 | .f => 1 | .m => 1 | .g => 1 | .t => 1 | .p => 1 | .q => 1 | _ => 2
@[reducible] def Qk.c : Qk -> Nat
 | .f => 13 | .m => 13 | .g => 17 | .t => 17 | .d => 9 | .u => 9 | _ => 19
structure Nn (n : Nat) : Prop where
 t : True
@[reducible] def Qk.fn : Qk -> Nat
 | .f => 108
 | .m => 109
 | .g => 116
 | .t => 117
 | .j => 110
 | .s => 111
 | .a => 112
 | .l => 113
 | .d => 26
 | .u => 114
 | .p => 115
 | .q => 22
@[reducible] def Qk.args (qk : Qk) (n : Int) (x : E) (xs : jj) (ag : jh) (a b : L2 Int) (s t : S) : Array Value := match qk with
 | .f => #[vL a, x.val, sL s]
 | .m => #[vL a, .slice xs.A xs.l.length xs.c, sL s]
 | .g => #[vL a, .slice xs.A xs.l.length xs.c, .slice ag.A ag.l.length ag.c, sL s]
 | .t => #[vL a, .slice xs.A xs.l.length xs.c, .int .i64 n, sL s]
 | .d => #[sL s, sL t]
 | .u => #[sL s, sL t]
 | .p => #[sL s]
 | .q => #[sL s]
 | _ => #[vL a, vL b, x.val, sL s, sL t]
theorem jB (qk : Qk) (n : Int) (x : E) (xs : jj) (ag : jh) (A : Option Addr) (mm cap : Nat) (kid : Nat -> PL) (gx ox g1 nc g2 nz : Nat) (a b : L2 Int) (s t : S) (w : World) (hx : zX w gx ox (.mk qk.k n x xs ag A mm cap kid)) (C0 : w.cell? ⟨g1, 0, none⟩ = some (vL a)) (Z0 : w.cell? ⟨g2, 0, none⟩ = some (sL s)) (C1 : qk.n = 2 -> w.cell? ⟨g1, 1, none⟩ = some (vL b)) (Z1 : qk.n = 2 -> w.cell? ⟨g2, 1, none⟩ = some (sL t)) (R : List Z × Int)
    (cq : ∀ W, za w W -> Calls Tryz.prog qk.fn (qk.args n x xs ag a b s t) W fun en w' => yu W w' en R) :
    Calls Tryz.prog 77 #[.pointer (some ⟨gx, ox, none⟩), .slice (some ⟨g1, 0, none⟩) qk.n nc, .slice (some ⟨g2, 0, none⟩) qk.n nz] w fun en w' => yu w w' en R := by
  have Hx := Lib.hid hx; have Hc := Lib.hid (And.intro C0 Z0); obtain ⟨c0, c1, c2, c3, c4, c5, c6, c7, c8, c9, c10⟩ := hx; simp only [PL.k, PL.n, PL.x, PL.xs, PL.ag, PL.A, PL.m, PL.cap] at c0 c1 c2 c3 c4 c5 c6 c7 c8 c9 c10; have hn : Nn qk.c := ⟨trivial⟩
  cases qk
  all_goals as_aux_lemma =>
    dsimp only [Qk.k, Qk.n, Qk.c, Qk.fn, Qk.args] at *
    try unfold E.val at cq
    have CQ := Lib.hid cq
    try (replace C1 := C1 rfl; replace Z1 := Z1 rfl)
    have H1 := Lib.hid (And.intro C1 Z1); clear cq C1 Z1; go_enter Tryz.func77, Tryz.ntmps77
    first
    | (go_wp2_with ((first | go_at_call 115 | go_at_call 22); ((with_reducible refine (CQ.out _ (za.refl _)).mono ?_); rintro en w4 ⟨B, ys, cap9, rfl, hz4, hm4, hk4, hg4⟩; have Out := Lib.hid (And.intro hz4 (And.intro hm4 hk4)); clear hz4 hm4 hk4))
       refine bodyPost_ret (by simp [results, Tryz.results77, go_sem] <;> rfl) rfl ?_
       exact ⟨B, ys, cap9, rfl, Out.out.1, Out.out.2.1, Out.out.2.2, hg4⟩)
    | (clear C0 Z0
       go_wp2
       first | (replace hn : Nn 13 := hn; apply wp_region_calm 13 (by kernel_rfl) (by kernel_rfl)) | (replace hn : Nn 17 := hn; apply wp_region_calm 17 (by kernel_rfl) (by kernel_rfl)) | (replace hn : Nn 19 := hn; apply wp_region_calm 19 (by kernel_rfl) (by kernel_rfl)) | (replace hn : Nn 9 := hn; apply wp_region_calm 9 (by kernel_rfl) (by kernel_rfl))
       case h' =>
         intro Q0 hQ0; simp only [List.take_succ_cons, List.take_zero]
         repeat ((first | ((first | apply calm_p rfl | apply zg rfl rfl rfl); case h1 => (intro w1 hw1 hF K hK; obtain ⟨c0, c1, c2, c3, c4, c5, c6, c7, c8, c9, c10⟩ := Hx.out.grow hw1; simp only [PL.k, PL.n, PL.x, PL.xs, PL.ag, PL.A, PL.m, PL.cap] at c0 c1 c2 c3 c4 c5 c6 c7 c8 c9 c10; have e1 := hw1.cell Hc.out.1; have e2 := hw1.cell Hc.out.2; (try (have e3 := hw1.cell H1.out.1; have e4 := hw1.cell H1.out.2)); go_simp; first | exact hK _ (za.refl _))) | apply ze rfl rfl rfl rfl); intro K hK; go_simp; apply hK; clear hK K)
         apply calm_fp (GT R) rfl
         case h1 =>
           intro w1 hw1 hF K hK; obtain ⟨c0, c1, c2, c3, c4, c5, c6, c7, c8, c9, c10⟩ := Hx.out.grow hw1; simp only [PL.k, PL.n, PL.x, PL.xs, PL.ag, PL.A, PL.m, PL.cap] at c0 c1 c2 c3 c4 c5 c6 c7 c8 c9 c10; have e1 := hw1.cell Hc.out.1; have e2 := hw1.cell Hc.out.2
           try (have e3 := hw1.cell H1.out.1; have e4 := hw1.cell H1.out.2)
           go_simp
           first | go_at_call 108 | go_at_call 109 | go_at_call 116 | go_at_call 117 | go_at_call 110 | go_at_call 111 | go_at_call 112 | go_at_call 113 | go_at_call 26 | go_at_call 114
           refine (CQ.out w1 hw1).mono ?_; rintro en w' ⟨B, ys, cap9, rfl, hz, hm, hk, hg'⟩; exact ⟨_, rfl, hK _ _ hg' ⟨B, ys, cap9, rfl, hz, hm, hk⟩⟩
         intro v130 K hK; go_simp; apply hK; clear hK K; apply calm_fp (GS R) rfl
         case h1 =>
           intro w1 hw1 hF K hK; obtain ⟨B, ys, cap9, hv, hz, hm, hk⟩ := hF _ (List.mem_cons_self ..) ⟨_, rfl, by decide⟩; subst hv; go_simp; exact hK _ _ (za.refl _) ⟨B, ys, cap9, rfl, hz, hm, hk⟩
         intro v131 K hK; go_simp; apply hK; clear hK K; apply calm_p rfl
         case h1 =>
           intro w1 hw1 hF K hK; obtain ⟨B, ys, cap9, hv, hz, hm, hk⟩ := hF _ (List.mem_cons_of_mem _ (List.mem_cons_self ..)) ⟨_, rfl, by decide⟩; subst hv; go_simp; exact hK _ (za.refl _)
         intro K hK; go_simp; apply hK; clear hK K; refine calm_nil ?_; intro w1 hw1 hF; apply hQ0; clear hQ0; simp only [List.drop_succ_cons, List.drop_zero]; obtain ⟨B, ys, cap9, hv, hz, hm, hk⟩ := hF _ (List.mem_cons_self ..); subst hv; have Out := Lib.hid (And.intro hz (And.intro hm hk)); clear hF hz hm hk; go_wp2; refine bodyPost_ret (by simp [results, Tryz.results77, go_sem] <;> rfl) rfl ?_; exact ⟨B, ys, cap9, rfl, Out.out.1, Out.out.2.1, Out.out.2.2, hw1⟩
       case hp' => exact ⟨GT.pers _, GS.pers _, trivial⟩)
/-! two rows of a call's own beside each other -/
theorem jC.kept {w w' : World} {base n : Nat} {v : Value} {ss : List S} {row : Option Nat} (h : jC w base v n ss) (hg : w.grownBy w' row) (hn : v.ownBlock = none \/ v.ownBlock ≠ row) : jC w' base v n ss := by
 refine ⟨h.1.kept hg hn, fun g' hv j u hu => h.2 g' hv j u ?_⟩; rw [<- ZA hg (h.1.lt g' hv).2 (by rw [<- hv]; rcases hn with e | e; rw [hv] at e; cases e; exact e)]; exact hu
theorem ql.kept2 {te : TypeId} {w w' : World} {base n : Nat} {v : Value} {vs : List Value} {row : Option Nat} (h : ql te w base v n vs) (hg : w.grownBy w' row) (hn : v.ownBlock = none \/ v.ownBlock ≠ row) : ql te w' base v n vs := by
 refine ⟨h.1.kept hg hn, fun g' hv j u hu => h.2.1 g' hv j u ?_, h.2.2⟩; rw [<- ZA hg (h.1.lt g' hv).2 (by rw [<- hv]; rcases hn with e | e; rw [hv] at e; cases e; exact e)]; exact hu
theorem J8 {w : World} {b1 b2 n1 n2 : Nat} {u v : Value} {vs : List Value} {ss : List S} (h1 : ql 33 w b1 u n1 vs) (h2 : jC w b2 v n2 ss) : (u.ownBlock = none \/ u.ownBlock ≠ v.ownBlock) /\ (v.ownBlock = none \/ v.ownBlock ≠ u.ownBlock) := by
 rcases h1.1.2 with ⟨rfl, _⟩ | ⟨g1, c1, cur1, rfl, _, hg1, _⟩
 ·refine ⟨.inl rfl, ?_⟩; rcases h2.1.2 with ⟨rfl, _⟩ | ⟨g2, c2, cur2, rfl, _, hg2, _⟩
  ·exact .inl rfl
  ·exact .inr (by simp [Value.ownBlock])
 ·rcases h2.1.2 with ⟨rfl, _⟩ | ⟨g2, c2, cur2, rfl, _, hg2, _⟩
  ·exact ⟨.inr (by simp [Value.ownBlock]), .inl rfl⟩
  ·have hne : g1 ≠ g2 := fun e => by
    subst e; rw [hg1] at hg2; simp at hg2
   exact ⟨.inr (by simp [Value.ownBlock]; omega), .inr (by simp [Value.ownBlock]; omega)⟩
theorem jC.one {w : World} {base : Nat} {v : Value} {a : S} (h : jC w base v 1 [a]) : ∃ (g1 cap : Nat), v = .slice (some ⟨g1, 0, none⟩) 1 cap /\ w.cell? ⟨g1, 0, none⟩ = some (sL a) := by
 rcases h.1.2 with ⟨_, h0⟩ | ⟨g, cap, cur, rfl, _⟩
 ·omega
 ·exact ⟨g, cap, rfl, by have := h.1.cells (g := g) rfl 0 _ rfl; simpa [yn, S.v'] using this⟩
theorem jC.two {w : World} {base : Nat} {v : Value} {a b : S} (h : jC w base v 2 [a, b]) : ∃ (g1 cap : Nat), v = .slice (some ⟨g1, 0, none⟩) 2 cap /\ w.cell? ⟨g1, 0, none⟩ = some (sL a) /\ w.cell? ⟨g1, 1, none⟩ = some (sL b) := by
 rcases h.1.2 with ⟨_, h0⟩ | ⟨g, cap, cur, rfl, _⟩
 ·omega
 ·exact ⟨g, cap, rfl, by have := h.1.cells (g := g) rfl 0 _ rfl; simpa [yn, S.v'] using this, by have := h.1.cells (g := g) rfl 1 _ rfl; simpa [yn, S.v'] using this⟩
def Cp (k : Int) (a b : Nat) : Prop := ((k = 2 \/ k = 3 \/ k = 10 \/ k = 11 \/ k = 12 \/ k = 13) /\ a = 1 /\ b = 1) \/ ((k = 4 \/ k = 5 \/ k = 6 \/ k = 7 \/ k = 8 \/ k = 9) /\ a = 2 /\ b = 2)
theorem Dr (k n : Int) (x : E) (xs : jj) (ag : jh) (A : Option Addr) (mm cap : Nat) (kid : Nat -> PL) (gx ox base : Nat) (cs : List (L2 Int)) (zs : List S) (tc tz : Value) (w : World) (hP : PX w (.mk k n x xs ag A mm cap kid)) (hx : zX w gx ox (.mk k n x xs ag A mm cap kid)) (hk : Cp k cs.length zs.length) (hc : ∀ c ∈ cs, c.xs.length <= 140737488355328 /\ xe w c.A c.xs) (hz : ∀ s ∈ zs, In w s)
  (oc : ql 33 w base tc cs.length (cs.map vL)) (oz : jC w base tz zs.length zs) :
  Calls Tryz.prog 77 #[.pointer (some ⟨gx, ox, none⟩), tc, tz] w fun en w' => yu w w' en (kY k n x xs.l ag.l (cs.map L2.xs) (zs.map S.z)) := by
 obtain ⟨hEx, hES, hAG, hlens⟩ : EX w x /\ KG w xs.A xs.l /\ Y6 w ag.A ag.l /\ (xs.l.length <= zz /\ ag.l.length <= zz) := by cases hP with | mk hm hc hk hx hs ha hl hi => exact ⟨hx, hs, ha, hl⟩
 unfold zz at hlens; rcases hk with ⟨hk, l1, l2⟩ | ⟨hk, l1, l2⟩
 ·obtain ⟨a, rfl⟩ := List.length_eq_one_iff.1 l1; obtain ⟨s, rfl⟩ := List.length_eq_one_iff.1 l2; obtain ⟨g1, n1, rfl, C0⟩ := ql.one (a := a) oc; obtain ⟨g2, n2, rfl, Z0⟩ := jC.one oz; obtain ⟨hl, hi⟩ := hc a (by simp); have hs := hz s (by simp); rcases hk with rfl | rfl | rfl | rfl | rfl | rfl
  ·exact jB .f n x xs ag A mm cap kid gx ox g1 n1 g2 n2 a a s s w hx C0 Z0 (fun h => by cases h) (fun h => by cases h) _ (fun W h => R3 a.xs a.A a.cap x s.xs s.A s.cap W (by omega) (hi.grow h) (hEx.grow h) (hs.grow h))
  ·exact jB .m n x xs ag A mm cap kid gx ox g1 n1 g2 n2 a a s s w hx C0 Z0 (fun h => by cases h) (fun h => by cases h) _ (fun W h => Fn a.xs a.A a.cap xs.l xs.A xs.c s.xs s.A s.cap W (by omega) (by omega) (hi.grow h) (hES.grow h) (hs.grow h))
  ·exact jB .p n x xs ag A mm cap kid gx ox g1 n1 g2 n2 a a s s w hx C0 Z0 (fun h => by cases h) (fun h => by cases h) _ (fun W h => FX s W (hs.grow h))
  ·exact jB .q n x xs ag A mm cap kid gx ox g1 n1 g2 n2 a a s s w hx C0 Z0 (fun h => by cases h) (fun h => by cases h) _ (fun W h => W7 s W (hs.grow h))
  ·exact jB .g n x xs ag A mm cap kid gx ox g1 n1 g2 n2 a a s s w hx C0 Z0 (fun h => by cases h) (fun h => by cases h) _ (fun W h => UJ a.xs a.A a.cap xs.l xs.A xs.c ag.l ag.A ag.c s.xs s.A s.cap W (by omega) (by omega) (by omega) (hi.grow h) (hES.grow h) (hAG.grow h) (hs.grow h))
  ·exact jB .t n x xs ag A mm cap kid gx ox g1 n1 g2 n2 a a s s w hx C0 Z0 (fun h => by cases h) (fun h => by cases h) _ (fun W h => GC a.xs a.A a.cap xs.l xs.A xs.c n s.xs s.A s.cap W (by omega) (by omega) (hi.grow h) (hES.grow h) (hs.grow h))
 ·obtain ⟨a, b, rfl⟩ := MN l1; obtain ⟨s, t, rfl⟩ := MN l2; obtain ⟨g1, n1, rfl, C0, C1⟩ := ql.two (a := a) (b := b) oc; obtain ⟨g2, n2, rfl, Z0, Z1⟩ := jC.two oz; obtain ⟨hl, hi⟩ := hc a (by simp); obtain ⟨hl2, hi2⟩ := hc b (by simp); have hs := hz s (by simp); have ht := hz t (by simp); rcases hk with rfl | rfl | rfl | rfl | rfl | rfl
  ·exact jB .j n x xs ag A mm cap kid gx ox g1 n1 g2 n2 a b s t w hx C0 Z0 (fun _ => C1) (fun _ => Z1) _ (fun W h => U9 a b x s t W hl hl2 (hi.grow h) (hi2.grow h) (hEx.grow h) (hs.grow h) (ht.grow h))
  ·exact jB .s n x xs ag A mm cap kid gx ox g1 n1 g2 n2 a b s t w hx C0 Z0 (fun _ => C1) (fun _ => Z1) _ (fun W h => Dz a b x s t W hl hl2 (hi.grow h) (hi2.grow h) (hEx.grow h) (hs.grow h) (ht.grow h))
  ·exact jB .a n x xs ag A mm cap kid gx ox g1 n1 g2 n2 a b s t w hx C0 Z0 (fun _ => C1) (fun _ => Z1) _ (fun W h => VV a b x s t W hl hl2 (hi.grow h) (hi2.grow h) (hEx.grow h) (hs.grow h) (ht.grow h))
  ·exact jB .l n x xs ag A mm cap kid gx ox g1 n1 g2 n2 a b s t w hx C0 Z0 (fun _ => C1) (fun _ => Z1) _ (fun W h => Cv a b x s t W hl hl2 (hi.grow h) (hi2.grow h) (hEx.grow h) (hs.grow h) (ht.grow h))
  ·exact jB .d n x xs ag A mm cap kid gx ox g1 n1 g2 n2 a b s t w hx C0 Z0 (fun _ => C1) (fun _ => Z1) _ (fun W h => Mp s t W (hs.grow h) (ht.grow h))
  ·exact jB .u n x xs ag A mm cap kid gx ox g1 n1 g2 n2 a b s t w hx C0 Z0 (fun _ => C1) (fun _ => Z1) _ (fun W h => Gq s t W (hs.grow h) (ht.grow h))
/-! query.Data -/
theorem Ll {α β : Type} {l : List α} {k : Nat} {x : α} (f : α -> β) (h : l[k]? = some x) : (l.map f).drop k = f x :: (l.map f).drop (k + 1) := by
 obtain ⟨h1, e1⟩ := List.getElem?_eq_some_iff.1 h; rw [List.drop_eq_getElem_cons (by simpa using h1)]; simp [e1]
theorem Uv {ts : List (L2 Int)} {ds : List S} {k : Nat} {t : L2 Int} {s : S} (h1 : ts[k]? = some t) (h2 : ds[k]? = some s) : jA ((zh ts).drop k) ((ds.map S.z).drop k) = if zF t.xs s.z ≠ 0 then zF t.xs s.z else jA ((zh ts).drop (k + 1)) ((ds.map S.z).drop (k + 1)) := by
 rw [Ll L2.xs h1, Ll S.z h2]; rfl
theorem L7 (ts : List (L2 Int)) (At : Option Addr) (nt : Nat) (ds : List S) (Ad : Option Addr) (nd : Nat) (w : World) (hlt : ts.length <= zz) (hl : ∀ t ∈ ts, t.xs.length <= zz) (hts : Nr w At ts) (hds : Ro w Ad ds nd) :
  Calls Tryz.prog 37 #[.slice At ts.length nt, .slice Ad ds.length nd] w fun en w' => en = .returned (.int .i64 (qD (zh ts) (ds.map S.z))) /\ za w w' := by
 have Hts := Lib.hid hts; have Hds := Lib.hid hds; have HL := Lib.hid hl; have hlt' : ts.length <= 140737488355328 := hlt; have hdl := hds.len; obtain ⟨R, hR⟩ : ∃ R, qD (zh ts) (ds.map S.z) = R := ⟨_, rfl⟩
 rw [hR]; have HR := Lib.hid hR; clear hts hds hl hlt hR; go_enter Tryz.func37, Tryz.ntmps37
 by_cases hlen : ds.length = ts.length
 ·have dl : ((ds.length : Int) != (ts.length : Int)) = false := by simp; omega
  have inv0 : jA ((zh ts).drop 0) ((ds.map S.z).drop 0) = R := by rw [<- HR.out]; unfold qD; rw [if_neg (by simpa using hlen), List.drop_zero, List.drop_zero]
  have Inv0 := Lib.hid inv0; have Hlen := Lib.hid hlen; clear inv0 hlen; go_wp2
  go_loopw [15] (fun i wr => ∃ k : Nat, k <= ds.length /\ i = .int .i64 k /\ jA ((zh ts).drop k) ((ds.map S.z).drop k) = R /\ za w wr) (fun i _ => ds.length - (intOf i).toNat)
  case atStart => exact ⟨0, Nat.zero_le _, rfl, Inv0.out, za.refl _⟩
  case round =>
   obtain ⟨k, hk, rfl, hinv, hg⟩ := hrel; have jd := Lib.hid hinv; clear hinv
   by_cases hltk : k < ds.length
   ·have hltk2 : k < ts.length := by have := Hlen.out; omega
    obtain ⟨s, hsk⟩ : ∃ s, ds[k]? = some s := ⟨_, List.getElem?_eq_getElem hltk⟩
    obtain ⟨t, htk⟩ : ∃ t, ts[k]? = some t := ⟨_, List.getElem?_eq_getElem hltk2⟩
    obtain ⟨g, o, rfl, c1, hz⟩ := (Hds.out.grow hg).s k s hsk; obtain ⟨gt, ot, rfl, c2, hit⟩ := (Hts.out.grow hg) k t htk; have his := (Hds.out.grow hg).each s (List.mem_of_getElem? hsk); have htl : t.xs.length <= 140737488355328 := HL.out t (List.mem_of_getElem? htk); have inv2 := (Uv htk hsk).symm.trans jd.out; obtain ⟨E, hE⟩ : ∃ E, zF t.xs s.z = E := ⟨_, rfl⟩
    rw [hE] at inv2; have cs := fun W (h : za wr W) => qW t.xs t.A t.cap s.xs s.A s.cap W (by omega) (hit.grow h) (his.grow h)
    have hE' : zF t.xs (s.xs.map zj) = E := hE; simp only [hE'] at cs; have CS := Lib.hid cs; have Inv2 := Lib.hid inv2; clear inv2 hsk htk hz his hit hE hE' cs
    by_cases hw : E = 0
    ·have dw : (E != 0) = false := by simpa using hw
     go_wp2_with (go_at_call 76; ((with_reducible refine (CS.out _ (by with_reducible repeat (first | exact za.refl _ | assumption | refine za.set ?_ (by simp <;> omega) _ | refine za.al ?_ _ | refine za.drew ?_ | refine za.drewN ?_ _ | refine za.trans ?_ (by assumption)))).mono ?_); rintro e w2 ⟨rfl, hg2⟩))
     go_roundw
     case rel => exact ⟨k + 1, by omega, by go_num, by have := Inv2.out; rw [if_neg (by simpa using hw)] at this; exact this, hg.trans hg2⟩
     case measure => simp [intOf]; omega
    ·have dw : (E != 0) = true := by simpa using hw
     go_wp2_with (go_at_call 76; ((with_reducible refine (CS.out _ (by with_reducible repeat (first | exact za.refl _ | assumption | refine za.set ?_ (by simp <;> omega) _ | refine za.al ?_ _ | refine za.drew ?_ | refine za.drewN ?_ _ | refine za.trans ?_ (by assumption)))).mono ?_); rintro e w2 ⟨rfl, hg2⟩))
     go_ret; exact zA (by have := Inv2.out; rw [if_pos hw] at this; exact this) (hg.trans hg2)
   ·obtain rfl : k = ds.length := by omega
    have fin : R = 0 := by
     have := jd.out; rw [show (ds.map S.z).drop ds.length = [] from List.drop_eq_nil_of_le (by simp)] at this; rw [<- this]; unfold jA; split
     ·rename_i h; simp at h
     ·rfl
    go_wp2; go_ret; exact zA fin.symm hg
 ·have dl : ((ds.length : Int) != (ts.length : Int)) = true := by simp; omega
  have e : R = 8 := by rw [<- HR.out]; unfold qD; rw [if_pos (by simpa using hlen)]
  go_wp2; go_ret; exact zA e.symm (za.refl _)
/-! query.Play -/
theorem Cl {f : Nat -> List Z × Int} {n j : Nat} {zs : List (List Z)} (hj : j < n) (h : (f j).2 = 0) : yj f (n - j) j zs = yj f (n - (j + 1)) (j + 1) (zs ++ [(f j).1]) := by
 rw [show n - j = (n - (j + 1)) + 1 by omega]
 conv => lhs; unfold yj
 rw [if_pos h]
theorem Ci {f : Nat -> List Z × Int} {n j : Nat} {zs : List (List Z)} (hj : j < n) (h : (f j).2 ≠ 0) : yj f (n - j) j zs = ((f j).2, zs) := by
 rw [show n - j = (n - (j + 1)) + 1 by omega]
 conv => lhs; unfold yj
 rw [if_neg h]
theorem jS {z : List Z} (h : yv z) : WZ z := ⟨(SM.of h.2).len, (SM.of h.2).ok⟩
def S4 (ts : List (L2 Int)) (At : Option Addr) (nt : Nat) (ds : List S) (Ad : Option Addr) (nd : Nat) (p : PL) : Prop := ∀ (gx ox : Nat) (w : World), PX w p -> zX w gx ox p -> Nr w At ts -> Ro w Ad ds nd -> (zi (zh ts) p).2 = 0 ->
 Calls Tryz.prog 38 #[.slice At ts.length nt, .pointer (some ⟨gx, ox, none⟩), .slice Ad ds.length nd] w fun en w' => yu w w' en (yr (zh ts) (ds.map S.z) p)
theorem SA (ts : List (L2 Int)) (At : Option Addr) (nt : Nat) (ds : List S) (Ad : Option Addr) (nd : Nat) (hd : ds.length = ts.length) (hok : Xi (ds.map S.z)) (n : Int) (x : E) (xs : jj) (ag : jh) (A : Option Addr) (mm cap : Nat) (kid : Nat -> PL) : S4 ts At nt ds Ad nd (.mk 1 n x xs ag A mm cap kid) := by
 intro gx ox w hP hx hts hds h0
 have hn : 0 <= n /\ n.toNat < ts.length := by
  have h1 := (xQ h0).2.2; unfold zT at h1; rw [if_pos rfl] at h1; split at h1
  ·simp at h1
  ·rename_i h2; simp at h2; omega
 obtain ⟨nn, rfl⟩ : ∃ nn : Nat, n = (nn : Int) := ⟨n.toNat, by omega⟩
 have hlt : nn < ds.length := by have := hn.2; simp at this; omega
 obtain ⟨s, hsk⟩ : ∃ s, ds[nn]? = some s := ⟨_, List.getElem?_eq_getElem hlt⟩
 obtain ⟨g, o, rfl, c1, hz⟩ := hds.s nn s hsk; have hdl := hds.len; have sm := SM.of (hok s.z (List.mem_map_of_mem (List.mem_of_getElem? hsk)))
 have eR : yr (zh ts) (ds.map S.z) (.mk 1 (nn : Int) x xs ag A mm cap kid) = yN (s.xs.map zj) := by
  unfold yr; rw [if_pos rfl, List.getD_eq_getElem?_getD]; simp [hsk, S.z]
 rw [eR]; have hl := sm.len; have hlx : s.xs.length <= 400 := by simpa [S.z] using hl
 have cs := fun W (h : za w W) => kF s.xs s.A s.cap W (by omega) (hz.grow h) (fun y hy => by have := (sm.ok (zj y) (List.mem_map_of_mem hy)).1; simp only [zj] at this; omega) (fun y hy => (sm.ok (zj y) (List.mem_map_of_mem hy)).2) (fun y hy => by have := sm.bd (zj y) (List.mem_map_of_mem hy); simp only [zj] at this; omega)
 have CS := Lib.hid cs; obtain ⟨c0, c1', c2, c3, c4, c5, c6, c7, c8, c9, c10⟩ := hx; simp only [PL.k, PL.n, PL.x, PL.xs, PL.ag, PL.A, PL.m, PL.cap] at c0 c1' c2 c3 c4 c5 c6 c7 c8 c9 c10; have k1 : (0 : Int) <= (nn : Int) := by omega
 have k2 : (nn : Int) < (ds.length : Int) := by omega
 clear eR hl hlx cs sm hz hsk hn h0 hP hts hds hok hd; go_enter Tryz.func38, Tryz.ntmps38
 go_wp2_with (go_at_call 52; ((with_reducible refine (CS.out _ (by with_reducible repeat (first | exact za.refl _ | assumption | refine za.set ?_ (by simp <;> omega) _ | refine za.al ?_ _ | refine za.drew ?_ | refine za.drewN ?_ _ | refine za.trans ?_ (by assumption)))).mono ?_); rintro en w4 ⟨B, ys, cap9, rfl, hz4, hm4, hk4, hg4⟩; have Out := Lib.hid (And.intro hz4 (And.intro hm4 hk4)); clear hz4 hm4 hk4))
 refine bodyPost_ret (by simp [results, Tryz.results38, go_sem] <;> rfl) rfl ?_; exact ⟨B, ys, cap9, rfl, Out.out.1, Out.out.2.1, Out.out.2.2, hg4⟩
theorem Va {k : Int} {mm : Nat} (h1 : (mm : Int) = zo k) (h2 : 0 <= zo k) (h3 : k ≠ 1) : mm <= 2 /\ Cp k mm mm := by
 unfold Cp; unfold zo at h1 h2
 repeat' split at h1
 all_goals omega
theorem Vh (ts : List (L2 Int)) (At : Option Addr) (nt : Nat) (ds : List S) (Ad : Option Addr) (nd : Nat) (hlt : ts.length <= zz) (hl : ∀ t ∈ ts, t.xs.length <= zz) (hok : Xi (ds.map S.z)) (k n : Int) (x : E) (xs : jj) (ag : jh) (A : Option Addr) (mm cap : Nat) (kid : Nat -> PL) (ih : ∀ i, S4 ts At nt ds Ad nd (kid i)) (hk1 : k ≠ 1) : S4 ts At nt ds Ad nd (.mk k n x xs ag A mm cap kid) := by
 intro gx ox w hP hx hts hds h0; have Hx := Lib.hid hx; have HP := Lib.hid hP; have Hts := Lib.hid hts; have Hds := Lib.hid hds; have H0 := Lib.hid h0; have HL := Lib.hid (And.intro hlt hl); have HO := Lib.hid hok; have nodeE := xQ h0; have knd := Va nodeE.1 nodeE.2.1 hk1; have Knd := Lib.hid knd.2; have hn2 : mm <= 2 := knd.1; obtain ⟨R, hR⟩ : ∃ R, yr (zh ts) (ds.map S.z) (.mk k n x xs ag A mm cap kid) = R := ⟨_, rfl⟩
 rw [hR]; obtain ⟨F, hF⟩ : ∃ F : Nat -> List Z × Int, F = fun i => yr (zh ts) (ds.map S.z) (kid i) := ⟨_, rfl⟩
 have eR : R = if (yj F mm 0 []).1 ≠ 0 then ([], (yj F mm 0 []).1) else kY k n x xs.l ag.l ((List.range mm).map (fun i => (zi (zh ts) (kid i)).1)) (yj F mm 0 []).2 := by
  rw [<- hR, hF]
  conv => lhs; unfold yr
  rw [if_neg hk1]
 have ER := Lib.hid eR; have HF := Lib.hid hF; have K1 := Lib.hid hk1; have dk : (k == 1) = false := by simpa using hk1
 obtain ⟨c0, c1, c2, c3, c4, c5, c6, c7, c8, c9, c10⟩ := hx; simp only [PL.k, PL.n, PL.x, PL.xs, PL.ag, PL.A, PL.m, PL.cap] at c0 c1 c2 c3 c4 c5 c6 c7 c8 c9 c10; clear hP hts hds h0 hlt hl hok nodeE knd hR hF eR hk1; go_enter Tryz.func38, Tryz.ntmps38; go_wp2
 go_loopw [8, 9, 35] (fun tc tz i wr => ∃ (j : Nat) (cs : List (L2 Int)) (zs : List S), j <= mm /\ i = .int .i64 j /\ ql 33 wr w.heap.size tc j (cs.map vL) /\ jC wr w.heap.size tz j zs /\ za w wr /\ (∀ c ∈ cs, c.xs.length <= 140737488355328 /\ xe wr c.A c.xs) /\ (∀ s ∈ zs, In wr s) /\ cs.length = j /\ zs.length = j /\
   cs.map L2.xs = (List.range j).map (fun i => (zi (zh ts) (kid i)).1) /\ yj F (mm - j) j (zs.map S.z) = yj F mm 0 []) (fun _ _ i _ => mm - (intOf i).toNat)
 case atStart => exact ⟨0, [], [], Nat.zero_le _, rfl, ql.nil _ _ _, jC.nil _ _, za.refl _, (fun c hc => by simp at hc), (fun s hs => by simp at hs), rfl, rfl, rfl, rfl⟩
 case round =>
  obtain ⟨j, cs, zs, hj, rfl, hown, hownz, hgw, hcs, hzs, hcl, hzl, hcm, hkz⟩ := hrel; have Own := Lib.hid hown; have OwnZ := Lib.hid hownz; have HC := Lib.hid hcs; have HZ := Lib.hid hzs; have HM := Lib.hid (And.intro hcl (And.intro hzl (And.intro hcm hkz))); obtain ⟨c0, c1, c2, c3, c4, c5, c6, c7, c8, c9, c10⟩ := Hx.out.grow hgw; simp only [PL.k, PL.n, PL.x, PL.xs, PL.ag, PL.A, PL.m, PL.cap] at c0 c1 c2 c3 c4 c5 c6 c7 c8 c9 c10; clear hown hownz hcs hzs hcl hzl hcm hkz
  by_cases hltj : j < mm
  ·obtain ⟨gk, ok, hA, hck, hEk⟩ : ∃ gk ok, A = some ⟨gk, ok, none⟩ /\ zX w gk (ok + j * 11) (kid j) /\ PX w (kid j) := by
    cases HP.out with
    | mk hm' hc hk =>
     obtain ⟨gk, ok, h1, h2⟩ := hc j hltj; exact ⟨gk, ok, h1, h2, hk j hltj⟩
   subst hA; have h0k := xh H0.out hltj; have ihj := ih j gk (ok + j * 11) wr (hEk.grow hgw) (hck.grow hgw) (Hts.out.grow hgw) (Hds.out.grow hgw) h0k; have eFj : yr (zh ts) (ds.map S.z) (kid j) = F j := by rw [HF.out]
   rw [eFj] at ihj
   have hsm : (F j).2 = 0 -> WZ (F j).1 := fun h => by
    have e : yr (zh ts) (ds.map S.z) (kid j) = ((F j).1, 0) := by rw [eFj, <- h]
    exact jS (ZI HO.out (kid j) (y9 h0k) e)
   obtain ⟨q1, q2, hq⟩ : ∃ q1 q2, F j = (q1, q2) := ⟨_, _, rfl⟩
   have cq := fun W (h : za w W) => jR ts At nt (kid j) W HL.out.1 HL.out.2 (Hts.out.grow h) (hEk.grow h)
   obtain ⟨C, hC⟩ : ∃ C, (zi (zh ts) (kid j)).1 = C := ⟨_, rfl⟩
   have hCE : zi (zh ts) (kid j) = (C, 0) := Prod.ext hC h0k; have hCl : C.length <= 8 := by rw [<- hC]; exact Zw (zh ts) (kid j)
   rw [hCE] at cq; unfold Zi at cq; unfold PL.val at cq; rw [hq] at ihj hsm; unfold yu at ihj; simp only at ihj hsm; have IHJ := Lib.hid ihj; have CQ := Lib.hid cq; have HSM := Lib.hid hsm; have HQ := Lib.hid hq; have HCE := Lib.hid hC; have HCK := Lib.hid hck; clear ihj cq hsm hq h0k eFj hC hCE hck
   by_cases h2 : q2 = 0
   ·subst h2; have d0 : ((0 : Int) != 0) = false := rfl; go_upto_region 9 with (go_at_call 38; ((with_reducible refine IHJ.out.mono ?_); rintro en w2 ⟨B, ys, cap9, rfl, hz, hm, hk, hg2⟩)); have hin : In w2 ⟨B, ys, cap9⟩ := In.sml hz hk (by rw [hm]; exact HSM.out trivial); have HIN := Lib.hid hin; have HMZ := Lib.hid hm; have G2 := hgw.trans hg2; clear hz hk hin hm c0 c1 c2 c3 c4 c5 c6 c7 c8 c9 c10; obtain ⟨c0, c1, c2, c3, c4, c5, c6, c7, c8, c9, c10⟩ := Hx.out.grow G2; simp only [PL.k, PL.n, PL.x, PL.xs, PL.ag, PL.A, PL.m, PL.cap] at c0 c1 c2 c3 c4 c5 c6 c7 c8 c9 c10; obtain ⟨k0, k1, k2, k3, k4, k5, k6, k7, k8, k9, k10⟩ := HCK.out.grow G2; go_upto_region 12 with (go_at_call 11; ((with_reducible refine (CQ.out _ G2).mono ?_); rintro en w3 ⟨B3, n3, rfl, hi3, hn3, hg3⟩)); have G23 := hg2.trans hg3; have OwnC := Lib.hid (Own.out.grow G23); have OwnZ3 := Lib.hid (OwnZ.out.grow G23); have HI3 := Lib.hid hi3; have hs3 := (hgw.trans G23).size; clear hi3 hn3 c0 c1 c2 c3 c4 c5 c6 c7 c8 c9 c10 k0 k1 k2 k3 k4 k5 k6 k7 k8 k9 k10; have OwnCA := Lib.hid (OwnC.out.grow ((za.refl w3).al (.cells #[.slice B3 C.length n3] 33))); have OwnZA := Lib.hid (OwnZ3.out.grow ((za.refl w3).al (.cells #[.slice B3 C.length n3] 33))); have AP := Lib.hid (J8 OwnCA.out OwnZA.out); have hsA : w.heap.size <= (w3.alloc (.cells #[.slice B3 C.length n3] 33)).heap.size := by simp; omega
    have HSA := Lib.hid hsA; clear hsA hs3
    go_wp2_with (first
     | (at_builtin; refine XQ YS rfl _ _ rfl w.heap.size _ _ _ rfl OwnCA.out _ _ ⟨_, _, _, rfl⟩ rfl _ (zb.new _ _ _) (by omega) HSA.out ?_; intro v5 w5 own5 gb5; have OwnZ5 := Lib.hid ((OwnZA.out.kept gb5 AP.out.2).grow ((za.refl w5).al (.cells #[.slice B ys.length cap9] 38))); have HS5 := Lib.hid (Nat.le_trans HSA.out gb5.size); have Own5 := Lib.hid own5; have GB5 := Lib.hid gb5; clear own5 gb5)
     | (at_builtin; refine XP rfl _ _ rfl w.heap.size _ _ _ rfl OwnZ5.out _ ⟨B, ys, cap9⟩ rfl _ (zb.new _ _ _) (by omega) (by simp; have := HS5.out; omega) ?_; intro v7 w7 own7 gb7; have Own7 := Lib.hid own7; have GB7 := Lib.hid gb7; clear own7 gb7))
    have GA : za w w5 := za.own ((hgw.trans G23).al _) GB5.out (fun i hi => (OwnC.out.1.lt i hi).1); have GB : za w w7 := za.own (GA.al _) GB7.out (fun i hi => (OwnZ5.out.1.lt i hi).1)
    have keepC : ∀ c ∈ cs ++ [⟨B3, C, n3⟩], c.xs.length <= 140737488355328 /\ xe w7 c.A c.xs := fun c hc => by
     have h3 : c.xs.length <= 140737488355328 /\ xe w3 c.A c.xs := by
      rcases List.mem_append.1 hc with hc | hc
      ·exact ⟨(HC.out c hc).1, (HC.out c hc).2.grow G23⟩
      ·simp at hc; subst hc; exact ⟨by simp only; omega, HI3.out⟩
     exact ⟨h3.1, (((h3.2.grow ((za.refl _).al _)).gb OwnCA.out.2.1 GB5.out).grow ((za.refl _).al _)).gb OwnZ5.out.2 GB7.out⟩
    have Cg : ∀ s ∈ zs ++ [⟨B, ys, cap9⟩], In w7 s := fun s hs => by
     have h3 : In w3 s := by
      rcases List.mem_append.1 hs with hs | hs
      ·exact (HZ.out s hs).grow G23
      ·simp at hs; subst hs; exact HIN.out.grow hg3
     exact (((h3.grow ((za.refl _).al _)).gb OwnCA.out.2.1 GB5.out).grow ((za.refl _).al _)).gb OwnZ5.out.2 GB7.out
    have OwnC7 : ql 33 w7 w.heap.size v5 (j + 1) ((cs ++ [(⟨B3, C, n3⟩ : L2 Int)]).map vL) := by
     have h1 := (Own5.out.grow ((za.refl _).al (.cells #[.slice B ys.length cap9] 38))).kept2 GB7.out (J8 (Own5.out.grow ((za.refl _).al _)) OwnZ5.out).1; simpa using h1
    have fin := Cl (f := F) (zs := zs.map S.z) hltj (by rw [HQ.out]); rw [HQ.out] at fin; have HMo := HM.out; have Z7 := Lib.hid (And.intro GB (And.intro keepC (And.intro Cg (And.intro OwnC7 (And.intro fin HMo))))); clear GA GB keepC Cg OwnC7 fin HMo; go_roundw
    case rel =>
     obtain ⟨z1, z2, z3, z4, z5, z6, z7, z8, z9⟩ := Z7.out; refine ⟨j + 1, cs ++ [⟨B3, C, n3⟩], zs ++ [⟨B, ys, cap9⟩], by omega, by go_num, z4, Own7.out, z1, z2, z3, by simp [z6], by simp [z7], ?_, ?_⟩
     ·rw [List.map_append, z8, List.range_succ, List.map_append]; simp [HCE.out]
     ·rw [<- z9, z5, List.map_append]; simp only [List.map_cons, List.map_nil, S.z, HMZ.out]
    case measure => simp [intOf]; omega
   ·have dq : (q2 != 0) = true := by simpa using h2
    have fin : R = ([], q2) := by
     rw [ER.out, <- HM.out.2.2.2, Ci (f := F) (zs := zs.map S.z) hltj (by rw [HQ.out]; exact h2), HQ.out, if_pos h2]
    have Fin := Lib.hid fin; clear fin
    go_wp2_with (go_at_call 38; ((with_reducible refine IHJ.out.mono ?_); rintro en w2 ⟨B, ys, cap9, rfl, hz, hm, hk, hg2⟩; clear hz hm hk))
    refine bodyPost_ret (by simp [results, Tryz.results38, go_sem] <;> rfl) rfl ?_; exact ⟨none, [], 0, by rw [Fin.out]; rfl, yd _ _, by rw [Fin.out]; rfl, yw.nil, hgw.trans hg2⟩
  ·obtain rfl : j = mm := by omega
   obtain ⟨hcl, hzl, hcm, hkz⟩ := HM.out; rw [Nat.sub_self] at hkz; have e0 : yj F j 0 [] = (0, zs.map S.z) := by rw [<- hkz]; rfl
   have fin : R = kY k n x xs.l ag.l (cs.map L2.xs) (zs.map S.z) := by rw [ER.out, e0, hcm]; simp
   have co := Dr k n x xs ag A j cap kid gx ox w.heap.size cs zs _ _ wr (HP.out.grow hgw) (Hx.out.grow hgw) (by rw [hcl, hzl]; exact Knd.out) HC.out HZ.out (by rw [hcl]; exact Own.out) (by rw [hzl]; exact OwnZ.out); rw [<- fin] at co; unfold yu at co; have CO := Lib.hid co; clear hcl hzl hcm hkz e0 fin co ih
   go_wp2_with (go_at_call 77; ((with_reducible refine CO.out.mono ?_); rintro en w4 ⟨B, ys, cap9, rfl, hz4, hm4, hk4, hg4⟩; have Out := Lib.hid (And.intro hz4 (And.intro hm4 hk4)); clear hz4 hm4 hk4))
   refine bodyPost_ret (by simp [results, Tryz.results38, go_sem] <;> rfl) rfl ?_; exact ⟨B, ys, cap9, rfl, Out.out.1, Out.out.2.1, Out.out.2.2, hgw.trans hg4⟩
theorem Vj (ts : List (L2 Int)) (At : Option Addr) (nt : Nat) (ds : List S) (Ad : Option Addr) (nd : Nat) (hlt : ts.length <= zz) (hl : ∀ t ∈ ts, t.xs.length <= zz) (hd : ds.length = ts.length) (hok : Xi (ds.map S.z)) (p : PL) : S4 ts At nt ds Ad nd p := by
 induction p with
 | leaf => intro gx ox w hP hx hts hds h0; exact absurd rfl (y9 h0)
 | mk k n x xs ag A mm cap kid ih =>
  by_cases hk : k = 1
  ·subst hk; exact SA ts At nt ds Ad nd hd hok n x xs ag A mm cap kid
  ·exact Vh ts At nt ds Ad nd hlt hl hok k n x xs ag A mm cap kid ih hk
theorem YQ (ts : List (L2 Int)) (At : Option Addr) (nt : Nat) (p : PL) (ds : List S) (Ad : Option Addr) (nd : Nat) (w : World) (hlt : ts.length <= zz) (hl : ∀ t ∈ ts, t.xs.length <= zz) (hts : Nr w At ts) (hp : PX w p) (hds : Ro w Ad ds nd) :
  Calls Tryz.prog 14 #[.slice At ts.length nt, p.val, .slice Ad ds.length nd] w fun en w' => yu w w' en (yS (zh ts) p (ds.map S.z)) := by
 have Hts := Lib.hid hts; have HP := Lib.hid hp; have Hds := Lib.hid hds; have HL := Lib.hid (And.intro hlt hl); obtain ⟨CE, hCE⟩ : ∃ CE, zi (zh ts) p = CE := ⟨_, rfl⟩
 obtain ⟨DE, hDE⟩ : ∃ DE, qD (zh ts) (ds.map S.z) = DE := ⟨_, rfl⟩
 obtain ⟨R, hR⟩ : ∃ R, yS (zh ts) p (ds.map S.z) = R := ⟨_, rfl⟩
 have cc := fun W (h : za w W) => jR ts At nt p W hlt hl (hts.grow h) (hp.grow h)
 have cd := fun W (h : za w W) => L7 ts At nt ds Ad nd W hlt hl (hts.grow h) (hds.grow h)
 have cp := fun (h1 : CE.2 = 0) (h2 : DE = 0) W (h : za w W) gx (B : zX W gx 0 p) => Vj ts At nt ds Ad nd hlt hl (by
  rw [h2] at hDE; unfold qD at hDE; split at hDE
  ·simp at hDE
  ·rename_i h3; simpa using h3) (Z8 (by rw [hDE, h2])) p gx 0 W (hp.grow h) B (hts.grow h) (hds.grow h) (by rw [hCE, h1])
 rw [hR]; have fin : R = if CE.2 ≠ 0 then ([], CE.2) else if DE ≠ 0 then ([], DE) else yr (zh ts) (ds.map S.z) p := by rw [<- hR]; unfold yS; rw [hCE, hDE]
 have Fin := Lib.hid fin; rw [hCE] at cc; simp only [hDE] at cd; unfold Zi at cc; unfold yu at cp; have hB : ∀ W g, zb W g 31 #[.int .i64 p.k, .int .i64 p.n, .int .i64 p.x.kind, .int .i64 p.x.v.k, .int .i64 p.x.v.n, .string p.x.v.s, .int .i64 p.x.col, .slice p.x.A p.x.n p.x.cap, .slice p.xs.A p.xs.l.length p.xs.c, .slice p.ag.A p.ag.l.length p.ag.c, .slice p.A p.m p.cap] -> zX W g 0 p := fun W g B => ⟨B.cells rfl, B.cells rfl, B.cells rfl, B.cells rfl, B.cells rfl, B.cells rfl, B.cells rfl, B.cells rfl, B.cells rfl, B.cells rfl, B.cells rfl⟩
 have HB := Lib.hid hB; unfold PL.val at cc ⊢; have CC := Lib.hid cc; have CD := Lib.hid cd; have CP := Lib.hid cp; clear hts hp hds hlt hl hCE hDE hR cc cd cp fin hB; go_enter Tryz.func14, Tryz.ntmps14; go_upto_region 1 with fail
 refine zc (fun X => zb X w.heap.size 31 #[.int .i64 p.k, .int .i64 p.n, .int .i64 p.x.kind, .int .i64 p.x.v.k, .int .i64 p.x.v.n, .string p.x.v.s, .int .i64 p.x.col, .slice p.x.A p.x.n p.x.cap, .slice p.xs.A p.xs.l.length p.xs.c, .slice p.ag.A p.ag.l.length p.ag.c, .slice p.A p.m p.cap] /\ za w X) ⟨zb.new _ _ _, (za.refl w).al _⟩ ?_; rintro X ⟨BX0, G⟩; have BX := Lib.hid BX0; obtain ⟨bx, fx⟩ := BX0.rules; have lx := BX0.lt; clear BX0; generalize w.heap.size = gx at *; go_upto_region 2 with (go_at_call 11; ((refine (CC.out _ G).mono ?_); rintro en w3 ⟨B3, n3, rfl, hi3, hn3, hg3⟩)); clear hi3 hn3 bx fx lx
 by_cases h1 : CE.2 = 0
 ·have d1 : (CE.2 != 0) = false := by simp [h1]
  have H1 := Lib.hid h1; clear h1; go_upto_region 5 with (go_at_call 37; ((refine (CD.out _ (G.trans hg3)).mono ?_); rintro en w4 ⟨rfl, hg4⟩))
  by_cases h2 : DE = 0
  ·have d2 : (DE != 0) = false := by simp [h2]
   have fin2 : R = yr (zh ts) (ds.map S.z) p := by rw [Fin.out, if_neg (by simp [H1.out]), if_neg (by simp [h2])]
   have cp := CP.out H1.out h2 w4 (G.trans (hg3.trans hg4)) gx (HB.out _ _ (BX.out.grow (hg3.trans hg4))); rw [<- fin2] at cp; have CP2 := Lib.hid cp; clear fin2 cp h2
   go_wp2_with (go_at_call 38; ((with_reducible refine CP2.out.mono ?_); rintro en w5 ⟨B, ys, cap9, rfl, hz4, hm4, hk4, hg5⟩; have Out := Lib.hid (And.intro hz4 (And.intro hm4 hk4)); clear hz4 hm4 hk4))
   refine bodyPost_ret (by simp [results, Tryz.results14, go_sem] <;> rfl) rfl ?_; exact ⟨B, ys, cap9, rfl, Out.out.1, Out.out.2.1, Out.out.2.2, G.trans (hg3.trans (hg4.trans hg5))⟩
  ·have d2 : (DE != 0) = true := by simpa using h2
   have fin2 : R = ([], DE) := by rw [Fin.out, if_neg (by simp [H1.out]), if_pos h2]
   have Fin2 := Lib.hid fin2; clear fin2; go_wp2; refine bodyPost_ret (by simp [results, Tryz.results14, go_sem] <;> rfl) rfl ?_; exact ⟨none, [], 0, by rw [Fin2.out]; rfl, yd _ _, by rw [Fin2.out]; rfl, yw.nil, G.trans (hg3.trans hg4)⟩
 ·have d1 : (CE.2 != 0) = true := by simpa using h1
  have fin2 : R = ([], CE.2) := by rw [Fin.out, if_pos h1]
  have Fin2 := Lib.hid fin2; clear fin2; go_wp2; refine bodyPost_ret (by simp [results, Tryz.results14, go_sem] <;> rfl) rfl ?_; exact ⟨none, [], 0, by rw [Fin2.out]; rfl, yd _ _, by rw [Fin2.out]; rfl, yw.nil, G.trans hg3⟩
theorem Hp {ts : List (List Int)} {data : List (List Z)} {p : PL} {a : List Z} {e : Int} {w : World} {B : Option Addr} {ys : List I} {cap : Nat} (h : yS ts p data = (a, e)) (he : e = 0) (hz : xF w B ys) (hm : ys.map zj = a) (hk : yw B ys.length cap) : In w ⟨B, ys, cap⟩ := by
 subst he; exact In.sml hz hk (by rw [hm]; exact jS (JB h))
end Go.Proofs.YtcaedcpjdmlilaaGreat

