/- Parts of a proof. No condition. -/
import Derived.Test.YthhbiemnbkfobaaGreatGQa
import Derived.Test.YthhbiemnbkfobaaGreatGN
set_option maxRecDepth 100000
set_option maxHeartbeats 8000000
set_option maxRecDepth 100000
set_option linter.unusedSimpArgs false
set_option linter.unusedVariables false
namespace Go
variable {p : Prop}
theorem oL_ (h : p := by simp [results, Tryz.results31, go_sem] <;> rfl) : p := h
theorem oM_ (h : p := by simp [results, Tryz.results17, go_sem] <;> rfl) : p := h
theorem oP_ (h : p := by simp [results, Tryz.results8, go_sem] <;> rfl) : p := h
theorem wz_ (h : p := by
 simp at hc; subst hc; exact ⟨by simp only; omega, HI3.out⟩) : p := h
end Go
namespace Go.Proofs.YthhbiemnbkfobaaGreat
open Go.RowKit Go.Calm
def GT (r : List Z × Int) (v : Value) (W : World) : Prop := ∃ (B : Option Addr) (ys : List I) (cap : Nat), v = .tuple #[.slice B ys.length cap, .int .i64 r.2] /\ yI W B ys /\ ys.map zp = r.1 /\ zN B ys.length cap
def GS (r : List Z × Int) (v : Value) (W : World) : Prop := ∃ (B : Option Addr) (ys : List I) (cap : Nat), v = .slice B ys.length cap /\ yI W B ys /\ ys.map zp = r.1 /\ zN B ys.length cap
theorem GT.pers (r : List Z × Int) : qT (GT r) := fun v w w' hg ⟨B, ys, cap, e, h, m, k⟩ => ⟨B, ys, cap, e, h.grow hg, m, k⟩
theorem GS.pers (r : List Z × Int) : qT (GS r) := fun v w w' hg ⟨B, ys, cap, e, h, m, k⟩ => ⟨B, ys, cap, e, h.grow hg, m, k⟩
abbrev sL (s : S) : Value := .slice s.A s.xs.length s.cap
inductive Qk where
  | f | m | g | t | j | s | a | l | d | u | p | q
@[reducible] def Qk.k : Qk -> Int
  | .f => 2 | .m => 3 | .g => 12 | .t => 13 | .j => 4 | .s => 5 | .a => 6 | .l => 7 | .d => 8 | .u => 9 | .p => 10 | .q => 11
@[reducible] def Qk.n : Qk -> Nat
  | .f => 1 | .m => 1 | .g => 1 | .t => 1 | .p => 1 | .q => 1 | _ => 2
@[reducible] def Qk.c : Qk -> Nat
  | .f => 13 | .m => 13 | .g => 17 | .t => 17 | .d => 9 | .u => 9 | _ => 19
structure Nn (n : Nat) : Prop where
  t : True
@[reducible] def Qk.fn : Qk -> Nat
  | .f => 48
  | .m => 49
  | .g => 56
  | .t => 57
  | .j => 50
  | .s => 51
  | .a => 52
  | .l => 53
  | .d => 32
  | .u => 22
  | .p => 54
  | .q => 55
@[reducible] def Qk.args (qk : Qk) (n : Int) (x : E) (xs : jw) (ag : ju) (a b : L2 Int) (s t : S) : Array Value := match qk with
  | .f => #[vL a, x.val, sL s]
  | .m => #[vL a, .slice xs.A xs.l.length xs.c, sL s]
  | .g => #[vL a, .slice xs.A xs.l.length xs.c, .slice ag.A ag.l.length ag.c, sL s]
  | .t => #[vL a, .slice xs.A xs.l.length xs.c, .int .i64 n, sL s]
  | .d => #[sL s, sL t]
  | .u => #[sL s, sL t]
  | .p => #[sL s]
  | .q => #[sL s]
  | _ => #[vL a, vL b, x.val, sL s, sL t]
theorem qV (qk : Qk) (n : Int) (x : E) (xs : jw) (ag : ju) (A : Option Addr) (mm cap : Nat) (kid : Nat -> PL) (gx ox g1 nc g2 nz : Nat) (a b : L2 Int) (s t : S) (w : World) (hx : zJ w gx ox (.mk qk.k n x xs ag A mm cap kid)) (C0 : w.cell? ⟨g1, 0, none⟩ = some (vL a)) (Z0 : w.cell? ⟨g2, 0, none⟩ = some (sL s)) (C1 : qk.n = 2 -> w.cell? ⟨g1, 1, none⟩ = some (vL b)) (Z1 : qk.n = 2 -> w.cell? ⟨g2, 1, none⟩ = some (sL t)) (R : List Z × Int)
    (cq : ∀ W, za w W -> Calls Tryz.prog qk.fn (qk.args n x xs ag a b s t) W fun en w' => yK W w' en R) :
    Calls Tryz.prog 31 #[.pointer (some ⟨gx, ox, none⟩), .slice (some ⟨g1, 0, none⟩) qk.n nc, .slice (some ⟨g2, 0, none⟩) qk.n nz] w fun en w' => yK w w' en R := by
  have Hx := hh_ hx; have Hc := hh_ (And.intro C0 Z0); obtain ⟨c0, c1, c2, c3, c4, c5, c6, c7, c8, c9, c10⟩ := hx; simp only [PL.k, PL.n, PL.x, PL.xs, PL.ag, PL.A, PL.m, PL.cap] at c0 c1 c2 c3 c4 c5 c6 c7 c8 c9 c10; have hn : Nn qk.c := ⟨trivial⟩
  cases qk
  all_goals as_aux_lemma =>
    dsimp only [Qk.k, Qk.n, Qk.c, Qk.fn, Qk.args] at *
    try unfold E.val at cq
    have CQ := hh_ cq
    try (replace C1 := C1 rfl; replace Z1 := Z1 rfl)
    have H1 := hh_ (And.intro C1 Z1); clear cq C1 Z1; go_enter Tryz.func31, Tryz.ntmps31
    first
    | (go_wp2_with ((first | go_at_call 54 | go_at_call 55); ((with_reducible refine (CQ.out _ (za.refl _)).mono ?_); rintro en w4 ⟨B, ys, cap9, rfl, hz4, hm4, hk4, hg4⟩; have Out := hh_ (And.intro hz4 (And.intro hm4 hk4)); clear hz4 hm4 hk4))
       refine qX_ oL_ rfl ?_
       exact ⟨B, ys, cap9, rfl, Out.out.1, Out.out.2.1, Out.out.2.2, hg4⟩)
    | (clear C0 Z0
       go_wp2
       first | (replace hn : Nn 13 := hn; apply zb 13 vP_ vP_) | (replace hn : Nn 17 := hn; apply zb 17 vP_ vP_) | (replace hn : Nn 19 := hn; apply zb 19 vP_ vP_) | (replace hn : Nn 9 := hn; apply zb 9 vP_ vP_)
       case h' =>
         intro Q0 hQ0; simp only [List.take_succ_cons, List.take_zero]
         repeat ((first | ((first | apply zh rfl | apply zo rfl rfl rfl); case h1 => (intro w1 hw1 hF K hK; obtain ⟨c0, c1, c2, c3, c4, c5, c6, c7, c8, c9, c10⟩ := Hx.out.grow hw1; simp only [PL.k, PL.n, PL.x, PL.xs, PL.ag, PL.A, PL.m, PL.cap] at c0 c1 c2 c3 c4 c5 c6 c7 c8 c9 c10; have e1 := hw1.cell Hc.out.1; have e2 := hw1.cell Hc.out.2; (try (have e3 := hw1.cell H1.out.1; have e4 := hw1.cell H1.out.2)); go_simp; first | exact hK _ (za.refl _))) | apply zm rfl rfl rfl rfl); intro K hK; go_simp; apply hK; clear hK K)
         apply ze (GT R) rfl
         case h1 =>
           intro w1 hw1 hF K hK; obtain ⟨c0, c1, c2, c3, c4, c5, c6, c7, c8, c9, c10⟩ := Hx.out.grow hw1; simp only [PL.k, PL.n, PL.x, PL.xs, PL.ag, PL.A, PL.m, PL.cap] at c0 c1 c2 c3 c4 c5 c6 c7 c8 c9 c10; have e1 := hw1.cell Hc.out.1; have e2 := hw1.cell Hc.out.2
           try (have e3 := hw1.cell H1.out.1; have e4 := hw1.cell H1.out.2)
           go_simp
           first | go_at_call 48 | go_at_call 49 | go_at_call 56 | go_at_call 57 | go_at_call 50 | go_at_call 51 | go_at_call 52 | go_at_call 53 | go_at_call 32 | go_at_call 22
           refine (CQ.out w1 hw1).mono ?_; rintro en w' ⟨B, ys, cap9, rfl, hz, hm, hk, hg'⟩; exact ⟨_, rfl, hK _ _ hg' ⟨B, ys, cap9, rfl, hz, hm, hk⟩⟩
         intro v130 K hK; go_simp; apply hK; clear hK K; apply ze (GS R) rfl
         case h1 =>
           intro w1 hw1 hF K hK; obtain ⟨B, ys, cap9, hv, hz, hm, hk⟩ := hF _ (List.mem_cons_self ..) ⟨_, rfl, by decide⟩; subst hv; go_simp; exact hK _ _ (za.refl _) ⟨B, ys, cap9, rfl, hz, hm, hk⟩
         intro v131 K hK; go_simp; apply hK; clear hK K; apply zh rfl
         case h1 =>
           intro w1 hw1 hF K hK; obtain ⟨B, ys, cap9, hv, hz, hm, hk⟩ := hF _ (List.mem_cons_of_mem _ (List.mem_cons_self ..)) ⟨_, rfl, by decide⟩; subst hv; go_simp; exact hK _ (za.refl _)
         intro K hK; go_simp; apply hK; clear hK K; refine zk ?_; intro w1 hw1 hF; apply hQ0; clear hQ0; simp only [List.drop_succ_cons, List.drop_zero]; obtain ⟨B, ys, cap9, hv, hz, hm, hk⟩ := hF _ (List.mem_cons_self ..); subst hv; have Out := hh_ (And.intro hz (And.intro hm hk)); clear hF hz hm hk; go_wp2; refine qX_ oL_ rfl ?_; exact ⟨B, ys, cap9, rfl, Out.out.1, Out.out.2.1, Out.out.2.2, hw1⟩
       case hp' => exact ⟨GT.pers _, GS.pers _, trivial⟩)
/-! two rows of a call's own beside each other -/
theorem xf.kept {w w' : World} {base n : Nat} {v : Value} {ss : List S} {row : Option Nat} (h : xf w base v n ss) (hg : w.grownBy w' row) (hn : v.ownBlock = none \/ v.ownBlock ≠ row) : xf w' base v n ss := by
  refine ⟨h.1.kept hg hn, fun g' hv j u hu => h.2 g' hv j u ?_⟩; rw [<- X0 hg (h.1.lt g' hv).2 og_]; exact hu
theorem xv.kept2 {te : TypeId} {w w' : World} {base n : Nat} {v : Value} {vs : List Value} {row : Option Nat} (h : xv te w base v n vs) (hg : w.grownBy w' row) (hn : v.ownBlock = none \/ v.ownBlock ≠ row) : xv te w' base v n vs := uT_
theorem qv {w : World} {b1 b2 n1 n2 : Nat} {u v : Value} {vs : List Value} {ss : List S} (h1 : xv 55 w b1 u n1 vs) (h2 : xf w b2 v n2 ss) : (u.ownBlock = none \/ u.ownBlock ≠ v.ownBlock) /\ (v.ownBlock = none \/ v.ownBlock ≠ u.ownBlock) := by
  rcases h1.1.2 with ⟨rfl, _⟩ | ⟨g1, c1, cur1, rfl, _, hg1, _⟩
  · refine ⟨.inl rfl, ?_⟩
    rcases h2.1.2 with ⟨rfl, _⟩ | ⟨g2, c2, cur2, rfl, _, hg2, _⟩
    · exact .inl rfl
    · exact .inr (by simp [Value.ownBlock])
  · rcases h2.1.2 with ⟨rfl, _⟩ | ⟨g2, c2, cur2, rfl, _, hg2, _⟩
    · exact ⟨.inr (by simp [Value.ownBlock]), .inl rfl⟩
    · have hne : g1 ≠ g2 := fun e => by
        subst e; rw [hg1] at hg2; simp at hg2
      exact ⟨.inr (by simp [Value.ownBlock]; omega), .inr (by simp [Value.ownBlock]; omega)⟩
theorem xf.one {w : World} {base : Nat} {v : Value} {a : S} (h : xf w base v 1 [a]) : ∃ (g1 cap : Nat), v = .slice (some ⟨g1, 0, none⟩) 1 cap /\ w.cell? ⟨g1, 0, none⟩ = some (sL a) := by
  rcases h.1.2 with ⟨_, h0⟩ | ⟨g, cap, cur, rfl, _⟩
  · omega
  · exact ⟨g, cap, rfl, by have := h.1.cells (g := g) rfl 0 _ rfl; simpa [yw, S.v'] using this⟩
theorem xf.two {w : World} {base : Nat} {v : Value} {a b : S} (h : xf w base v 2 [a, b]) : ∃ (g1 cap : Nat), v = .slice (some ⟨g1, 0, none⟩) 2 cap /\ w.cell? ⟨g1, 0, none⟩ = some (sL a) /\ w.cell? ⟨g1, 1, none⟩ = some (sL b) := by
  rcases h.1.2 with ⟨_, h0⟩ | ⟨g, cap, cur, rfl, _⟩
  · omega
  · exact ⟨g, cap, rfl, by have := h.1.cells (g := g) rfl 0 _ rfl; simpa [yw, S.v'] using this, by have := h.1.cells (g := g) rfl 1 _ rfl; simpa [yw, S.v'] using this⟩
def T1 (k : Int) (a b : Nat) : Prop := ((k = 2 \/ k = 3 \/ k = 10 \/ k = 11 \/ k = 12 \/ k = 13) /\ a = 1 /\ b = 1) \/ ((k = 4 \/ k = 5 \/ k = 6 \/ k = 7 \/ k = 8 \/ k = 9) /\ a = 2 /\ b = 2)
theorem Mr (k n : Int) (x : E) (xs : jw) (ag : ju) (A : Option Addr) (mm cap : Nat) (kid : Nat -> PL) (gx ox base : Nat) (cs : List (L2 Int)) (zs : List S) (tc tz : Value) (w : World) (hP : PX w (.mk k n x xs ag A mm cap kid)) (hx : zJ w gx ox (.mk k n x xs ag A mm cap kid)) (hk : T1 k cs.length zs.length) (hc : ∀ c ∈ cs, c.xs.length <= 140737488355328 /\ xc w c.A c.xs) (hz : ∀ s ∈ zs, In w s)
    (oc : xv 55 w base tc cs.length (cs.map vL)) (oz : xf w base tz zs.length zs) :
    Calls Tryz.prog 31 #[.pointer (some ⟨gx, ox, none⟩), tc, tz] w fun en w' => yK w w' en (xy k n x xs.l ag.l (cs.map L2.xs) (zs.map S.z)) := by
  obtain ⟨hEx, hES, hAG, hlens⟩ : EX w x /\ Y6 w xs.A xs.l /\ kF w ag.A ag.l /\ (xs.l.length <= zD /\ ag.l.length <= zD) := by cases hP with | mk hm hc hk hx hs ha hl hi => exact ⟨hx, hs, ha, hl⟩
  unfold zD at hlens; rcases hk with ⟨hk, l1, l2⟩ | ⟨hk, l1, l2⟩
  · obtain ⟨a, rfl⟩ := List.length_eq_one_iff.1 l1
    obtain ⟨s, rfl⟩ := List.length_eq_one_iff.1 l2; obtain ⟨g1, n1, rfl, C0⟩ := xv.one (a := a) oc; obtain ⟨g2, n2, rfl, Z0⟩ := xf.one oz; obtain ⟨hl, hi⟩ := hc a vV_; have hs := hz s vV_; rcases hk with rfl | rfl | rfl | rfl | rfl | rfl
    · exact qV .f n x xs ag A mm cap kid gx ox g1 n1 g2 n2 a a s s w hx C0 Z0 (fun h => by cases h) (fun h => by cases h) _ (fun W h => Nr a.xs a.A a.cap x s.xs s.A s.cap W vU_ (hi.grow h) (hEx.grow h) (hs.grow h))
    · exact qV .m n x xs ag A mm cap kid gx ox g1 n1 g2 n2 a a s s w hx C0 Z0 (fun h => by cases h) (fun h => by cases h) _ (fun W h => VQ a.xs a.A a.cap xs.l xs.A xs.c s.xs s.A s.cap W vU_ vU_ (hi.grow h) (hES.grow h) (hs.grow h))
    · exact qV .p n x xs ag A mm cap kid gx ox g1 n1 g2 n2 a a s s w hx C0 Z0 (fun h => by cases h) (fun h => by cases h) _ (fun W h => Bu s W (hs.grow h))
    · exact qV .q n x xs ag A mm cap kid gx ox g1 n1 g2 n2 a a s s w hx C0 Z0 (fun h => by cases h) (fun h => by cases h) _ (fun W h => VD s W (hs.grow h))
    · exact qV .g n x xs ag A mm cap kid gx ox g1 n1 g2 n2 a a s s w hx C0 Z0 (fun h => by cases h) (fun h => by cases h) _ (fun W h => RX a.xs a.A a.cap xs.l xs.A xs.c ag.l ag.A ag.c s.xs s.A s.cap W vU_ vU_ vU_ (hi.grow h) (hES.grow h) (hAG.grow h) (hs.grow h))
    · exact qV .t n x xs ag A mm cap kid gx ox g1 n1 g2 n2 a a s s w hx C0 Z0 (fun h => by cases h) (fun h => by cases h) _ (fun W h => Cb a.xs a.A a.cap xs.l xs.A xs.c n s.xs s.A s.cap W vU_ vU_ (hi.grow h) (hES.grow h) (hs.grow h))
  · obtain ⟨a, b, rfl⟩ := Kv l1
    obtain ⟨s, t, rfl⟩ := Kv l2; obtain ⟨g1, n1, rfl, C0, C1⟩ := xv.two (a := a) (b := b) oc; obtain ⟨g2, n2, rfl, Z0, Z1⟩ := xf.two oz; obtain ⟨hl, hi⟩ := hc a vV_; obtain ⟨hl2, hi2⟩ := hc b vV_; have hs := hz s vV_; have ht := hz t vV_; rcases hk with rfl | rfl | rfl | rfl | rfl | rfl
    · exact qV .j n x xs ag A mm cap kid gx ox g1 n1 g2 n2 a b s t w hx C0 Z0 (fun _ => C1) (fun _ => Z1) _ (fun W h => Sn a b x s t W hl hl2 (hi.grow h) (hi2.grow h) (hEx.grow h) (hs.grow h) (ht.grow h))
    · exact qV .s n x xs ag A mm cap kid gx ox g1 n1 g2 n2 a b s t w hx C0 Z0 (fun _ => C1) (fun _ => Z1) _ (fun W h => Uw a b x s t W hl hl2 (hi.grow h) (hi2.grow h) (hEx.grow h) (hs.grow h) (ht.grow h))
    · exact qV .a n x xs ag A mm cap kid gx ox g1 n1 g2 n2 a b s t w hx C0 Z0 (fun _ => C1) (fun _ => Z1) _ (fun W h => Td a b x s t W hl hl2 (hi.grow h) (hi2.grow h) (hEx.grow h) (hs.grow h) (ht.grow h))
    · exact qV .l n x xs ag A mm cap kid gx ox g1 n1 g2 n2 a b s t w hx C0 Z0 (fun _ => C1) (fun _ => Z1) _ (fun W h => T6 a b x s t W hl hl2 (hi.grow h) (hi2.grow h) (hEx.grow h) (hs.grow h) (ht.grow h))
    · exact qV .d n x xs ag A mm cap kid gx ox g1 n1 g2 n2 a b s t w hx C0 Z0 (fun _ => C1) (fun _ => Z1) _ (fun W h => Pk s t W (hs.grow h) (ht.grow h))
    · exact qV .u n x xs ag A mm cap kid gx ox g1 n1 g2 n2 a b s t w hx C0 Z0 (fun _ => C1) (fun _ => Z1) _ (fun W h => BS s t W (hs.grow h) (ht.grow h))
/-! query.Data -/
theorem Xw {α β : Type} {l : List α} {k : Nat} {x : α} (f : α -> β) (h : l[k]? = some x) : (l.map f).drop k = f x :: (l.map f).drop (k + 1) := by
  obtain ⟨h1, e1⟩ := qQ9.1 h; rw [List.drop_eq_getElem_cons vG_]; simp [e1]
theorem RH {ts : List (L2 Int)} {ds : List S} {k : Nat} {t : L2 Int} {s : S} (h1 : ts[k]? = some t) (h2 : ds[k]? = some s) : xw ((zF ts).drop k) ((ds.map S.z).drop k) = if zz t.xs s.z ≠ 0 then zz t.xs s.z else xw ((zF ts).drop (k + 1)) ((ds.map S.z).drop (k + 1)) := by
  rw [Xw L2.xs h1, Xw S.z h2]; rfl
theorem Zm (ts : List (L2 Int)) (At : Option Addr) (nt : Nat) (ds : List S) (Ad : Option Addr) (nd : Nat) (w : World) (hlt : ts.length <= zD) (hl : ∀ t ∈ ts, t.xs.length <= zD) (hts : S1 w At ts) (hds : MT w Ad ds nd) :
    Calls Tryz.prog 16 #[.slice At ts.length nt, .slice Ad ds.length nd] w fun en w' => en = .returned (.int .i64 (yM (zF ts) (ds.map S.z))) /\ za w w' := by
  have Hts := hh_ hts; have Hds := hh_ hds; have HL := hh_ hl; have hlt' : ts.length <= 140737488355328 := hlt; have hdl := hds.len; obtain ⟨R, hR⟩ : ∃ R, yM (zF ts) (ds.map S.z) = R := ⟨_, rfl⟩
  rw [hR]; have HR := hh_ hR; clear hts hds hl hlt hR; go_enter Tryz.func16, Tryz.ntmps16
  by_cases hlen : ds.length = ts.length
  · have dl : ((ds.length : Int) != (ts.length : Int)) = false := by simp; omega
    have inv0 : xw ((zF ts).drop 0) ((ds.map S.z).drop 0) = R := by rw [<- HR.out]; unfold yM; rw [if_neg vA_, List.drop_zero, List.drop_zero]
    have Inv0 := hh_ inv0; have Hlen := hh_ hlen; clear inv0 hlen; go_wp2
    go_loopw [15] (fun i wr => ∃ k : Nat, k <= ds.length /\ i = .int .i64 k /\ xw ((zF ts).drop k) ((ds.map S.z).drop k) = R /\ za w wr) (fun i _ => ds.length - (intOf i).toNat)
    case atStart => exact u9_
    case round =>
      obtain ⟨k, hk, rfl, hinv, hg⟩ := hrel; have kL := hh_ hinv; clear hinv
      by_cases hltk : k < ds.length
      · have hltk2 : k < ts.length := by have := Hlen.out; omega
        obtain ⟨s, hsk⟩ : ∃ s, ds[k]? = some s := ⟨_, qQ_ hltk⟩
        obtain ⟨t, htk⟩ : ∃ t, ts[k]? = some t := ⟨_, qQ_ hltk2⟩
        obtain ⟨g, o, rfl, c1, hz⟩ := (Hds.out.grow hg).s k s hsk; obtain ⟨gt, ot, rfl, c2, hit⟩ := (Hts.out.grow hg) k t htk; have his := (Hds.out.grow hg).each s (qZ_ hsk); have htl : t.xs.length <= 140737488355328 := HL.out t (qZ_ htk); have inv2 := (RH htk hsk).symm.trans kL.out; obtain ⟨E, hE⟩ : ∃ E, zz t.xs s.z = E := ⟨_, rfl⟩
        rw [hE] at inv2; have cs := fun W (h : za wr W) => qu t.xs t.A t.cap s.xs s.A s.cap W vU_ (hit.grow h) (his.grow h)
        have hE' : zz t.xs (s.xs.map zp) = E := hE; simp only [hE'] at cs; have CS := hh_ cs; have Inv2 := hh_ inv2; clear inv2 hsk htk hz his hit hE hE' cs
        by_cases hw : E = 0
        · have dw : (E != 0) = false := by simpa using hw
          go_wp2_with (go_at_call 30; ((with_reducible refine (CS.out _ zi).mono ?_); rintro e w2 ⟨rfl, hg2⟩))
          go_roundw
          case rel => exact u2_
          case measure => exact vZ_
        · have dw : (E != 0) = true := by simpa using hw
          go_wp2_with (go_at_call 30; ((with_reducible refine (CS.out _ zi).mono ?_); rintro e w2 ⟨rfl, hg2⟩))
          go_ret; exact zx op_ (hg.trans hg2)
      · obtain rfl : k = ds.length := by omega
        have fin : R = 0 := by
          have := kL.out; rw [show (ds.map S.z).drop ds.length = [] from List.drop_eq_nil_of_le vV_] at this; rw [<- this]; unfold xw; split
          · rename_i h; simp at h
          · rfl
        go_wp2; go_ret; exact zx fin.symm hg
  · have dl : ((ds.length : Int) != (ts.length : Int)) = true := by simp; omega
    have e : R = 8 := by rw [<- HR.out]; unfold yM; rw [if_pos vA_]
    go_wp2; go_ret; exact zx e.symm (za.refl _)
/-! query.Play -/
theorem TZ {f : Nat -> List Z × Int} {n j : Nat} {zs : List (List Z)} (hj : j < n) (h : (f j).2 = 0) : xE f (n - j) j zs = xE f (n - (j + 1)) (j + 1) (zs ++ [(f j).1]) := by
  rw [show n - j = (n - (j + 1)) + 1 by omega]
  conv => lhs; unfold xE
  rw [if_pos h]
theorem TY {f : Nat -> List Z × Int} {n j : Nat} {zs : List (List Z)} (hj : j < n) (h : (f j).2 ≠ 0) : xE f (n - j) j zs = ((f j).2, zs) := by
  rw [show n - j = (n - (j + 1)) + 1 by omega]
  conv => lhs; unfold xE
  rw [if_neg h]
theorem Sx {z : List Z} (h : qq z) : WO z := ⟨(SM.of h.2).len, (SM.of h.2).ok⟩
def Pi (ts : List (L2 Int)) (At : Option Addr) (nt : Nat) (ds : List S) (Ad : Option Addr) (nd : Nat) (p : PL) : Prop := ∀ (gx ox : Nat) (w : World), PX w p -> zJ w gx ox p -> S1 w At ts -> MT w Ad ds nd -> (zt (zF ts) p).2 = 0 ->
  Calls Tryz.prog 17 #[.slice At ts.length nt, .pointer (some ⟨gx, ox, none⟩), .slice Ad ds.length nd] w fun en w' => yK w w' en (yp (zF ts) (ds.map S.z) p)
theorem NY (ts : List (L2 Int)) (At : Option Addr) (nt : Nat) (ds : List S) (Ad : Option Addr) (nd : Nat) (hd : ds.length = ts.length) (hok : kO (ds.map S.z)) (n : Int) (x : E) (xs : jw) (ag : ju) (A : Option Addr) (mm cap : Nat) (kid : Nat -> PL) : Pi ts At nt ds Ad nd (.mk 1 n x xs ag A mm cap kid) := by
  intro gx ox w hP hx hts hds h0
  have hn : 0 <= n /\ n.toNat < ts.length := by
    have h1 := (xV h0).2.2; unfold yt at h1; rw [if_pos rfl] at h1; split at h1
    · simp at h1
    · rename_i h2; simp at h2; omega
  obtain ⟨nn, rfl⟩ : ∃ nn : Nat, n = (nn : Int) := ⟨n.toNat, by omega⟩
  have hlt : nn < ds.length := by have := hn.2; simp at this; omega
  obtain ⟨s, hsk⟩ : ∃ s, ds[nn]? = some s := ⟨_, qQ_ hlt⟩
  obtain ⟨g, o, rfl, c1, hz⟩ := hds.s nn s hsk; have hdl := hds.len; have sm := SM.of (hok s.z (qZ9 (qZ_ hsk)))
  have eR : yp (zF ts) (ds.map S.z) (.mk 1 (nn : Int) x xs ag A mm cap kid) = yF (s.xs.map zp) := by
    unfold yp; rw [if_pos rfl, List.getD_eq_getElem?_getD]; simp [hsk, S.z]
  rw [eR]; have hl := sm.len; have hlx : s.xs.length <= 400 := by simpa [S.z] using hl
  have cs := fun W (h : za w W) => jF s.xs s.A s.cap W vU_ (hz.grow h) (fun y hy => by have := (sm.ok (zp y) (qZ9 hy)).1; simp only [zp] at this; omega) (fun y hy => (sm.ok (zp y) (qZ9 hy)).2) (fun y hy => by have := sm.bd (zp y) (qZ9 hy); simp only [zp] at this; omega)
  have CS := hh_ cs; obtain ⟨c0, c1', c2, c3, c4, c5, c6, c7, c8, c9, c10⟩ := hx; simp only [PL.k, PL.n, PL.x, PL.xs, PL.ag, PL.A, PL.m, PL.cap] at c0 c1' c2 c3 c4 c5 c6 c7 c8 c9 c10; have k1 : (0 : Int) <= (nn : Int) := by omega
  have k2 : (nn : Int) < (ds.length : Int) := by omega
  clear eR hl hlx cs sm hz hsk hn h0 hP hts hds hok hd; go_enter Tryz.func17, Tryz.ntmps17
  go_wp2_with (go_at_call 20; ((with_reducible refine (CS.out _ zi).mono ?_); rintro en w4 ⟨B, ys, cap9, rfl, hz4, hm4, hk4, hg4⟩; have Out := hh_ (And.intro hz4 (And.intro hm4 hk4)); clear hz4 hm4 hk4))
  refine qX_ oM_ rfl ?_; exact ⟨B, ys, cap9, rfl, Out.out.1, Out.out.2.1, Out.out.2.2, hg4⟩
theorem Zh {k : Int} {mm : Nat} (h1 : (mm : Int) = ye k) (h2 : 0 <= ye k) (h3 : k ≠ 1) : mm <= 2 /\ T1 k mm mm := by
  unfold T1; unfold ye at h1 h2
  repeat' split at h1
  all_goals omega
theorem Ss (ts : List (L2 Int)) (At : Option Addr) (nt : Nat) (ds : List S) (Ad : Option Addr) (nd : Nat) (hlt : ts.length <= zD) (hl : ∀ t ∈ ts, t.xs.length <= zD) (hok : kO (ds.map S.z)) (k n : Int) (x : E) (xs : jw) (ag : ju) (A : Option Addr) (mm cap : Nat) (kid : Nat -> PL) (ih : ∀ i, Pi ts At nt ds Ad nd (kid i)) (hk1 : k ≠ 1) : Pi ts At nt ds Ad nd (.mk k n x xs ag A mm cap kid) := by
  intro gx ox w hP hx hts hds h0; have Hx := hh_ hx; have HP := hh_ hP; have Hts := hh_ hts; have Hds := hh_ hds; have H0 := hh_ h0; have HL := hh_ (And.intro hlt hl); have HO := hh_ hok; have nodeE := xV h0; have knd := Zh nodeE.1 nodeE.2.1 hk1; have Knd := hh_ knd.2; have hn2 : mm <= 2 := knd.1; obtain ⟨R, hR⟩ : ∃ R, yp (zF ts) (ds.map S.z) (.mk k n x xs ag A mm cap kid) = R := ⟨_, rfl⟩
  rw [hR]; obtain ⟨F, hF⟩ : ∃ F : Nat -> List Z × Int, F = fun i => yp (zF ts) (ds.map S.z) (kid i) := ⟨_, rfl⟩
  have eR : R = if (xE F mm 0 []).1 ≠ 0 then ([], (xE F mm 0 []).1) else xy k n x xs.l ag.l ((List.range mm).map (fun i => (zt (zF ts) (kid i)).1)) (xE F mm 0 []).2 := by
    rw [<- hR, hF]
    conv => lhs; unfold yp
    rw [if_neg hk1]
  have ER := hh_ eR; have HF := hh_ hF; have K1 := hh_ hk1; have dk : (k == 1) = false := by simpa using hk1
  obtain ⟨c0, c1, c2, c3, c4, c5, c6, c7, c8, c9, c10⟩ := hx; simp only [PL.k, PL.n, PL.x, PL.xs, PL.ag, PL.A, PL.m, PL.cap] at c0 c1 c2 c3 c4 c5 c6 c7 c8 c9 c10; clear hP hts hds h0 hlt hl hok nodeE knd hR hF eR hk1; go_enter Tryz.func17, Tryz.ntmps17; go_wp2
  go_loopw [8, 9, 35] (fun tc tz i wr => ∃ (j : Nat) (cs : List (L2 Int)) (zs : List S), j <= mm /\ i = .int .i64 j /\ xv 55 wr w.heap.size tc j (cs.map vL) /\ xf wr w.heap.size tz j zs /\ za w wr /\ (∀ c ∈ cs, c.xs.length <= 140737488355328 /\ xc wr c.A c.xs) /\ (∀ s ∈ zs, In wr s) /\ cs.length = j /\ zs.length = j /\
      cs.map L2.xs = (List.range j).map (fun i => (zt (zF ts) (kid i)).1) /\ xE F (mm - j) j (zs.map S.z) = xE F mm 0 []) (fun _ _ i _ => mm - (intOf i).toNat)
  case atStart => exact ⟨0, [], [], Nat.zero_le _, rfl, xv.nil _ _ _, xf.nil _ _, za.refl _, (fun c hc => by simp at hc), (fun s hs => by simp at hs), rfl, rfl, rfl, rfl⟩
  case round =>
    obtain ⟨j, cs, zs, hj, rfl, hown, hownz, hgw, hcs, hzs, hcl, hzl, hcm, hkz⟩ := hrel; have Own := hh_ hown; have OwnZ := hh_ hownz; have HC := hh_ hcs; have HZ := hh_ hzs; have HM := hh_ (And.intro hcl (And.intro hzl (And.intro hcm hkz))); obtain ⟨c0, c1, c2, c3, c4, c5, c6, c7, c8, c9, c10⟩ := Hx.out.grow hgw; simp only [PL.k, PL.n, PL.x, PL.xs, PL.ag, PL.A, PL.m, PL.cap] at c0 c1 c2 c3 c4 c5 c6 c7 c8 c9 c10; clear hown hownz hcs hzs hcl hzl hcm hkz
    by_cases hltj : j < mm
    · obtain ⟨gk, ok, hA, hck, hEk⟩ : ∃ gk ok, A = some ⟨gk, ok, none⟩ /\ zJ w gk (ok + j * 11) (kid j) /\ PX w (kid j) := by
        cases HP.out with
        | mk hm' hc hk =>
          obtain ⟨gk, ok, h1, h2⟩ := hc j hltj; exact ⟨gk, ok, h1, h2, hk j hltj⟩
      subst hA; have h0k := y9 H0.out hltj; have ihj := ih j gk (ok + j * 11) wr (hEk.grow hgw) (hck.grow hgw) (Hts.out.grow hgw) (Hds.out.grow hgw) h0k; have eFj : yp (zF ts) (ds.map S.z) (kid j) = F j := by rw [HF.out]
      rw [eFj] at ihj
      have hsm : (F j).2 = 0 -> WO (F j).1 := fun h => by
        have e : yp (zF ts) (ds.map S.z) (kid j) = ((F j).1, 0) := by rw [eFj, <- h]
        exact Sx (qw HO.out (kid j) (yY h0k) e)
      obtain ⟨q1, q2, hq⟩ : ∃ q1 q2, F j = (q1, q2) := ⟨_, _, rfl⟩
      have cq := fun W (h : za w W) => XA ts At nt (kid j) W HL.out.1 HL.out.2 (Hts.out.grow h) (hEk.grow h)
      obtain ⟨C, hC⟩ : ∃ C, (zt (zF ts) (kid j)).1 = C := ⟨_, rfl⟩
      have hCE : zt (zF ts) (kid j) = (C, 0) := Prod.ext hC h0k; have hCl : C.length <= 8 := by rw [<- hC]; exact XW (zF ts) (kid j)
      rw [hCE] at cq; unfold XP at cq; unfold PL.val at cq; rw [hq] at ihj hsm; unfold yK at ihj; simp only at ihj hsm; have IHJ := hh_ ihj; have CQ := hh_ cq; have HSM := hh_ hsm; have HQ := hh_ hq; have HCE := hh_ hC; have HCK := hh_ hck; clear ihj cq hsm hq h0k eFj hC hCE hck
      by_cases h2 : q2 = 0
      · subst h2
        have d0 : ((0 : Int) != 0) = false := rfl; go_upto_region 9 with (go_at_call 17; ((with_reducible refine IHJ.out.mono ?_); rintro en w2 ⟨B, ys, cap9, rfl, hz, hm, hk, hg2⟩)); have hin : In w2 ⟨B, ys, cap9⟩ := In.sml hz hk (by rw [hm]; exact HSM.out trivial); have HIN := hh_ hin; have HMZ := hh_ hm; have G2 := hgw.trans hg2; clear hz hk hin hm c0 c1 c2 c3 c4 c5 c6 c7 c8 c9 c10; obtain ⟨c0, c1, c2, c3, c4, c5, c6, c7, c8, c9, c10⟩ := Hx.out.grow G2; simp only [PL.k, PL.n, PL.x, PL.xs, PL.ag, PL.A, PL.m, PL.cap] at c0 c1 c2 c3 c4 c5 c6 c7 c8 c9 c10; obtain ⟨k0, k1, k2, k3, k4, k5, k6, k7, k8, k9, k10⟩ := HCK.out.grow G2; go_upto_region 12 with (go_at_call 15; ((with_reducible refine (CQ.out _ G2).mono ?_); rintro en w3 ⟨B3, n3, rfl, hi3, hn3, hg3⟩)); have G23 := hg2.trans hg3; have OwnC := hh_ (Own.out.grow G23); have OwnZ3 := hh_ (OwnZ.out.grow G23); have HI3 := hh_ hi3; have hs3 := (hgw.trans G23).size; clear hi3 hn3 c0 c1 c2 c3 c4 c5 c6 c7 c8 c9 c10 k0 k1 k2 k3 k4 k5 k6 k7 k8 k9 k10; have OwnCA := hh_ (OwnC.out.grow ((za.refl w3).al (.cells #[.slice B3 C.length n3] 55))); have OwnZA := hh_ (OwnZ3.out.grow ((za.refl w3).al (.cells #[.slice B3 C.length n3] 55))); have AP := hh_ (qv OwnCA.out OwnZA.out); have hsA : w.heap.size <= (w3.alloc (.cells #[.slice B3 C.length n3] 55)).heap.size := by simp; omega
        have HSA := hh_ hsA; clear hsA hs3
        go_wp2_with (first
          | (at_builtin; refine qX Zo rfl _ _ rfl w.heap.size _ _ _ rfl OwnCA.out _ _ ⟨_, _, _, rfl⟩ rfl _ (zc.new _ _ _) vU_ HSA.out ?_; intro v5 w5 own5 gb5; have OwnZ5 := hh_ ((OwnZA.out.kept gb5 AP.out.2).grow ((za.refl w5).al (.cells #[.slice B ys.length cap9] 34))); have HS5 := hh_ (Nat.le_trans HSA.out gb5.size); have Own5 := hh_ own5; have GB5 := hh_ gb5; clear own5 gb5)
          | (at_builtin; refine kE rfl _ _ rfl w.heap.size _ _ _ rfl OwnZ5.out _ ⟨B, ys, cap9⟩ rfl _ (zc.new _ _ _) vU_ (by simp; have := HS5.out; omega) ?_; intro v7 w7 own7 gb7; have Own7 := hh_ own7; have GB7 := hh_ gb7; clear own7 gb7))
        have GA : za w w5 := za.own ((hgw.trans G23).al _) GB5.out (fun i hi => (OwnC.out.1.lt i hi).1); have GB : za w w7 := za.own (GA.al _) GB7.out (fun i hi => (OwnZ5.out.1.lt i hi).1)
        have keepC : ∀ c ∈ cs ++ [⟨B3, C, n3⟩], c.xs.length <= 140737488355328 /\ xc w7 c.A c.xs := fun c hc => by
          have h3 : c.xs.length <= 140737488355328 /\ xc w3 c.A c.xs := by
            rcases List.mem_append.1 hc with hc | hc
            · exact ⟨(HC.out c hc).1, (HC.out c hc).2.grow G23⟩
            · exact wz_
          exact ⟨h3.1, (((h3.2.grow ((za.refl _).al _)).gb OwnCA.out.2.1 GB5.out).grow ((za.refl _).al _)).gb OwnZ5.out.2 GB7.out⟩
        have Jw : ∀ s ∈ zs ++ [⟨B, ys, cap9⟩], In w7 s := fun s hs => by
          have h3 : In w3 s := by
            rcases List.mem_append.1 hs with hs | hs
            · exact (HZ.out s hs).grow G23
            · simp at hs; subst hs; exact HIN.out.grow hg3
          exact (((h3.grow ((za.refl _).al _)).gb OwnCA.out.2.1 GB5.out).grow ((za.refl _).al _)).gb OwnZ5.out.2 GB7.out
        have OwnC7 : xv 55 w7 w.heap.size v5 (j + 1) ((cs ++ [(⟨B3, C, n3⟩ : L2 Int)]).map vL) := by
          have h1 := (Own5.out.grow ((za.refl _).al (.cells #[.slice B ys.length cap9] 34))).kept2 GB7.out (qv (Own5.out.grow ((za.refl _).al _)) OwnZ5.out).1; simpa using h1
        have fin := TZ (f := F) (zs := zs.map S.z) hltj (by rw [HQ.out]); rw [HQ.out] at fin; have HMo := HM.out; have Z7 := hh_ (And.intro GB (And.intro keepC (And.intro Jw (And.intro OwnC7 (And.intro fin HMo))))); clear GA GB keepC Jw OwnC7 fin HMo; go_roundw
        case rel =>
          obtain ⟨z1, z2, z3, z4, z5, z6, z7, z8, z9⟩ := Z7.out; refine ⟨j + 1, cs ++ [⟨B3, C, n3⟩], zs ++ [⟨B, ys, cap9⟩], by omega, by go_num, z4, Own7.out, z1, z2, z3, by simp [z6], by simp [z7], ?_, ?_⟩
          · rw [List.map_append, z8, List.range_succ, List.map_append]
            simp [HCE.out]
          · rw [<- z9, z5, List.map_append]
            simp only [List.map_cons, List.map_nil, S.z, HMZ.out]
        case measure => exact vZ_
      · have dq : (q2 != 0) = true := by simpa using h2
        have fin : R = ([], q2) := by
          rw [ER.out, <- HM.out.2.2.2, TY (f := F) (zs := zs.map S.z) hltj (by rw [HQ.out]; exact h2), HQ.out, if_pos h2]
        have Fin := hh_ fin; clear fin
        go_wp2_with (go_at_call 17; ((with_reducible refine IHJ.out.mono ?_); rintro en w2 ⟨B, ys, cap9, rfl, hz, hm, hk, hg2⟩; clear hz hm hk))
        refine qX_ oM_ rfl ?_; exact ⟨none, [], 0, by rw [Fin.out]; rfl, zu _ _, by rw [Fin.out]; rfl, zN.nil, hgw.trans hg2⟩
    · obtain rfl : j = mm := by omega
      obtain ⟨hcl, hzl, hcm, hkz⟩ := HM.out; rw [Nat.sub_self] at hkz; have e0 : xE F j 0 [] = (0, zs.map S.z) := by rw [<- hkz]; rfl
      have fin : R = xy k n x xs.l ag.l (cs.map L2.xs) (zs.map S.z) := by rw [ER.out, e0, hcm]; simp
      have co := Mr k n x xs ag A j cap kid gx ox w.heap.size cs zs _ _ wr (HP.out.grow hgw) (Hx.out.grow hgw) (by rw [hcl, hzl]; exact Knd.out) HC.out HZ.out (by rw [hcl]; exact Own.out) (by rw [hzl]; exact OwnZ.out); rw [<- fin] at co; unfold yK at co; have CO := hh_ co; clear hcl hzl hcm hkz e0 fin co ih
      go_wp2_with (go_at_call 31; ((with_reducible refine CO.out.mono ?_); rintro en w4 ⟨B, ys, cap9, rfl, hz4, hm4, hk4, hg4⟩; have Out := hh_ (And.intro hz4 (And.intro hm4 hk4)); clear hz4 hm4 hk4))
      refine qX_ oM_ rfl ?_; exact ⟨B, ys, cap9, rfl, Out.out.1, Out.out.2.1, Out.out.2.2, hgw.trans hg4⟩
theorem Sv (ts : List (L2 Int)) (At : Option Addr) (nt : Nat) (ds : List S) (Ad : Option Addr) (nd : Nat) (hlt : ts.length <= zD) (hl : ∀ t ∈ ts, t.xs.length <= zD) (hd : ds.length = ts.length) (hok : kO (ds.map S.z)) (p : PL) : Pi ts At nt ds Ad nd p := by
  induction p with
  | leaf => intro gx ox w hP hx hts hds h0; exact absurd rfl (yY h0)
  | mk k n x xs ag A mm cap kid ih =>
    by_cases hk : k = 1
    · subst hk; exact NY ts At nt ds Ad nd hd hok n x xs ag A mm cap kid
    · exact Ss ts At nt ds Ad nd hlt hl hok k n x xs ag A mm cap kid ih hk
theorem Su (ts : List (L2 Int)) (At : Option Addr) (nt : Nat) (p : PL) (ds : List S) (Ad : Option Addr) (nd : Nat) (w : World) (hlt : ts.length <= zD) (hl : ∀ t ∈ ts, t.xs.length <= zD) (hts : S1 w At ts) (hp : PX w p) (hds : MT w Ad ds nd) :
    Calls Tryz.prog 8 #[.slice At ts.length nt, p.val, .slice Ad ds.length nd] w fun en w' => yK w w' en (QI (zF ts) p (ds.map S.z)) := by
  have Hts := hh_ hts; have HP := hh_ hp; have Hds := hh_ hds; have HL := hh_ (And.intro hlt hl); obtain ⟨CE, hCE⟩ : ∃ CE, zt (zF ts) p = CE := ⟨_, rfl⟩
  obtain ⟨DE, hDE⟩ : ∃ DE, yM (zF ts) (ds.map S.z) = DE := ⟨_, rfl⟩
  obtain ⟨R, hR⟩ : ∃ R, QI (zF ts) p (ds.map S.z) = R := ⟨_, rfl⟩
  have cc := fun W (h : za w W) => XA ts At nt p W hlt hl (hts.grow h) (hp.grow h)
  have cd := fun W (h : za w W) => Zm ts At nt ds Ad nd W hlt hl (hts.grow h) (hds.grow h)
  have cp := fun (h1 : CE.2 = 0) (h2 : DE = 0) W (h : za w W) gx (B : zJ W gx 0 p) => Sv ts At nt ds Ad nd hlt hl (by
    rw [h2] at hDE; unfold yM at hDE; split at hDE
    · simp at hDE
    · rename_i h3; simpa using h3) (kf (by rw [hDE, h2])) p gx 0 W (hp.grow h) B (hts.grow h) (hds.grow h) (by rw [hCE, h1])
  rw [hR]; have fin : R = if CE.2 ≠ 0 then ([], CE.2) else if DE ≠ 0 then ([], DE) else yp (zF ts) (ds.map S.z) p := by rw [<- hR]; unfold QI; rw [hCE, hDE]
  have Fin := hh_ fin; rw [hCE] at cc; simp only [hDE] at cd; unfold XP at cc; unfold yK at cp; have hB : ∀ W g, zc W g 31 #[.int .i64 p.k, .int .i64 p.n, .int .i64 p.x.kind, .int .i64 p.x.v.k, .int .i64 p.x.v.n, .string p.x.v.s, .int .i64 p.x.col, .slice p.x.A p.x.n p.x.cap, .slice p.xs.A p.xs.l.length p.xs.c, .slice p.ag.A p.ag.l.length p.ag.c, .slice p.A p.m p.cap] -> zJ W g 0 p := fun W g B => ⟨B.cells rfl, B.cells rfl, B.cells rfl, B.cells rfl, B.cells rfl, B.cells rfl, B.cells rfl, B.cells rfl, B.cells rfl, B.cells rfl, B.cells rfl⟩
  have HB := hh_ hB; unfold PL.val at cc ⊢; have CC := hh_ cc; have CD := hh_ cd; have CP := hh_ cp; clear hts hp hds hlt hl hCE hDE hR cc cd cp fin hB; go_enter Tryz.func8, Tryz.ntmps8; go_upto_region 1 with fail
  refine zd (fun X => zc X w.heap.size 31 #[.int .i64 p.k, .int .i64 p.n, .int .i64 p.x.kind, .int .i64 p.x.v.k, .int .i64 p.x.v.n, .string p.x.v.s, .int .i64 p.x.col, .slice p.x.A p.x.n p.x.cap, .slice p.xs.A p.xs.l.length p.xs.c, .slice p.ag.A p.ag.l.length p.ag.c, .slice p.A p.m p.cap] /\ za w X) ⟨zc.new _ _ _, (za.refl w).al _⟩ ?_; rintro X ⟨BX0, G⟩; have BX := hh_ BX0; obtain ⟨bx, fx⟩ := BX0.rules; have lx := BX0.lt; clear BX0; generalize w.heap.size = gx at *; go_upto_region 2 with (go_at_call 15; ((refine (CC.out _ G).mono ?_); rintro en w3 ⟨B3, n3, rfl, hi3, hn3, hg3⟩)); clear hi3 hn3 bx fx lx
  by_cases h1 : CE.2 = 0
  · have d1 : (CE.2 != 0) = false := by simp [h1]
    have H1 := hh_ h1; clear h1; go_upto_region 5 with (go_at_call 16; ((refine (CD.out _ (G.trans hg3)).mono ?_); rintro en w4 ⟨rfl, hg4⟩))
    by_cases h2 : DE = 0
    · have d2 : (DE != 0) = false := by simp [h2]
      have fin2 : R = yp (zF ts) (ds.map S.z) p := by rw [Fin.out, if_neg (by simp [H1.out]), if_neg (by simp [h2])]
      have cp := CP.out H1.out h2 w4 (G.trans (hg3.trans hg4)) gx (HB.out _ _ (BX.out.grow (hg3.trans hg4))); rw [<- fin2] at cp; have CP2 := hh_ cp; clear fin2 cp h2
      go_wp2_with (go_at_call 17; ((with_reducible refine CP2.out.mono ?_); rintro en w5 ⟨B, ys, cap9, rfl, hz4, hm4, hk4, hg5⟩; have Out := hh_ (And.intro hz4 (And.intro hm4 hk4)); clear hz4 hm4 hk4))
      refine qX_ oP_ rfl ?_; exact ⟨B, ys, cap9, rfl, Out.out.1, Out.out.2.1, Out.out.2.2, G.trans (hg3.trans (hg4.trans hg5))⟩
    · have d2 : (DE != 0) = true := by simpa using h2
      have fin2 : R = ([], DE) := by rw [Fin.out, if_neg (by simp [H1.out]), if_pos h2]
      have Fin2 := hh_ fin2; clear fin2; go_wp2; refine qX_ oP_ rfl ?_; exact ⟨none, [], 0, by rw [Fin2.out]; rfl, zu _ _, by rw [Fin2.out]; rfl, zN.nil, G.trans (hg3.trans hg4)⟩
  · have d1 : (CE.2 != 0) = true := by simpa using h1
    have fin2 : R = ([], CE.2) := by rw [Fin.out, if_pos h1]
    have Fin2 := hh_ fin2; clear fin2; go_wp2; refine qX_ oP_ rfl ?_; exact ⟨none, [], 0, by rw [Fin2.out]; rfl, zu _ _, by rw [Fin2.out]; rfl, zN.nil, G.trans hg3⟩
