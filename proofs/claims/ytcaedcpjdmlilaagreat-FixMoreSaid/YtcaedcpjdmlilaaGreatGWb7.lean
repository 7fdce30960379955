/-
 Joined texts of this claim: Rw7. What each proves its own head says; no condition beside those that each theorem names.
-/
import Derived.Test.YtcaedcpjdmlilaaGreatGWb
namespace Go.Proofs.YtcaedcpjdmlilaaGreat
open Go.RowKit Go.Calm
set_option linter.unusedSimpArgs false
set_option linter.unusedVariables false
abbrev st11 (w : World) (g : Nat) (r : PL) : World := ((((((((((w.setCell ⟨g, 0, none⟩ (.int .i64 r.k)).setCell ⟨g, 1, none⟩ (.int .i64 r.n)).setCell ⟨g, 2, none⟩ (.int .i64 r.x.kind)).setCell ⟨g, 3, none⟩ (.int .i64 r.x.v.k)).setCell ⟨g, 4, none⟩ (.int .i64 r.x.v.n)).setCell ⟨g, 5, none⟩ (.string r.x.v.s)).setCell ⟨g, 6, none⟩ (.int .i64 r.x.col)).setCell ⟨g, 7, none⟩ (.slice r.x.A r.x.n r.x.cap)).setCell ⟨g, 8, none⟩ (.slice r.xs.A r.xs.l.length r.xs.c)).setCell ⟨g, 9, none⟩ (.slice r.ag.A r.ag.l.length r.ag.c)).setCell ⟨g, 10, none⟩ (.slice r.A r.m r.cap)
theorem yF (w : World) (g : Nat) (r : PL) {q : Nat} (hq : q ≠ g) : (st11 w g r).heap[q]? = w.heap[q]? := by
 unfold st11
 iterate 11 rw [Below.heap_setCell _ ⟨g, _, none⟩ _ q hq]
theorem YW (w : World) (g : Nat) (r : PL) : (st11 w g r).heap.size = w.heap.size := by simp [st11]
theorem ja {w0 w : World} {g : Nat} (hg : za w0 w) (h : w0.heap.size <= g) (r : PL) : za w0 (st11 w g r) := za.set (za.set (za.set (za.set (za.set (za.set (za.set (za.set (za.set (za.set (za.set hg h _) h _) h _) h _) h _) h _) h _) h _) h _) h _) h _
theorem zq {w : World} {g : Nat} {t : TypeId} {a0 a1 a2 a3 a4 a5 a6 a7 a8 a9 a10 : Value} (r : PL) (h : zb w g t #[a0, a1, a2, a3, a4, a5, a6, a7, a8, a9, a10]) : zb (st11 w g r) g t (pC r) := by
 have B := ((((((((((h.set 0 (.int .i64 r.k)).set 1 (.int .i64 r.n)).set 2 (.int .i64 r.x.kind)).set 3 (.int .i64 r.x.v.k)).set 4 (.int .i64 r.x.v.n)).set 5 (.string r.x.v.s)).set 6 (.int .i64 r.x.col)).set 7 (.slice r.x.A r.x.n r.x.cap)).set 8 (.slice r.xs.A r.xs.l.length r.xs.c)).set 9 (.slice r.ag.A r.ag.l.length r.ag.c)).set 10 (.slice r.A r.m r.cap); simp only [List.setIfInBounds_toArray, List.set_cons_zero, List.set_cons_succ] at B; exact B
def RP (S : Nat -> Prop) (q : PL) (w w' : World) (en : Ending) : Prop := ∃ r : PL, en = .returned r.val /\ qI (Rt S w.heap.size) w' r /\ nP r = q /\ za w w'
abbrev yg (S : Nat -> Prop) (b g : Nat) : Nat -> Prop := fun q => (S q /\ q < b) \/ (b <= q /\ q ≠ g /\ q ≠ g + 1 /\ q ≠ g + 1 + 1)
theorem RP.put {S : Nat -> Prop} {q r : PL} {w W : World} {g : Nat} (hr : qI (yg S w.heap.size g) W r) (hn : nP r = q) (hg : za w W) (hge : w.heap.size <= g) : RP S q w (st11 W (g + 1 + 1) r) (.returned r.val) := by
 refine ⟨r, rfl, ?_, hn, ja hg (by omega) r⟩; have h1 := hr.move (w' := st11 W (g + 1 + 1) r) (fun q hq _ => yF W (g + 1 + 1) r (by rcases hq with h | h; omega; exact h.2.2.2)) (by rw [YW]; exact Nat.le_refl _); exact h1.mono (fun q _ hq => hq.imp And.left And.left)
theorem W4 {S : Nat -> Prop} {w W : World} {g : Nat} {t : TypeId} {cs : Array Value} (h : zb w g t cs) (a : Zh S w W) (hs : S g) : zb W g t cs := by
 have hl := h.lt; unfold zb at h ⊢; rw [a g hs hl]; exact h
theorem Je {S : Nat -> Prop} {w : World} {k n : Int} {x : E} {xs : jj} {ag : jh} {g : Nat} {t : TypeId} {p : PL} (cap : Nat) (h : zb w g t (pC p)) (hs : S g) (hn : Mo S w k n x xs ag) (hp : qI S w p) : qI S w (KW k n x xs ag g cap p) := fun W a => Nb cap (W4 h a hs) (hn W a) (hp W a)
theorem YP {S : Nat -> Prop} {w : World} {k n : Int} {x : E} {xs : jj} {ag : jh} {g : Nat} {t : TypeId} {p q : PL} (cap : Nat) (h : zb w g t (pC2 p q)) (hs : S g) (hn : Mo S w k n x xs ag) (hp : qI S w p) (hq : qI S w q) : qI S w (qh k n x xs ag g cap p q) := fun W a => Dq cap (W4 h a hs) (hn W a) (hp W a) (hq W a)
theorem Yf {S : Nat -> Prop} {w : World} {k : Int} (hk : xj k) : Mo S w k 0 .leaf ZG Y8 := fun W _ => Tz hk
theorem FE {S : Nat -> Prop} {w : World} {x : E} (hx : Xj S w x) : Mo S w 2 0 x ZG Y8 := fun W a => ⟨hx W a, fun i x h => by simp at h, fun i x h => by simp at h, by decide, ⟨by decide, by decide⟩, ⟨by decide, by decide⟩⟩
theorem XZ (S : Nat -> Prop) (x : E) (p : PL) (w : World) (hx : Xj S w x) (hp : qI S w p) : Calls Tryz.prog 130 #[x.val, p.val] w fun en w' => RP S (xG (nE x) (nP p)) w w' en :=
 (Pd x p w hx.ex hp.px).mono fun e w' ⟨g, h1, h2, h3, h4⟩ => ⟨_, h1, Je 1 h3 (.inr h2) ((FE (hx.grow h4)).mono (fun q _ h => .inl h)) ((hp.grow h4).mono (fun q _ h => .inl h)), rfl, h4⟩
def Jo : PL -> Prop
 | .leaf => False
 | .mk k n x xs ag A m cap kid => (m : Int) = zo k /\ 0 <= zo k /\ (k = 2 \/ (4 <= k /\ k <= 7) -> WfE x) /\ ∀ i, i < m -> Jo (kid i)
abbrev pV (r : PL) : Value := .agg #[.int .i64 r.k, .int .i64 r.n, .int .i64 r.x.kind, .int .i64 r.x.v.k, .int .i64 r.x.v.n, .string r.x.v.s, .int .i64 r.x.col, .slice r.x.A r.x.n r.x.cap, .slice r.xs.A r.xs.l.length r.xs.c, .slice r.ag.A r.ag.l.length r.ag.c, .slice r.A r.m r.cap]
abbrev eV (r : E) : Value := .agg #[.int .i64 r.kind, .int .i64 r.v.k, .int .i64 r.v.n, .string r.v.s, .int .i64 r.col, .slice r.A r.n r.cap]
def VP (T : Nat -> Prop) (q : PL) (v : Value) (W : World) : Prop := ∃ r : PL, v = pV r /\ qI T W r /\ nP r = q
def VE (T : Nat -> Prop) (z : E) (v : Value) (W : World) : Prop := ∃ r : E, v = eV r /\ Xj T W r /\ nE r = z
def Hj (T : Nat -> Prop) (q : PL) (v : Value) (W : World) : Prop := ∃ (g : Nat) (r : PL), v = .slice (some ⟨g, 0, none⟩) 1 1 /\ T g /\ zb W g 31 (pC r) /\ qI T W r /\ nP r = q
def Ta (T : Nat -> Prop) (q q' : PL) (v : Value) (W : World) : Prop := ∃ (g : Nat) (r r' : PL), v = .slice (some ⟨g, 0, none⟩) 2 2 /\ T g /\ zb W g 31 (pC2 r r') /\ qI T W r /\ qI T W r' /\ nP r = q /\ nP r' = q'
theorem VP.pers (T : Nat -> Prop) (q : PL) : xx (VP T q) := fun v w w' hg ⟨r, a, b, c⟩ => ⟨r, a, b.grow hg, c⟩
theorem VE.pers (T : Nat -> Prop) (q : E) : xx (VE T q) := fun v w w' hg ⟨r, a, b, c⟩ => ⟨r, a, b.grow hg, c⟩
theorem Hj.pers (T : Nat -> Prop) (q : PL) : xx (Hj T q) := fun v w w' hg ⟨g, r, a, b, c, d, e⟩ => ⟨g, r, a, b, c.grow hg, d.grow hg, e⟩
theorem Ta.pers (T : Nat -> Prop) (q q' : PL) : xx (Ta T q q') := fun v w w' hg ⟨g, r, r', a, b, c, d, d', e⟩ => ⟨g, r, r', a, b, c.grow hg, d.grow hg, d'.grow hg, e⟩
end Go.Proofs.YtcaedcpjdmlilaaGreat

