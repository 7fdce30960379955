/-
 Joined texts of this claim: Rw1, Rw2, Rw3, Rw4, Rw5, Rw6. What each proves its own head says; no condition beside those that each theorem names.
-/
import Derived.Test.YtifpomonpneanaaGreatGWa
import Derived.Test.YtifpomonpneanaaGreatGQ
import Derived.BigRegion
namespace Go.Proofs.YtifpomonpneanaaGreat
open Go.RowKit Go.Calm
set_option linter.unusedSimpArgs false
set_option linter.unusedVariables false
def nE : E → E
 | .leaf => .leaf
 | .mk k v c _ n _ kid => .mk k v c none n 0 (fun i => if i < n then nE (kid i) else .leaf)
def nA (a : Ag) : Ag := ⟨a.k, nE a.x⟩
def mkP (k n : Int) (x : E) (xs : List E) (ag : List Ag) (m : Nat) (kid : Nat → PL) : PL := .mk k n x ⟨none, xs, 0⟩ ⟨none, ag, 0⟩ none m 0 (fun i => if i < m then kid i else .leaf)
def nP : PL → PL
 | .leaf => .leaf
 | .mk k n x xs ag _ m _ kid => mkP k n (nE x) (xs.l.map nE) (ag.l.map nA) m (fun i => nP (kid i))
def andE (x y : E) : E := .mk 4 ⟨0, 0, es⟩ 0 none 2 0 (fun i => if i = 0 then x else if i = 1 then y else .leaf)
def litT (x : E) : Bool := decide (x.kind = 1) && decide (x.v.k = 2) && decide (x.v.n = 1)
def colsAll (f : Int → Bool) : E → Bool
 | .leaf => true
 | .mk k _ c _ n _ kid => (if k = 2 then f c else true) && (List.range n).all (fun i => colsAll f (kid i))
def movE (by' : Int) : E → E
 | .leaf => .leaf
 | .mk k v c _ n _ kid => .mk k v (if k = 2 then c + by' else c) none n 0 (fun i => if i < n then movE by' (kid i) else .leaf)
def fltP (x : E) (p : PL) : PL := mkP 2 0 x [] [] 1 (fun _ => p)
def pushP (ts : List (List Int)) : PL → E → PL
 | .leaf, x => if litT x then .leaf else fltP x .leaf
 | .mk k n y xs ag A m cap kid, x =>
  if litT x then .mk k n y xs ag A m cap kid
  else if k = 2 then (if (typeE (colsE ts (kid 0)).1 (andE y x)).2 = 0 then fltP (andE y x) (kid 0) else fltP x (.mk k n y xs ag A m cap kid))
  else if k = 8 ∨ k = 9 then mkP k 0 .leaf [] [] 2 (fun i => if i = 0 then pushP ts (kid 0) x else pushP ts (kid 1) x)
  else if k = 10 ∨ k = 11 then mkP k 0 .leaf [] [] 1 (fun _ => pushP ts (kid 0) x)
  else if k = 5 ∨ k = 6 then mkP k n y xs.l ag.l 2 (fun i => if i = 0 then pushP ts (kid 0) x else kid 1)
  else if k = 4 then
   if colsAll (fun c => decide (c < ((colsE ts (kid 0)).1.length : Int))) x then mkP k n y xs.l ag.l 2 (fun i => if i = 0 then pushP ts (kid 0) x else kid 1)
   else if colsAll (fun c => decide (((colsE ts (kid 0)).1.length : Int) ≤ c)) x then mkP k n y xs.l ag.l 2 (fun i => if i = 0 then kid 0 else pushP ts (kid 1) (movE (-((colsE ts (kid 0)).1.length : Int)) x))
   else if (typeE (colsE ts (.mk k n y xs ag A m cap kid)).1 (andE y x)).2 = 0 then mkP k n (andE y x) xs.l ag.l m kid
   else fltP x (.mk k n y xs ag A m cap kid)
  else fltP x (.mk k n y xs ag A m cap kid)
abbrev pC (p : PL) : Array Value := #[.int .i64 p.k, .int .i64 p.n, .int .i64 p.x.kind, .int .i64 p.x.v.k, .int .i64 p.x.v.n, .string p.x.v.s, .int .i64 p.x.col, .slice p.x.A p.x.n p.x.cap, .slice p.xs.A p.xs.l.length p.xs.c, .slice p.ag.A p.ag.l.length p.ag.c, .slice p.A p.m p.cap]
abbrev pC2 (p q : PL) : Array Value := #[.int .i64 p.k, .int .i64 p.n, .int .i64 p.x.kind, .int .i64 p.x.v.k, .int .i64 p.x.v.n, .string p.x.v.s, .int .i64 p.x.col, .slice p.x.A p.x.n p.x.cap, .slice p.xs.A p.xs.l.length p.xs.c, .slice p.ag.A p.ag.l.length p.ag.c, .slice p.A p.m p.cap,
 .int .i64 q.k, .int .i64 q.n, .int .i64 q.x.kind, .int .i64 q.x.v.k, .int .i64 q.x.v.n, .string q.x.v.s, .int .i64 q.x.col, .slice q.x.A q.x.n q.x.cap, .slice q.xs.A q.xs.l.length q.xs.c, .slice q.ag.A q.ag.l.length q.ag.c, .slice q.A q.m q.cap]
theorem pc_one {w : World} {g : Nat} {t : TypeId} {p : PL} (h : Blk w g t (pC p)) : PCells w g 0 p := ⟨h.cells rfl, h.cells rfl, h.cells rfl, h.cells rfl, h.cells rfl, h.cells rfl, h.cells rfl, h.cells rfl, h.cells rfl, h.cells rfl, h.cells rfl⟩
theorem pc_two {w : World} {g : Nat} {t : TypeId} {p q : PL} (h : Blk w g t (pC2 p q)) : PCells w g 0 p ∧ PCells w g 11 q := ⟨⟨h.cells rfl, h.cells rfl, h.cells rfl, h.cells rfl, h.cells rfl, h.cells rfl, h.cells rfl, h.cells rfl, h.cells rfl, h.cells rfl, h.cells rfl⟩, ⟨h.cells rfl, h.cells rfl, h.cells rfl, h.cells rfl, h.cells rfl, h.cells rfl, h.cells rfl, h.cells rfl, h.cells rfl, h.cells rfl, h.cells rfl⟩⟩
structure NX (w : World) (k n : Int) (x : E) (xs : XsS) (ag : AgS) : Prop where
 hx : EX w x
 hs : ESl w xs.A xs.l
 ha : AgSl w ag.A ag.l
 hl : xs.l.length ≤ reachN ∧ ag.l.length ≤ reachN
 hi : inI64 k ∧ inI64 n
abbrev nilX : XsS := ⟨none, [], 0⟩
abbrev nilG : AgS := ⟨none, [], 0⟩
theorem nx_zero {w : World} {k : Int} (hk : inI64 k) : NX w k 0 .leaf nilX nilG := ⟨.leaf, fun i x h => by simp at h, fun i x h => by simp at h, by decide, hk, by decide, by decide⟩
def one1 (k n : Int) (x : E) (xs : XsS) (ag : AgS) (g cap : Nat) (p : PL) : PL := .mk k n x xs ag (some ⟨g, 0, none⟩) 1 cap (fun _ => p)
def two2 (k n : Int) (x : E) (xs : XsS) (ag : AgS) (g cap : Nat) (p q : PL) : PL := .mk k n x xs ag (some ⟨g, 0, none⟩) 2 cap (fun i => if i = 0 then p else q)
theorem px_one {w : World} {k n : Int} {x : E} {xs : XsS} {ag : AgS} {g : Nat} {t : TypeId} {p : PL} (cap : Nat) (h : Blk w g t (pC p)) (hn : NX w k n x xs ag) (hp : PX w p) : PX w (one1 k n x xs ag g cap p) :=
 .mk (by decide) (fun i hi => ⟨g, 0, rfl, by (obtain rfl : i = 0 := by omega); simpa using pc_one h⟩) (fun i hi => hp) hn.hx hn.hs hn.ha hn.hl hn.hi
theorem px_two {w : World} {k n : Int} {x : E} {xs : XsS} {ag : AgS} {g : Nat} {t : TypeId} {p q : PL} (cap : Nat) (h : Blk w g t (pC2 p q)) (hn : NX w k n x xs ag) (hp : PX w p) (hq : PX w q) : PX w (two2 k n x xs ag g cap p q) :=
 .mk (by decide) (fun i hi => by
  match i, hi with
  | 0, _ => exact ⟨g, 0, rfl, by simpa using (pc_two h).1⟩
  | 1, _ => exact ⟨g, 0, rfl, by simpa using (pc_two h).2⟩) (fun i hi => by
  match i, hi with
  | 0, _ => exact hp
  | 1, _ => exact hq) hn.hx hn.hs hn.ha hn.hl hn.hi
theorem Blk.other {w : World} {g q : Nat} {t : TypeId} {cs : Array Value} (h : Blk w g t cs) (hne : q ≠ g) (j : Nat) (v : Value) : Blk (w.setCell ⟨q, j, none⟩ v) g t cs := by
 unfold Blk at h ⊢
 rw [Below.heap_setCell w ⟨q, j, none⟩ v g (Ne.symm hne)]
 exact h
structure ElT (tr te : TypeId) (sz bytes : Nat) (z : Value) : Prop where
 hu : Tryz.prog.underlying tr = some (.slice te)
 hi : ∃ ti, Tryz.prog.info? te = some ti ∧ ti.zero = some z ∧ ti.size = sz ∧ ti.bytes = bytes
 hz : z.cells.size = sz
 hp : 0 < sz
def SrcG (w : World) (sz : Nat) (src : Value) (m : Nat) (news : List Value) : Prop := news.length = m * sz ∧ (∀ u ∈ news, u.oneCell' = true) ∧ ((∃ c, src = .slice none 0 c ∧ m = 0) ∨ ∃ ad c, src = .slice (some ad) m c ∧ ∀ j u, news[j]? = some u → w.cell? (ad.add j) = some u)
theorem wpList_append_gen {tr te : TypeId} {sz bytes : Nat} {z : Value} (T : ElT tr te sz bytes z) {w : World} {ops : Array Oper} {rest : List Oper} {o : Oper} {a : Act} {Q : Exit → Act → World → Prop} (hgd : o.guard = none) (s x : Operand)
  (ho : o.op = .call { callee := .builtin .append, args := #[s, x], argTypes := #[tr, tr] })
  (base : Nat) (v : Value) (n : Nat) (vs : List Value) (hs : a.eval s = v) (hown : w.ownsRow base te sz v n vs) (src : Value) (m : Nat) (news : List Value) (hx : a.eval x = src) (hsrc : SrcG w sz src m news) (h63 : n + m ≤ maxLen) (hB : (n + m) * bytes ≤ 140737488355328) (hbase : base ≤ w.heap.size)
  (h : ∀ v' w', w'.ownsRow base te sz v' (n + m) (vs ++ news) → w.grownBy w' v.ownBlock → wpList Tryz.prog ops Q rest (a.put o.dst v') w') : wpList Tryz.prog ops Q (o :: rest) a w := by
 obtain ⟨ti, hti, hz0, hz1, hz2⟩ := T.hi
 obtain ⟨hl, h1, h2⟩ := hsrc
 rcases h2 with ⟨c, rfl, rfl⟩ | ⟨ad, c, rfl, hc⟩
 ·have e : news = [] := List.length_eq_zero_iff.1 (by omega)
  subst e
  refine wpList_append_none_c hgd s x _ ho base te ti sz T.hu hti v n vs hs hown c hx ?_
  exact h v w (by simpa using hown) ⟨rfl, rfl, rfl, Nat.le_refl _, fun _ _ _ => rfl⟩
 ·refine wpList_append_own _ hgd s x _ ho base te ti z sz bytes T.hu hti hz0 hz1 hz2 T.hz T.hp v n vs hs hown ad m c news hx hl hc h1 h63 hB hbase ?_
  intro v' w' h1 h2 _
  exact h v' w' h1 h2
theorem own_emptyG (te : TypeId) (sz : Nat) (w : World) : (w.alloc (.cells #[] te)).ownsRow w.heap.size te sz (.slice (some ⟨w.heap.size, 0, none⟩) 0 0) 0 [] := ⟨by simp, .inr ⟨w.heap.size, 0, #[], rfl, Nat.le_refl _, heap_alloc_new w _, Nat.le_refl _, by unfold maxLen; omega, by simp, by simp⟩⟩
def Agr (S : Nat → Prop) (w W : World) : Prop := ∀ q, S q → q < w.heap.size → W.heap[q]? = w.heap[q]?
def EXs (S : Nat → Prop) (w : World) (e : E) : Prop := ∀ W, Agr S w W → EX W e
def PXs (S : Nat → Prop) (w : World) (p : PL) : Prop := ∀ W, Agr S w W → PX W p
abbrev Snew (S : Nat → Prop) (b : Nat) : Nat → Prop := fun q => S q ∨ b ≤ q
def ME (S : Nat → Prop) (by' : Int) (e : E) (w w' : World) (en : Ending) : Prop := ∃ r : E, en = .returned r.val ∧ EXs (Snew S w.heap.size) w' r ∧ nE r = movE by' e ∧ Grow w w'
def PM (S : Nat → Prop) (Z : World) (by' : Int) (e : E) (v : Value) (W : World) : Prop := ∃ r : E, v = .agg #[.int .i64 r.kind, .int .i64 r.v.k, .int .i64 r.v.n, .string r.v.s, .int .i64 r.col, .slice r.A r.n r.cap] ∧ EXs (Snew S Z.heap.size) W r ∧ nE r = movE by' e
end Go.Proofs.YtifpomonpneanaaGreat
