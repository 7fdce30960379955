/- Parts of a proof. No condition. -/
import Derived.Test.YtflggnopgnoeiaaGreatGWa
import Derived.BigRegion
set_option maxRecDepth 100000
set_option linter.unusedSimpArgs false
set_option linter.unusedVariables false
namespace Go
variable {p : Prop}
theorem w5_ (h : p := by
 simp [Array.getElem?_setIfInBounds]; omega) : p := h
end Go
namespace Go.Proofs.YtflggnopgnoeiaaGreat
open Go.RowKit Go.Calm
def nE : E -> E
 | .leaf => .leaf
 | .mk k v c _ n _ kid => .mk k v c none n 0 (fun i => if i < n then nE (kid i) else .leaf)
def nA (a : Ag) : Ag := ⟨a.k, nE a.x⟩
def FW (k n : Int) (x : E) (xs : List E) (ag : List Ag) (m : Nat) (kid : Nat -> PL) : PL := .mk k n x ⟨none, xs, 0⟩ ⟨none, ag, 0⟩ none m 0 (fun i => if i < m then kid i else .leaf)
def nP : PL -> PL
 | .leaf => .leaf
 | .mk k n x xs ag _ m _ kid => FW k n (nE x) (xs.l.map nE) (ag.l.map nA) m (fun i => nP (kid i))
theorem zcc (k : Int) (v : V) (c : Int) (A : Option Addr) (n cap : Nat) (kid : Nat -> E) : nE (.mk k v c A n cap kid) = .mk k v c none n 0 (fun i => if i < n then nE (kid i) else .leaf) := rfl
def Gg (x y : E) : E := .mk 4 ⟨0, 0, es⟩ 0 none 2 0 (fun i => if i = 0 then x else if i = 1 then y else .leaf)
def zb8 (x : E) : Bool := decide (x.kind = 1) && decide (x.v.k = 2) && decide (x.v.n = 1)
def M8 (f : Int -> Bool) : E -> Bool
 | .leaf => true
 | .mk k _ c _ n _ kid => (if k = 2 then f c else true) && (List.range n).all (fun i => M8 f (kid i))
def PW (by' : Int) : E -> E
 | .leaf => .leaf
 | .mk k v c _ n _ kid => .mk k v (if k = 2 then c + by' else c) none n 0 (fun i => if i < n then PW by' (kid i) else .leaf)
def Sr (x : E) (p : PL) : PL := FW 2 0 x [] [] 1 (fun _ => p)
def Kf (ts : List (List Int)) : PL -> E -> PL
 | .leaf, x => if zb8 x then .leaf else Sr x .leaf
 | .mk k n y xs ag A m cap kid, x =>
  if zb8 x then .mk k n y xs ag A m cap kid
  else if k = 2 then (if (zD (zn ts (kid 0)).1 (Gg y x)).2 = 0 then Sr (Gg y x) (kid 0) else Sr x (.mk k n y xs ag A m cap kid))
  else if k = 8 \/ k = 9 then FW k 0 .leaf [] [] 2 (fun i => if i = 0 then Kf ts (kid 0) x else Kf ts (kid 1) x)
  else if k = 10 \/ k = 11 then FW k 0 .leaf [] [] 1 (fun _ => Kf ts (kid 0) x)
  else if k = 5 \/ k = 6 then FW k n y xs.l ag.l 2 (fun i => if i = 0 then Kf ts (kid 0) x else kid 1)
  else if k = 4 then
   if M8 (fun c => decide (c < ((zn ts (kid 0)).1.length : Int))) x then FW k n y xs.l ag.l 2 (fun i => if i = 0 then Kf ts (kid 0) x else kid 1)
   else if M8 (fun c => decide (((zn ts (kid 0)).1.length : Int) <= c)) x then FW k n y xs.l ag.l 2 (fun i => if i = 0 then kid 0 else Kf ts (kid 1) (PW (-((zn ts (kid 0)).1.length : Int)) x))
   else if (zD (zn ts (.mk k n y xs ag A m cap kid)).1 (Gg y x)).2 = 0 then FW k n (Gg y x) xs.l ag.l m kid
   else Sr x (.mk k n y xs ag A m cap kid)
  else Sr x (.mk k n y xs ag A m cap kid)
abbrev pC (p : PL) : Array Value := #[.int .i64 p.k, .int .i64 p.n, .int .i64 p.x.kind, .int .i64 p.x.v.k, .int .i64 p.x.v.n, .string p.x.v.s, .int .i64 p.x.col, .slice p.x.A p.x.n p.x.cap, .slice p.xs.A p.xs.l.length p.xs.c, .slice p.ag.A p.ag.l.length p.ag.c, .slice p.A p.m p.cap]
abbrev pC2 (p q : PL) : Array Value := #[.int .i64 p.k, .int .i64 p.n, .int .i64 p.x.kind, .int .i64 p.x.v.k, .int .i64 p.x.v.n, .string p.x.v.s, .int .i64 p.x.col, .slice p.x.A p.x.n p.x.cap, .slice p.xs.A p.xs.l.length p.xs.c, .slice p.ag.A p.ag.l.length p.ag.c, .slice p.A p.m p.cap,
 .int .i64 q.k, .int .i64 q.n, .int .i64 q.x.kind, .int .i64 q.x.v.k, .int .i64 q.x.v.n, .string q.x.v.s, .int .i64 q.x.col, .slice q.x.A q.x.n q.x.cap, .slice q.xs.A q.xs.l.length q.xs.c, .slice q.ag.A q.ag.l.length q.ag.c, .slice q.A q.m q.cap]
theorem zbA {w : World} {g : Nat} {t : TypeId} {p : PL} (h : zb w g t (pC p)) : yt w g 0 p := ⟨h.cells rfl, h.cells rfl, h.cells rfl, h.cells rfl, h.cells rfl, h.cells rfl, h.cells rfl, h.cells rfl, h.cells rfl, h.cells rfl, h.cells rfl⟩
theorem Ep {w : World} {g : Nat} {t : TypeId} {p q : PL} (h : zb w g t (pC2 p q)) : yt w g 0 p /\ yt w g 11 q := ⟨⟨h.cells rfl, h.cells rfl, h.cells rfl, h.cells rfl, h.cells rfl, h.cells rfl, h.cells rfl, h.cells rfl, h.cells rfl, h.cells rfl, h.cells rfl⟩, ⟨h.cells rfl, h.cells rfl, h.cells rfl, h.cells rfl, h.cells rfl, h.cells rfl, h.cells rfl, h.cells rfl, h.cells rfl, h.cells rfl, h.cells rfl⟩⟩
structure NX (w : World) (k n : Int) (x : E) (xs : X5) (ag : XY) : Prop where
 hx : EX w x
 hs : WW w xs.A xs.l
 ha : XZ w ag.A ag.l
 hl : xs.l.length <= zp /\ ag.l.length <= zp
 hi : x7 k /\ x7 n
theorem NX.grow {w w' : World} (hg : za w w') {k n : Int} {x : E} {xs : X5} {ag : XY} (h : NX w k n x xs ag) : NX w' k n x xs ag := ⟨h.hx.grow hg, h.hs.grow hg, h.ha.grow hg, h.hl, h.hi⟩
abbrev zbk : X5 := ⟨none, [], 0⟩
abbrev D0 : XY := ⟨none, [], 0⟩
theorem PX.nx {w : World} {k n : Int} {x : E} {xs : X5} {ag : XY} {A : Option Addr} {m cap : Nat} {kid : Nat -> PL} (h : PX w (.mk k n x xs ag A m cap kid)) : NX w k n x xs ag := by
 cases h with
 | mk hm hc hk hx hs ha hl hi => exact ⟨hx, hs, ha, hl, hi⟩
def zcg (k n : Int) (x : E) (xs : X5) (ag : XY) (g cap : Nat) (p : PL) : PL := .mk k n x xs ag (some ⟨g, 0, none⟩) 1 cap (fun _ => p)
def zcq (k n : Int) (x : E) (xs : X5) (ag : XY) (g cap : Nat) (p q : PL) : PL := .mk k n x xs ag (some ⟨g, 0, none⟩) 2 cap (fun i => if i = 0 then p else q)
theorem zbE {w : World} {k n : Int} {x : E} {xs : X5} {ag : XY} {g : Nat} {t : TypeId} {p : PL} (cap : Nat) (h : zb w g t (pC p)) (hn : NX w k n x xs ag) (hp : PX w p) : PX w (zcg k n x xs ag g cap p) :=
 .mk uW_ (fun i hi => ⟨g, 0, rfl, by (obtain rfl : i = 0 := by omega); simpa using zbA h⟩) (fun i hi => hp) hn.hx hn.hs hn.ha hn.hl hn.hi
theorem zbF {w : World} {k n : Int} {x : E} {xs : X5} {ag : XY} {g : Nat} {t : TypeId} {p q : PL} (cap : Nat) (h : zb w g t (pC2 p q)) (hn : NX w k n x xs ag) (hp : PX w p) (hq : PX w q) : PX w (zcq k n x xs ag g cap p q) :=
 .mk uW_ (fun i hi => by
  match i, hi with
  | 0, _ => exact ⟨g, 0, rfl, by simpa using (Ep h).1⟩
  | 1, _ => exact ⟨g, 0, rfl, by simpa using (Ep h).2⟩) (fun i hi => by
  match i, hi with
  | 0, _ => exact hp
  | 1, _ => exact hq) hn.hx hn.hs hn.ha hn.hl hn.hi
theorem zb.other {w : World} {g q : Nat} {t : TypeId} {cs : Array Value} (h : zb w g t cs) (hne : q ≠ g) (j : Nat) (v : Value) : zb (w.setCell ⟨q, j, none⟩ v) g t cs := by
 unfold zb at h ⊢; rw [Below.heap_setCell w ⟨q, j, none⟩ v g (Ne.symm hne)]; exact h
structure WrS (w : World) (gw : Nat) (ts : List (L2 Int)) (At : Option Addr) (nt : Nat) : Prop where
 c : w.cell? ⟨gw, 0, none⟩ = some (.slice At ts.length nt)
 t : WO w At ts
 l : ts.length <= zp
 b : ∀ t ∈ ts, t.xs.length <= zp
theorem WrS.grow {w w' : World} (hg : za w w') {gw : Nat} {ts : List (L2 Int)} {At : Option Addr} {nt : Nat} (h : WrS w gw ts At nt) : WrS w' gw ts At nt := ⟨hg.cell h.c, h.t.grow hg, h.l, h.b⟩
structure LRn (w0 w : World) (gl gn gr : Nat) (n : Int) (l r : Bool) : Prop where
 bl : zb w gl 4 #[.bool l]
 br : zb w gr 4 #[.bool r]
 cn : w0.cell? ⟨gn, 0, none⟩ = some (.int .i64 n)
 hl : w0.heap.size <= gl
 hr : w0.heap.size <= gr
 ne : gl ≠ gr
 g : za w0 w
theorem LRn.grow {w0 w w' : World} {gl gn gr : Nat} {n : Int} {l r : Bool} (h : LRn w0 w gl gn gr n l r) (hg : za w w') : LRn w0 w' gl gn gr n l r := ⟨h.bl.grow hg, h.br.grow hg, h.cn, h.hl, h.hr, h.ne, h.g.trans hg⟩
structure ElT (tr te : TypeId) (sz bytes : Nat) (z : Value) : Prop where
 hu : Tryz.prog.underlying tr = some (.slice te)
 hi : ∃ ti, Tryz.prog.info? te = some ti /\ ti.zero = some z /\ ti.size = sz /\ ti.bytes = bytes
 hz : z.cells.size = sz
 hp : 0 < sz
def Ch (w : World) (sz : Nat) (src : Value) (m : Nat) (news : List Value) : Prop := news.length = m * sz /\ (∀ u ∈ news, u.oneCell' = true) /\ ((∃ c, src = .slice none 0 c /\ m = 0) \/ ∃ ad c, src = .slice (some ad) m c /\ ∀ j u, news[j]? = some u -> w.cell? (ad.add j) = some u)
theorem jk {tr te : TypeId} {sz bytes : Nat} {z : Value} (T : ElT tr te sz bytes z) {w : World} {ops : Array Oper} {rest : List Oper} {o : Oper} {a : Act} {Q : Exit -> Act -> World -> Prop} (hgd : o.guard = none) (s x : Operand)
  (ho : o.op = .call { callee := .builtin .append, args := #[s, x], argTypes := #[tr, tr] })
  (base : Nat) (v : Value) (n : Nat) (vs : List Value) (hs : a.eval s = v) (hown : w.ownsRow base te sz v n vs) (src : Value) (m : Nat) (news : List Value) (hx : a.eval x = src) (hsrc : Ch w sz src m news) (h63 : n + m <= maxLen) (hB : (n + m) * bytes <= 140737488355328) (hbase : base <= w.heap.size)
  (h : ∀ v' w', w'.ownsRow base te sz v' (n + m) (vs ++ news) -> w.grownBy w' v.ownBlock -> wpList Tryz.prog ops Q rest (a.put o.dst v') w') : wpList Tryz.prog ops Q (o :: rest) a w := by
 obtain ⟨ti, hti, hz0, hz1, hz2⟩ := T.hi; obtain ⟨hl, h1, h2⟩ := hsrc; rcases h2 with ⟨c, rfl, rfl⟩ | ⟨ad, c, rfl, hc⟩
 ·have e : news = [] := List.length_eq_zero_iff.1 uX_; subst e; refine qn hgd s x _ ho base te ti sz T.hu hti v n vs hs hown c hx ?_; exact h v w uq_ ⟨rfl, rfl, rfl, Nat.le_refl _, fun _ _ _ => rfl⟩
 ·refine wpList_append_own _ hgd s x _ ho base te ti z sz bytes T.hu hti hz0 hz1 hz2 T.hz T.hp v n vs hs hown ad m c news hx hl hc h1 h63 hB hbase ?_; intro v' w' h1 h2 _; exact h v' w' h1 h2
theorem Kb (te : TypeId) (sz : Nat) (w : World) : (w.alloc (.cells #[] te)).ownsRow w.heap.size te sz (.slice (some ⟨w.heap.size, 0, none⟩) 0 0) 0 [] := ⟨by simp, .inr ⟨w.heap.size, 0, #[], rfl, Nat.le_refl _, heap_alloc_new w _, Nat.le_refl _, by unfold maxLen; omega, by simp, by simp⟩⟩
theorem zF.at {w : World} {g o : Nat} {e : E} (h : zF w g o e) : ∀ k u, e.cells[k]? = some u -> w.cell? ⟨g, o + k, none⟩ = some u := fun k u hk => by
 match k, hk with
 | 0, hk => simp [E.cells] at hk; subst hk; exact h.c0
 | 1, hk => simp [E.cells] at hk; subst hk; exact h.c1
 | 2, hk => simp [E.cells] at hk; subst hk; exact h.c2
 | 3, hk => simp [E.cells] at hk; subst hk; exact h.c3
 | 4, hk => simp [E.cells] at hk; subst hk; exact h.c4
 | 5, hk => simp [E.cells] at hk; subst hk; exact h.c5
theorem yt.at {w : World} {g o : Nat} {e : PL} (h : yt w g o e) : ∀ k u, e.cells[k]? = some u -> w.cell? ⟨g, o + k, none⟩ = some u := fun k u hk => by
 match k, hk with
 | 0, hk => simp [PL.cells] at hk; subst hk; exact h.c0
 | 1, hk => simp [PL.cells] at hk; subst hk; exact h.c1
 | 2, hk => simp [PL.cells] at hk; subst hk; exact h.c2
 | 3, hk => simp [PL.cells] at hk; subst hk; exact h.c3
 | 4, hk => simp [PL.cells] at hk; subst hk; exact h.c4
 | 5, hk => simp [PL.cells] at hk; subst hk; exact h.c5
 | 6, hk => simp [PL.cells] at hk; subst hk; exact h.c6
 | 7, hk => simp [PL.cells] at hk; subst hk; exact h.c7
 | 8, hk => simp [PL.cells] at hk; subst hk; exact h.c8
 | 9, hk => simp [PL.cells] at hk; subst hk; exact h.c9
 | 10, hk => simp [PL.cells] at hk; subst hk; exact h.c10
def WU (S : Nat -> Prop) (w W : World) : Prop := ∀ q, S q -> q < w.heap.size -> W.heap[q]? = w.heap[q]?
theorem WU.cell {S : Nat -> Prop} {w W : World} (h : WU S w W) {g o : Nat} {v : Value} (hs : S g) (hc : w.cell? ⟨g, o, none⟩ = some v) : W.cell? ⟨g, o, none⟩ = some v :=
 (World.cell?_of_block (h g hs (za.lt hc))).trans hc
def WX (S : Nat -> Prop) (w : World) (e : E) : Prop := ∀ W, WU S w W -> EX W e
def KT (S : Nat -> Prop) (w : World) (p : PL) : Prop := ∀ W, WU S w W -> PX W p
def Us (S : Nat -> Prop) (w : World) (k n : Int) (x : E) (xs : X5) (ag : XY) : Prop := ∀ W, WU S w W -> NX W k n x xs ag
theorem WU.refl (S : Nat -> Prop) (w : World) : WU S w w := fun _ _ _ => rfl
theorem WU.mono {S T : Nat -> Prop} {w W : World} (h : WU T w W) (hs : ∀ q, q < w.heap.size -> S q -> T q) : WU S w W := fun q a b => h q (hs q b a) b
theorem WU.trans {S : Nat -> Prop} {w w' W : World} (h : WU S w' W) (h1 : WU S w w') (hl : w.heap.size <= w'.heap.size) : WU S w W := fun q a b => (h q a uX_).trans (h1 q a b)
theorem JL {S : Nat -> Prop} {w w' : World} (h : za w w') : WU S w w' := fun q _ hq => h.below.block q hq
theorem WX.ex {S : Nat -> Prop} {w : World} {e : E} (h : WX S w e) : EX w e := h w (WU.refl S w)
theorem WX.mono {S T : Nat -> Prop} {w : World} {e : E} (h : WX S w e) (hs : ∀ q, q < w.heap.size -> S q -> T q) : WX T w e := fun W a => h W (a.mono hs)
theorem KT.mono {S T : Nat -> Prop} {w : World} {p : PL} (h : KT S w p) (hs : ∀ q, q < w.heap.size -> S q -> T q) : KT T w p := fun W a => h W (a.mono hs)
theorem Us.mono {S T : Nat -> Prop} {w : World} {k n : Int} {x : E} {xs : X5} {ag : XY} (h : Us S w k n x xs ag) (hs : ∀ q, q < w.heap.size -> S q -> T q) : Us T w k n x xs ag := fun W a => h W (a.mono hs)
theorem WX.move {S : Nat -> Prop} {w w' : World} {e : E} (h : WX S w e) (ha : WU S w w') (hl : w.heap.size <= w'.heap.size) : WX S w' e := fun W a => h W (a.trans ha hl)
theorem KT.move {S : Nat -> Prop} {w w' : World} {p : PL} (h : KT S w p) (ha : WU S w w') (hl : w.heap.size <= w'.heap.size) : KT S w' p := fun W a => h W (a.trans ha hl)
theorem Us.move {S : Nat -> Prop} {w w' : World} {k n : Int} {x : E} {xs : X5} {ag : XY} (h : Us S w k n x xs ag) (ha : WU S w w') (hl : w.heap.size <= w'.heap.size) : Us S w' k n x xs ag := fun W a => h W (a.trans ha hl)
theorem WX.grow {S : Nat -> Prop} {w w' : World} {e : E} (h : WX S w e) (hg : za w w') : WX S w' e := h.move (JL hg) hg.size
theorem KT.grow {S : Nat -> Prop} {w w' : World} {p : PL} (h : KT S w p) (hg : za w w') : KT S w' p := h.move (JL hg) hg.size
theorem Us.grow {S : Nat -> Prop} {w w' : World} {k n : Int} {x : E} {xs : X5} {ag : XY} (h : Us S w k n x xs ag) (hg : za w w') : Us S w' k n x xs ag := h.move (JL hg) hg.size
theorem zF.agr {S : Nat -> Prop} {w W : World} (h : WU S w W) {g o : Nat} {e : E} (hs : S g) (hc : zF w g o e) : zF W g o e := ⟨h.cell hs hc.c0, h.cell hs hc.c1, h.cell hs hc.c2, h.cell hs hc.c3, h.cell hs hc.c4, h.cell hs hc.c5⟩
theorem yt.agr {S : Nat -> Prop} {w W : World} (h : WU S w W) {g o : Nat} {e : PL} (hs : S g) (hc : yt w g o e) : yt W g o e := ⟨h.cell hs hc.c0, h.cell hs hc.c1, h.cell hs hc.c2, h.cell hs hc.c3, h.cell hs hc.c4, h.cell hs hc.c5, h.cell hs hc.c6, h.cell hs hc.c7, h.cell hs hc.c8, h.cell hs hc.c9, h.cell hs hc.c10⟩
abbrev Cg : Nat -> Prop := fun _ => True
theorem EX.all {w : World} {e : E} (h : EX w e) : WX Cg w e := fun W a => by
 induction h with
 | leaf => exact .leaf
 | mk hn hc hk hv hi ih => exact .mk hn (fun i hi => by obtain ⟨g, o, h1, h2⟩ := hc i hi; exact ⟨g, o, h1, h2.agr a trivial⟩) (fun i hi => ih i hi) hv hi
theorem WW.agr {w W : World} (a : WU Cg w W) {A : Option Addr} {xs : List E} (h : WW w A xs) : WW W A xs := fun i x hx => by
 obtain ⟨g, o, e, c, d⟩ := h i x hx; exact ⟨g, o, e, c.agr a trivial, d.all W a⟩
theorem XZ.agr {w W : World} (a : WU Cg w W) {A : Option Addr} {xs : List Ag} (h : XZ w A xs) : XZ W A xs := fun i x hx => by
 obtain ⟨g, o, e, c, d⟩ := h i x hx; exact ⟨g, o, e, ⟨a.cell trivial c.k, a.cell trivial c.c0, a.cell trivial c.c1, a.cell trivial c.c2, a.cell trivial c.c3, a.cell trivial c.c4, a.cell trivial c.c5⟩, d.all W a⟩
theorem NX.all {w : World} {k n : Int} {x : E} {xs : X5} {ag : XY} (h : NX w k n x xs ag) : Us Cg w k n x xs ag := fun W a => ⟨h.hx.all W a, h.hs.agr a, h.ha.agr a, h.hl, h.hi⟩
theorem PX.all {w : World} {p : PL} (h : PX w p) : KT Cg w p := fun W a => by
 induction h with
 | leaf => exact .leaf
 | mk hm hc hk hx hs ha hl hi ih => exact .mk hm (fun i hi => by obtain ⟨g, o, h1, h2⟩ := hc i hi; exact ⟨g, o, h1, h2.agr a trivial⟩) (fun i hi => ih i hi) (hx.all W a) (hs.agr a) (ha.agr a) hl hi
theorem WX.kid {S : Nat -> Prop} {w : World} {k : Int} {v : V} {c : Int} {A : Option Addr} {n cap : Nat} {kid : Nat -> E} (h : WX S w (.mk k v c A n cap kid)) {i : Nat} (hi : i < n) : WX S w (kid i) := fun W a => by
 cases h W a with
 | mk hn hc hk hv h9 => exact hk i hi
theorem KT.kid {S : Nat -> Prop} {w : World} {k n : Int} {x : E} {xs : X5} {ag : XY} {A : Option Addr} {m cap : Nat} {kid : Nat -> PL} (h : KT S w (.mk k n x xs ag A m cap kid)) {i : Nat} (hi : i < m) : KT S w (kid i) := fun W a => by
 cases h W a with
 | mk hm hc hk => exact hk i hi
theorem KT.nx {S : Nat -> Prop} {w : World} {k n : Int} {x : E} {xs : X5} {ag : XY} {A : Option Addr} {m cap : Nat} {kid : Nat -> PL} (h : KT S w (.mk k n x xs ag A m cap kid)) : Us S w k n x xs ag := fun W a => (h W a).nx
theorem Us.x {S : Nat -> Prop} {w : World} {k n : Int} {x : E} {xs : X5} {ag : XY} (h : Us S w k n x xs ag) : WX S w x := fun W a => (h W a).hx
abbrev F6 (S : Nat -> Prop) (b : Nat) : Nat -> Prop := fun q => S q \/ b <= q
def ME (S : Nat -> Prop) (by' : Int) (e : E) (w w' : World) (en : Ending) : Prop := ∃ r : E, en = .returned r.val /\ WX (F6 S w.heap.size) w' r /\ nE r = PW by' e /\ za w w'
structure Mv (S : Nat -> Prop) (w wr : World) (gx gr : Nat) (B : Option Addr) (n j : Nat) (by' : Int) (kid F : Nat -> E) : Prop where
 row : (n = 0 /\ B = none) \/ ∃ g cur, B = some ⟨g, 0, none⟩ /\ w.heap.size <= g /\ g ≠ gx /\ g ≠ gr /\ zb wr g 35 cur /\ n * 6 <= cur.size /\ (∀ i, i < n -> zF wr g (i * 6) (F i)) /\ ∀ i, i < j -> WX (fun q => (S q /\ q < w.heap.size) \/ (w.heap.size <= q /\ q ≠ g /\ q ≠ gx /\ q ≠ gr)) wr (F i)
 done : ∀ i, i < j -> nE (F i) = PW by' (kid i)
 todo : ∀ i, j <= i -> F i = kid i
theorem Mv.grow {S : Nat -> Prop} {w wr w' : World} {gx gr : Nat} {B : Option Addr} {n j : Nat} {by' : Int} {kid F : Nat -> E} (h : Mv S w wr gx gr B n j by' kid F) (hg : za wr w') : Mv S w w' gx gr B n j by' kid F := by
 refine ⟨?_, h.done, h.todo⟩; rcases h.row with h | ⟨g, cur, a, b, c, d, e, f, i, k⟩
 ·exact .inl h
 ·exact .inr ⟨g, cur, a, b, c, d, e.grow hg, f, fun q hq => (i q hq).grow hg, fun q hq => (k q hq).grow hg⟩
abbrev FY (w : World) (g o : Nat) (r : E) : World := (((((w.setCell ⟨g, o, none⟩ (.int .i64 r.kind)).setCell ⟨g, o + 1, none⟩ (.int .i64 r.v.k)).setCell ⟨g, o + 2, none⟩ (.int .i64 r.v.n)).setCell ⟨g, o + 3, none⟩ (.string r.v.s)).setCell ⟨g, o + 4, none⟩ (.int .i64 r.col)).setCell ⟨g, o + 5, none⟩ (.slice r.A r.n r.cap)
theorem zcO (cur : Array Value) (o : Nat) (a0 a1 a2 a3 a4 a5 : Value) (h : o + 6 <= cur.size) : ∃ c : Array Value, c = (((((cur.setIfInBounds o a0).setIfInBounds (o + 1) a1).setIfInBounds (o + 2) a2).setIfInBounds (o + 3) a3).setIfInBounds (o + 4) a4).setIfInBounds (o + 5) a5 /\ c.size = cur.size /\ c[o]? = some a0 /\ c[o + 1]? = some a1 /\ c[o + 2]? = some a2 /\ c[o + 3]? = some a3 /\ c[o + 4]? = some a4 /\ c[o + 5]? = some a5 /\ ∀ p, (p < o \/ o + 6 <= p) -> c[p]? = cur[p]? := by
 refine ⟨_, rfl, by simp, ?_, ?_, ?_, ?_, ?_, ?_, fun p hp => ?_⟩
 ·exact w5_
 ·exact w5_
 ·exact w5_
 ·exact w5_
 ·exact w5_
 ·exact w5_
 ·simp only [Array.getElem?_setIfInBounds]; rw [if_neg uX_, if_neg uX_, if_neg uX_, if_neg uX_, if_neg uX_, if_neg uX_]
theorem Fh (w : World) (g o : Nat) (r : E) {q : Nat} (hq : q ≠ g) : (FY w g o r).heap[q]? = w.heap[q]? := by
 unfold FY; rw [Below.heap_setCell _ ⟨g, _, none⟩ _ q hq, Below.heap_setCell _ ⟨g, _, none⟩ _ q hq, Below.heap_setCell _ ⟨g, _, none⟩ _ q hq, Below.heap_setCell _ ⟨g, _, none⟩ _ q hq, Below.heap_setCell _ ⟨g, _, none⟩ _ q hq, Below.heap_setCell _ ⟨g, _, none⟩ _ q hq]
theorem zaq {w : World} {g o : Nat} {r : E} {t : TypeId} {cur : Array Value} (h : zb w g t cur) (ho : o + 6 <= cur.size) : ∃ c, zb (FY w g o r) g t c /\ c.size = cur.size /\ zF (FY w g o r) g o r /\ ∀ p, (p < o \/ o + 6 <= p) -> c[p]? = cur[p]? := by
 obtain ⟨c, hc, hs, h0, h1, h2, h3, h4, h5, h6⟩ := zcO cur o (.int .i64 r.kind) (.int .i64 r.v.k) (.int .i64 r.v.n) (.string r.v.s) (.int .i64 r.col) (.slice r.A r.n r.cap) ho
 have hb : zb (FY w g o r) g t c := by
  rw [hc]; exact (((((h.set o _).set (o + 1) _).set (o + 2) _).set (o + 3) _).set (o + 4) _).set (o + 5) _
 exact ⟨c, hb, hs, ⟨by rw [hb.cell]; exact h0, by rw [hb.cell]; exact h1, by rw [hb.cell]; exact h2, by rw [hb.cell]; exact h3, by rw [hb.cell]; exact h4, by rw [hb.cell]; exact h5⟩, h6⟩
theorem Rs (w : World) (g o : Nat) (r : E) : (FY w g o r).heap.size = w.heap.size := by simp [FY]
theorem Mv.put {S : Nat -> Prop} {w wr : World} {gx gr g : Nat} {n j : Nat} {by' : Int} {kid F : Nat -> E} (h : Mv S w wr gx gr (some ⟨g, 0, none⟩) n j by' kid F) (hj : j < n) {r : E} (hr : WX (fun q => (S q /\ q < w.heap.size) \/ (w.heap.size <= q /\ q ≠ g /\ q ≠ gx /\ q ≠ gr)) wr r) (hn : nE r = PW by' (kid j)) :
  Mv S w (FY wr g (j * 6) r) gx gr (some ⟨g, 0, none⟩) n (j + 1) by' kid (fun i => if i = j then r else F i) := by
 refine ⟨?_, fun i hi => ?_, fun i hi => ?_⟩
 ·rcases h.row with ⟨h0, _⟩ | ⟨g', cur, e, b, c, d, hb, f, hc, hk⟩
  ·omega
  ·cases e; obtain ⟨c', hb', hs, hec, ho⟩ := zaq (r := r) (o := j * 6) hb uX_; have agr : WU (fun q => (S q /\ q < w.heap.size) \/ (w.heap.size <= q /\ q ≠ g /\ q ≠ gx /\ q ≠ gr)) wr (FY wr g (j * 6) r) := fun q hq _ => Fh wr g (j * 6) r (by rcases hq with ⟨_, h⟩ | h; omega; exact h.2.1)
   refine .inr ⟨g, c', rfl, b, c, d, hb', by omega, fun i hi => ?_, fun i hi => ?_⟩
   ·by_cases hij : i = j
    ·subst hij; rw [if_pos rfl]; exact hec
    ·rw [if_neg hij]; have hc := hc i hi
     have tr : ∀ k u, k < 6 -> wr.cell? ⟨g, i * 6 + k, none⟩ = some u -> (FY wr g (j * 6) r).cell? ⟨g, i * 6 + k, none⟩ = some u := fun k u hk hu => by
      rw [hb.cell] at hu; rw [hb'.cell, ho _ uX_]; exact hu
     exact ⟨tr 0 _ uX_ hc.c0, tr 1 _ uX_ hc.c1, tr 2 _ uX_ hc.c2, tr 3 _ uX_ hc.c3, tr 4 _ uX_ hc.c4, tr 5 _ uX_ hc.c5⟩
   ·by_cases hij : i = j
    ·subst hij; simp only [if_pos]; exact hr.move agr (by rw [Rs]; exact Nat.le_refl _)
    ·simp only [if_neg hij]; exact (hk i uX_).move agr (by rw [Rs]; exact Nat.le_refl _)
 ·by_cases hij : i = j
  ·subst hij; simp only [if_pos]; exact hn
  ·simp only [if_neg hij]; exact h.done i uX_
 ·simp only [if_neg (show ¬ i = j by omega)]; exact h.todo i uX_
theorem Mv.fin {S : Nat -> Prop} {w wr : World} {gx gr : Nat} {B : Option Addr} {n cap cap' : Nat} {by' : Int} {kid F : Nat -> E} {k : Int} {v : V} {c c' : Int} {A : Option Addr} (h : Mv S w wr gx gr B n n by' kid F) (he : WX S w (.mk k v c A n cap kid)) (hc : x7 c') (hcc : c' = if k = 2 then c + by' else c) :
  WX (fun q => (S q /\ q < w.heap.size) \/ (w.heap.size <= q /\ q ≠ gx /\ q ≠ gr)) wr (.mk k v c' B n cap' F) /\ nE (.mk k v c' B n cap' F) = PW by' (.mk k v c A n cap kid) := by
 constructor
 ·intro W a; have e0 := he.ex; cases e0 with
  | mk hn hc0 hk0 hv hi =>
   rcases h.row with ⟨h0, rfl⟩ | ⟨g, cur, rfl, b, c1, d, hb, f, hcs, hk⟩
   ·subst h0; exact .mk hn (fun i hi => absurd hi (Nat.not_lt_zero _)) (fun i hi => absurd hi (Nat.not_lt_zero _)) hv ⟨hi.1, hc⟩
   ·refine .mk hn (fun i hi => ⟨g, 0, rfl, ?_⟩) (fun i hi => hk i hi W (a.mono (fun q _ hq => ?_))) hv ⟨hi.1, hc⟩
    ·rw [Nat.zero_add]; exact (hcs i hi).agr a (.inr ⟨b, c1, d⟩)
    ·rcases hq with hq | hq
     ·exact .inl hq
     ·exact .inr ⟨hq.1, hq.2.2⟩
 ·rw [zcc]; unfold PW; rw [hcc]; congr 1; funext i
  by_cases hi : i < n
  ·rw [if_pos hi, if_pos hi]; exact h.done i hi
  ·rw [if_neg hi, if_neg hi]
def PM (S : Nat -> Prop) (Z : World) (by' : Int) (e : E) (v : Value) (W : World) : Prop := ∃ r : E, v = .agg #[.int .i64 r.kind, .int .i64 r.v.k, .int .i64 r.v.n, .string r.v.s, .int .i64 r.col, .slice r.A r.n r.cap] /\ WX (F6 S Z.heap.size) W r /\ nE r = PW by' e
theorem PM.pers (S : Nat -> Prop) (Z : World) (by' : Int) (e : E) : xQ (PM S Z by' e) := fun v w w' hg ⟨r, a, b, c⟩ => ⟨r, a, b.grow hg, c⟩
abbrev st11 (w : World) (g : Nat) (r : PL) : World := ((((((((((w.setCell ⟨g, 0, none⟩ (.int .i64 r.k)).setCell ⟨g, 1, none⟩ (.int .i64 r.n)).setCell ⟨g, 2, none⟩ (.int .i64 r.x.kind)).setCell ⟨g, 3, none⟩ (.int .i64 r.x.v.k)).setCell ⟨g, 4, none⟩ (.int .i64 r.x.v.n)).setCell ⟨g, 5, none⟩ (.string r.x.v.s)).setCell ⟨g, 6, none⟩ (.int .i64 r.x.col)).setCell ⟨g, 7, none⟩ (.slice r.x.A r.x.n r.x.cap)).setCell ⟨g, 8, none⟩ (.slice r.xs.A r.xs.l.length r.xs.c)).setCell ⟨g, 9, none⟩ (.slice r.ag.A r.ag.l.length r.ag.c)).setCell ⟨g, 10, none⟩ (.slice r.A r.m r.cap)
theorem xw (w : World) (g : Nat) (r : PL) {q : Nat} (hq : q ≠ g) : (st11 w g r).heap[q]? = w.heap[q]? := by
 unfold st11
 iterate 11 rw [Below.heap_setCell _ ⟨g, _, none⟩ _ q hq]
theorem Bu (w : World) (g : Nat) (r : PL) : (st11 w g r).heap.size = w.heap.size := by simp [st11]
theorem Wd {w0 w : World} {g : Nat} (hg : za w0 w) (h : w0.heap.size <= g) (r : PL) : za w0 (st11 w g r) := za.set (za.set (za.set (za.set (za.set (za.set (za.set (za.set (za.set (za.set (za.set hg h _) h _) h _) h _) h _) h _) h _) h _) h _) h _) h _
theorem Yx {w : World} {g : Nat} {t : TypeId} {a0 a1 a2 a3 a4 a5 a6 a7 a8 a9 a10 : Value} (r : PL) (h : zb w g t #[a0, a1, a2, a3, a4, a5, a6, a7, a8, a9, a10]) : zb (st11 w g r) g t (pC r) := by
 have B := ((((((((((h.set 0 (.int .i64 r.k)).set 1 (.int .i64 r.n)).set 2 (.int .i64 r.x.kind)).set 3 (.int .i64 r.x.v.k)).set 4 (.int .i64 r.x.v.n)).set 5 (.string r.x.v.s)).set 6 (.int .i64 r.x.col)).set 7 (.slice r.x.A r.x.n r.x.cap)).set 8 (.slice r.xs.A r.xs.l.length r.xs.c)).set 9 (.slice r.ag.A r.ag.l.length r.ag.c)).set 10 (.slice r.A r.m r.cap); simp only [List.setIfInBounds_toArray, List.set_cons_zero, List.set_cons_succ] at B; exact B
def RP (S : Nat -> Prop) (q : PL) (w w' : World) (en : Ending) : Prop := ∃ r : PL, en = .returned r.val /\ KT (F6 S w.heap.size) w' r /\ nP r = q /\ za w w'
abbrev zaT (S : Nat -> Prop) (b g : Nat) : Nat -> Prop := fun q => (S q /\ q < b) \/ (b <= q /\ q ≠ g /\ q ≠ g + 1 /\ q ≠ g + 1 + 1)
theorem RP.put {S : Nat -> Prop} {q r : PL} {w W : World} {g : Nat} (hr : KT (zaT S w.heap.size g) W r) (hn : nP r = q) (hg : za w W) (hge : w.heap.size <= g) : RP S q w (st11 W (g + 1 + 1) r) (.returned r.val) := by
 refine ⟨r, rfl, ?_, hn, Wd hg uX_ r⟩; have h1 := hr.move (w' := st11 W (g + 1 + 1) r) (fun q hq _ => xw W (g + 1 + 1) r (by rcases hq with h | h; omega; exact h.2.2.2)) (by rw [Bu]; exact Nat.le_refl _); exact h1.mono (fun q _ hq => hq.imp And.left And.left)
theorem zaT.of {S : Nat -> Prop} {b g c : Nat} (hc : g + 1 + 1 < c) (hb : b <= g) {q : Nat} (h : F6 (fun q => S q /\ q < b) c q) : zaT S b g q := by
 rcases h with h | h
 ·exact .inl h
 ·exact .inr ⟨by omega, by omega, by omega, by omega⟩
abbrev pV (r : PL) : Value := .agg #[.int .i64 r.k, .int .i64 r.n, .int .i64 r.x.kind, .int .i64 r.x.v.k, .int .i64 r.x.v.n, .string r.x.v.s, .int .i64 r.x.col, .slice r.x.A r.x.n r.x.cap, .slice r.xs.A r.xs.l.length r.xs.c, .slice r.ag.A r.ag.l.length r.ag.c, .slice r.A r.m r.cap]
abbrev eV (r : E) : Value := .agg #[.int .i64 r.kind, .int .i64 r.v.k, .int .i64 r.v.n, .string r.v.s, .int .i64 r.col, .slice r.A r.n r.cap]
def VP (T : Nat -> Prop) (q : PL) (v : Value) (W : World) : Prop := ∃ r : PL, v = pV r /\ KT T W r /\ nP r = q
def VE (T : Nat -> Prop) (z : E) (v : Value) (W : World) : Prop := ∃ r : E, v = eV r /\ WX T W r /\ nE r = z
def VB2 (T : Nat -> Prop) (b : Bool) (z : E) (v : Value) (W : World) : Prop := ∃ r : E, v = .tuple #[eV r, .bool b] /\ WX T W r /\ nE r = z
def VK1 (T : Nat -> Prop) (q : PL) (v : Value) (W : World) : Prop := ∃ (g : Nat) (r : PL), v = .slice (some ⟨g, 0, none⟩) 1 1 /\ T g /\ zb W g 39 (pC r) /\ KT T W r /\ nP r = q
def VK2 (T : Nat -> Prop) (q q' : PL) (v : Value) (W : World) : Prop := ∃ (g : Nat) (r r' : PL), v = .slice (some ⟨g, 0, none⟩) 2 2 /\ T g /\ zb W g 39 (pC2 r r') /\ KT T W r /\ KT T W r' /\ nP r = q /\ nP r' = q'
theorem VP.pers (T : Nat -> Prop) (q : PL) : xQ (VP T q) := fun v w w' hg ⟨r, a, b, c⟩ => ⟨r, a, b.grow hg, c⟩
theorem VE.pers (T : Nat -> Prop) (q : E) : xQ (VE T q) := fun v w w' hg ⟨r, a, b, c⟩ => ⟨r, a, b.grow hg, c⟩
theorem VB2.pers (T : Nat -> Prop) (b : Bool) (q : E) : xQ (VB2 T b q) := fun v w w' hg ⟨r, a, b, c⟩ => ⟨r, a, b.grow hg, c⟩
theorem VK1.pers (T : Nat -> Prop) (q : PL) : xQ (VK1 T q) := fun v w w' hg ⟨g, r, a, b, c, d, e⟩ => ⟨g, r, a, b, c.grow hg, d.grow hg, e⟩
theorem VK2.pers (T : Nat -> Prop) (q q' : PL) : xQ (VK2 T q q') := fun v w w' hg ⟨g, r, r', a, b, c, d, d', e⟩ => ⟨g, r, r', a, b, c.grow hg, d.grow hg, d'.grow hg, e⟩
section
variable {ts : List (List Int)} {k n : Int} {y x : E} {xs : X5} {ag : XY} {A : Option Addr} {m cap : Nat} {kid : Nat -> PL}
end
section
variable {ts : List (List Int)}
def NF (ts : List (List Int)) : PL -> Prop
 | .leaf => True
 | .mk k n y xs ag A m cap kid => PL.mk k n y xs ag A m cap kid = FW k n y xs.l ag.l m kid /\ (∀ i, i < m -> NF ts (kid i)) /\ (k = 2 -> PL.mk k n y xs ag A m cap kid = Sr y (kid 0) /\ Kf ts (kid 0) y = Sr y (kid 0)) /\ (k = 10 \/ k = 11 -> (kid 0).k ≠ 10 /\ (kid 0).k ≠ 11)
theorem NF.kid {p : PL} (h : NF ts p) (i : Nat) : NF ts (p.kid i) := by
 cases p with
 | leaf => exact trivial
 | mk k n y xs ag A m cap kid =>
  obtain ⟨h1, h2, _⟩ := h
  by_cases hi : i < m
  ·exact h2 i hi
  ·have := congrArg (fun p => p.kid i) h1; simp only [FW, PL.kid] at this; rw [if_neg hi] at this; show NF ts (kid i); rw [this]; exact trivial
end
def KP : PL -> Prop
 | .leaf => False
 | .mk k n y xs ag A m cap kid => (m : Int) = zJ k /\ ∀ i, i < m -> KP (kid i)
def WR (ts : List (List Int)) : PL -> List Int
 | .leaf => []
 | .mk k n x xs ag _ m _ kid => (zH ts k n x xs.l ag.l ((List.range m).map (fun i => WR ts (kid i)))).1
section
variable {ts : List (List Int)}
theorem Yl {f : Nat -> Int -> List Int × Int × Int} {g : Nat -> List Int} (hf : ∀ i m, (f i m).2.1 = 0 -> (f i m).1 = g i) : ∀ (r i : Nat) (m : Int) (l : List (List Int)), (zS f r i m l).1 = 0 -> (zS f r i m l).2.2 = l ++ (List.range r).map (fun j => g (i + j))
 | 0, i, m, l, _ => by simp [zS]
 | r + 1, i, m, l, h => by
  unfold zS at h ⊢; split at h
  ·rename_i h0; rw [if_pos h0, Yl hf r (i + 1) _ _ h, hf i m h0, List.range_succ_eq_map, List.map_cons, List.map_map, List.append_assoc]; congr 1; simp only [List.singleton_append, Nat.add_zero]; congr 1; apply List.map_congr_left; intro j _; simp only [Function.comp]; congr 1; omega
  ·rename_i h0; exact absurd h h0
theorem Qa (p : PL) : ∀ deep m, (zU ts p deep m).2.1 = 0 -> (zU ts p deep m).1 = WR ts p /\ KP p := by
 induction p with
 | leaf => intro deep m h; unfold zU at h; split at h <;> simp at h
 | mk k n x xs ag A mm cap kid ih =>
  intro deep m
  by_cases h1 : 60 < m + 1 \/ 15 < deep
  ·unfold zU; rw [if_pos h1]; simp
  ·by_cases h2 : zJ k < 0
   ·unfold zU; rw [if_neg h1, if_pos h2]; simp
   ·by_cases h3 : (mm : Int) = zJ k
    ·rw [xW ts k n x xs ag A mm cap kid deep m h1 uX_ h3]; unfold qw; split
     ·rename_i h0; exact fun h' => absurd h' h0
     ·rename_i h0; intro _; have h0 : (zS (fun i m' => zU ts (kid i) (deep + 1) m') mm 0 (m + 1) []).1 = 0 := by simpa using h0
      have e := Yl (g := fun i => WR ts (kid i)) (fun i m' h => (ih i (deep + 1) m' h).1) mm 0 (m + 1) [] h0; refine ⟨?_, h3, fun i hi => ?_⟩
      ·simp only [e, List.nil_append, Nat.zero_add]
       conv => rhs; unfold WR
      ·have : ∀ (r j : Nat) (m : Int) (l : List (List Int)), (zS (fun i m' => zU ts (kid i) (deep + 1) m') r j m l).1 = 0 -> ∀ i, j <= i -> i < j + r -> KP (kid i) := fun r => by
        induction r with
        | zero => intro j m l _ i h1 h2; omega
        | succ r ihr =>
         intro j m l hz i h1 h2; unfold zS at hz; split at hz
         ·rename_i h5
          by_cases hij : i = j
          ·subst hij; exact (ih i _ _ h5).2
          ·exact ihr (j + 1) _ _ hz i uX_ uX_
         ·rename_i h5; exact absurd hz h5
       exact this mm 0 (m + 1) [] h0 i (Nat.zero_le _) uX_
    ·unfold zU; rw [if_neg h1, if_neg h2, if_pos h3]; simp
theorem Lw {p : PL} (h : (zn ts p).2 = 0) : (zn ts p).1 = WR ts p /\ KP p := by
 unfold zn at h ⊢; split at h
 ·simp at h
 ·split at h
  ·rename_i h1 h2; simp at h; omega
  ·rename_i h1 h2; rw [if_neg h1, if_neg h2]; split at h
   ·rename_i h3; simp at h; omega
   ·rename_i h3; rw [if_neg h3]; exact Qa p 1 0 (by simpa using h3)
theorem zaY (k n : Int) (y : E) (xs : X5) (ag : XY) (A : Option Addr) (m cap : Nat) (kid : Nat -> PL) : WR ts (.mk k n y xs ag A m cap kid) = (zH ts k n y xs.l ag.l ((List.range m).map (fun i => WR ts (kid i)))).1 := by
 conv => lhs; unfold WR
end
section
variable {ts : List (List Int)}
end
