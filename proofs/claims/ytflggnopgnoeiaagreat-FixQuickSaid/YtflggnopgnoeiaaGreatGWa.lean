/- Parts of a proof. No condition. -/
import Derived.Test.YtflggnopgnoeiaaGreatGAa
set_option maxRecDepth 100000
set_option maxHeartbeats 8000000
set_option maxRecDepth 100000
set_option linter.unusedSimpArgs false
set_option linter.unusedVariables false
namespace Go
variable {p : Prop}
theorem oj_ (h : p := by rw [<- hv]; rcases hn with e | e; rw [hv] at e; cases e; exact e) : p := h
theorem ou_ (h : p := by rw [jr _ _ k _ Zk.out (by simp [yk, h1, h2, h3])]; simp) : p := h
theorem oP_ (h : p := by simp [results, Tryz.results162, go_sem] <;> rfl) : p := h
theorem oQ_ (h : p := by simp [results, Tryz.results163, go_sem] <;> rfl) : p := h
theorem oR_ (h : p := by simp [results, Tryz.results138, go_sem] <;> rfl) : p := h
theorem o2_ (h : p := by simp [results, Tryz.results90, go_sem] <;> rfl) : p := h
theorem vy_ (h : p := by have := hlens.1; unfold zp at this; omega) : p := h
theorem uJ_ (h : p := by rw [hz1]; rfl) : p := h
theorem u6_ (h : p := by
 intro w1 hw1 hF K hK; obtain ⟨gq, hv, h1⟩ := hF _ (List.mem_cons_self ..) ⟨_, rfl, by decide⟩; subst hv; go_simp
 go_at_call 164
 refine (cc gq w1 h1 hw1).mono ?_; rintro en w' ⟨B, cap, rfl, ho, hg'⟩; exact ⟨_, rfl, hK _ _ hg' ⟨B, cap, rfl, qI ho rfl, Ya.of hw1 (x8 ho)⟩⟩) : p := h
theorem wk_ (h : p := by
 intro w1 hw1 hF K hK; have e1 := hw1.cell C1.out; have e2 := hw1.cell C2.out; obtain ⟨c0, c1, c2, c3, c4, c5, c6, c7, c8, c9, c10⟩ := Pc.out.grow hw1; simp only [PL.k, PL.n, PL.x, PL.xs, PL.ag, PL.A, PL.m, PL.cap] at c0 c1 c2 c3 c4 c5 c6 c7 c8 c9 c10; go_simp
 go_at_call 162
 refine (ctg w1 hw1).mono ?_; rintro en w' ⟨B, cap, rfl, hi, hn, hg'⟩; exact ⟨_, rfl, hK _ _ hg' ⟨B, cap, rfl, hi, hn.of hw1⟩⟩) : p := h
theorem wl_ (h : p := by
 intro w1 hw1 hF K hK; have e1 := hw1.cell C1.out; have e2 := hw1.cell C2.out; go_simp; exact hK _ _ ((za.refl _).al _) ⟨_, rfl, zb.new _ _ _⟩) : p := h
theorem wo_ (h : p := by
 intro w1 hw1 hF K hK; obtain ⟨B, cap, hv, hi, hn⟩ := hF _ (List.mem_cons_self ..) ⟨_, rfl, by decide⟩; subst hv; go_simp; exact hK _ _ (za.refl _) ⟨B, cap, rfl, hi, hn⟩) : p := h
theorem wp_ (h : p := by
 intro w1 hw1 hF K hK; obtain ⟨B, cap, hv, hi, hn⟩ := hF _ (List.mem_cons_of_mem _ (List.mem_cons_self ..)) ⟨_, rfl, by decide⟩; subst hv; go_simp; exact hK _ (za.refl _)) : p := h
theorem wy_ (h : p := by
 have d0 : (TE != 0) = true := by simpa using h0
 have e : R = ([], TE) := by rw [Re.out, if_pos h0]
 subst e
 go_wp2_with (go_at_call 21; ((with_reducible refine (ct _ hW).mono ?_); rintro e w2 ⟨BT, capT, rfl, hiT, _, hnT, hg2⟩; clear hiT))
 refine qX_ oQ_ rfl ?_; exact N5.bad (hW.trans hg2)) : p := h
theorem xe_ (h : p := by
 go_enter Tryz.func138, Tryz.ntmps138; go_wp2; refine qX_ oR_ rfl ?_; exact ⟨⟨_, rfl, fun h => by simp at h⟩, hb.set 1 _, (GX.refl g w).set 1 _⟩) : p := h
theorem xg_ (h : p := by
 exact ⟨k + 1, ts ++ [x], ⟨by simp [hts], by rw [yi _ Zk.out, <- HTs.out, ET.out]⟩, by omega, by go_num, by simpa [hts] using Own7.out, xP.out, hg7⟩) : p := h
theorem xz_ (h : p := by
 refine ⟨h.1.kept hg hn, fun g' hv j u hu => h.2.1 g' hv j u ?_, h.2.2⟩; rw [<- Zv hg (h.1.lt g' hv).2 oj_]; exact hu) : p := h
theorem xC_ (h : p := by
 exact ⟨P2.pers _ _, PS.pers _ _, trivial⟩) : p := h
theorem xW_ (h : p := by
 rw [<- HR.out, Me (F := fun i m' => zU (zg ts) (kid i) (deep + 1) m') hltj Hq.out h2]; simp [qw, h2]) : p := h
theorem yb_ (h : p := by
 have := List.all_eq_true.1 hsz _ (DataW.weights_mem_each ht hd n hn); simpa using this) : p := h
theorem yh_ (h : p := by
 cases HE.out with
 | mk hm' hc hk hx hs ha hl hi => exact ⟨hx, hs, ha, hl, hi.2⟩) : p := h
theorem yj_ (h : p := by
 exact ⟨PT.pers _ _, PS.pers _ _, trivial⟩) : p := h
theorem yV_ (h : p := by
 have hall : t.xs.all xR = true := by
  have := Hall.out
  rwa [List.take_of_length_le uX_] at this
 have e := At.out; rw [if_neg ht8, if_neg uO_] at e; have E := hh_ e; clear e hall; go_wp2; go_roundw
 case rel => exact ⟨k + 1, by omega, by go_num, E.out, trivial⟩
 case measure => exact u1_) : p := h
theorem yX_ (h : p := by
 have Hr := hh_ (ku xR txs j y Hyj.out Hall.out hr); obtain ⟨d2, d3⟩ := W3 hr; go_wp2; go_roundw
 case rel => exact ⟨j + 1, by omega, by go_num, Hr.out, trivial⟩
 case measure => exact u1_) : p := h
end Go
namespace Go.Proofs.YtflggnopgnoeiaaGreat
open Go.ChangeShapes Go.WideShapes Go.ChangeAt Go.RowKit Go.Calm
set_option maxRecDepth 100000
structure X5 where
 A : Option Addr
 l : List E
 c : Nat
structure XY where
 A : Option Addr
 l : List Ag
 c : Nat
inductive PL where
 | leaf : PL
 | mk (k n : Int) (x : E) (xs : X5) (ag : XY) (A : Option Addr) (m cap : Nat) (kid : Nat -> PL) : PL
instance : Inhabited PL := ⟨.leaf⟩
namespace PL
def k : PL -> Int
 | .leaf => 0
 | .mk k _ _ _ _ _ _ _ _ => k
def n : PL -> Int
 | .leaf => 0
 | .mk _ n _ _ _ _ _ _ _ => n
def x : PL -> E
 | .leaf => .leaf
 | .mk _ _ x _ _ _ _ _ _ => x
def xs : PL -> X5
 | .leaf => ⟨none, [], 0⟩
 | .mk _ _ _ xs _ _ _ _ _ => xs
def ag : PL -> XY
 | .leaf => ⟨none, [], 0⟩
 | .mk _ _ _ _ as' _ _ _ _ => as'
def A : PL -> Option Addr
 | .leaf => none
 | .mk _ _ _ _ _ a _ _ _ => a
def m : PL -> Nat
 | .leaf => 0
 | .mk _ _ _ _ _ _ m _ _ => m
def cap : PL -> Nat
 | .leaf => 0
 | .mk _ _ _ _ _ _ _ c _ => c
def kid : PL -> Nat -> PL
 | .leaf, _ => .leaf
 | .mk _ _ _ _ _ _ _ _ f, i => f i
def cells (p : PL) : List Value := [.int .i64 p.k, .int .i64 p.n, .int .i64 p.x.kind, .int .i64 p.x.v.k, .int .i64 p.x.v.n, .string p.x.v.s, .int .i64 p.x.col, .slice p.x.A p.x.n p.x.cap, .slice p.xs.A p.xs.l.length p.xs.c, .slice p.ag.A p.ag.l.length p.ag.c, .slice p.A p.m p.cap]
abbrev val (p : PL) : Value := .agg #[.int .i64 p.k, .int .i64 p.n, .int .i64 p.x.kind, .int .i64 p.x.v.k, .int .i64 p.x.v.n, .string p.x.v.s, .int .i64 p.x.col, .slice p.x.A p.x.n p.x.cap, .slice p.xs.A p.xs.l.length p.xs.c, .slice p.ag.A p.ag.l.length p.ag.c, .slice p.A p.m p.cap]
end PL
structure yt (w : World) (g o : Nat) (p : PL) : Prop where
 c0 : w.cell? ⟨g, o, none⟩ = some (.int .i64 p.k)
 c1 : w.cell? ⟨g, o + 1, none⟩ = some (.int .i64 p.n)
 c2 : w.cell? ⟨g, o + 2, none⟩ = some (.int .i64 p.x.kind)
 c3 : w.cell? ⟨g, o + 3, none⟩ = some (.int .i64 p.x.v.k)
 c4 : w.cell? ⟨g, o + 4, none⟩ = some (.int .i64 p.x.v.n)
 c5 : w.cell? ⟨g, o + 5, none⟩ = some (.string p.x.v.s)
 c6 : w.cell? ⟨g, o + 6, none⟩ = some (.int .i64 p.x.col)
 c7 : w.cell? ⟨g, o + 7, none⟩ = some (.slice p.x.A p.x.n p.x.cap)
 c8 : w.cell? ⟨g, o + 8, none⟩ = some (.slice p.xs.A p.xs.l.length p.xs.c)
 c9 : w.cell? ⟨g, o + 9, none⟩ = some (.slice p.ag.A p.ag.l.length p.ag.c)
 c10 : w.cell? ⟨g, o + 10, none⟩ = some (.slice p.A p.m p.cap)
theorem yt.grow {w w' : World} (h : za w w') {g o : Nat} {p : PL} (hc : yt w g o p) : yt w' g o p :=
 ⟨h.cell hc.c0, h.cell hc.c1, h.cell hc.c2, h.cell hc.c3, h.cell hc.c4, h.cell hc.c5, h.cell hc.c6, h.cell hc.c7, h.cell hc.c8, h.cell hc.c9, h.cell hc.c10⟩
theorem yt.e {w : World} {g o : Nat} {p : PL} (h : yt w g o p) : zF w g (o + 2) p.x := ⟨h.c2, h.c3, h.c4, h.c5, h.c6, h.c7⟩
abbrev zp : Nat := 140737488355328
inductive PX (w : World) : PL -> Prop
 | leaf : PX w .leaf
 | mk {k n : Int} {x : E} {xs : X5} {ag : XY} {A : Option Addr} {m cap : Nat} {kid : Nat -> PL} (hm : m <= zp) (hc : ∀ i, i < m -> ∃ g o, A = some ⟨g, o, none⟩ /\ yt w g (o + i * 11) (kid i)) (hk : ∀ i, i < m -> PX w (kid i)) (hx : EX w x) (hs : WW w xs.A xs.l) (ha : XZ w ag.A ag.l) (hl : xs.l.length <= zp /\ ag.l.length <= zp) (hi : x7 k /\ x7 n) : PX w (.mk k n x xs ag A m cap kid)
theorem PX.grow {w w' : World} (h : za w w') {p : PL} (hp : PX w p) : PX w' p := by
 induction hp with
 | leaf => exact .leaf
 | mk hm hc hk hx hs ha hl hi ih => exact .mk hm (fun i hi => by obtain ⟨g, o, h1, h2⟩ := hc i hi; exact ⟨g, o, h1, h2.grow h⟩) ih (hx.grow h) (hs.grow h) (ha.grow h) hl hi
section
variable {H : Type} {enc : TypeId × Value -> H} {w : World} {base : Nat} {spare : Nat -> Bool} {held : Bool}
abbrev Wt (t : TypeId) (d : DataW H) : Prop := ∀ n ∈ d.weights Tryz.prog t, n <= reachBytes
theorem YC {e : TypeId} : ∀ {l : List (DataW H)} {d : DataW H}, d ∈ l -> ∀ n ∈ d.weights Tryz.prog e, n ∈ DataW.weightsAll Tryz.prog e l
 | d' :: l, d, h, n, hn => by
  simp only [DataW.weightsAll, List.mem_append]; rcases List.mem_cons.1 h with rfl | h
  ·exact .inl hn
  ·exact .inr (YC h n hn)
theorem KN {t : TypeId} {fs : Array Field} (ht : Tryz.prog.underlying t = some (.struct fs)) {xs : List (DataW H × List MemPlace)} (hw : Wt t (.agg (xs.map (·.1)))) {i : Nat} {f : Field} (hf : fs[i]? = some f) {y : DataW H × List MemPlace} (hy : xs[i]? = some y) : Wt f.type y.1 := fun n hn =>
 hw n (by simp only [DataW.weights, ht]; exact DataW.weights_mem_each (j := i) (by simp [hf]) uS_ n hn)
theorem Zb {t e : TypeId} {fuel : Nat} {A : Option Addr} {n c : Nat} {x : DataW H × List MemPlace} (ht : Tryz.prog.underlying t = some (.slice e)) (hb : Nat.ble 1 (Tryz.prog.bytesOf e) = true) (h : DataW.trod enc Tryz.prog w base spare held fuel t [.slice A n c] = some x) (hw : Wt t x.1) : n <= zp := by
 show n <= 140737488355328; rcases DataW.trod_slice ht h with ⟨h0, _⟩ | ⟨a, len, cap, elems, rest, m, _, hcs, hx, _, _, _, hl, _⟩
 ·simp at h0; omega
 ·simp at hcs; have h1 := hw (((elems.map (·.1)).length + (rest.map (·.1)).length) * Tryz.prog.bytesOf e) (by rw [hx]; simp [DataW.weights, ht]); have h2 : 1 <= Tryz.prog.bytesOf e := Nat.le_of_ble_eq_true hb; have h3 := Nat.mul_le_mul_left ((elems.map (·.1)).length + (rest.map (·.1)).length) h2; have h4 := reachBytes_lt; simp at h3 h1; omega
theorem Qw {t e : TypeId} {fuel c : Nat} {cs : List Value} {x : DataW H × List MemPlace} (ht : Tryz.prog.underlying t = some (.slice e)) (hc : Tryz.prog.cellsOf e = c) (hc0 : 0 < c) (hb : Nat.ble 1 (Tryz.prog.bytesOf e) = true) (h : DataW.trod enc Tryz.prog w base spare held fuel t cs = some x) (hw : Wt t x.1) :
  ∃ (A : Option Addr) (len cap n : Nat) (D : Nat -> DataW H × List MemPlace), n < fuel + 1 /\ cs = [.slice A len cap] /\ len <= zp /\ len <= cap /\ ∀ i, i < len -> n < fuel /\ ∃ g o ys, A = some ⟨g, o, none⟩ /\ ys.length = c /\ (∀ j y, ys[j]? = some y -> w.cell? ⟨g, o + i * c + j, none⟩ = some y) /\ DataW.trod enc Tryz.prog w base spare held n e ys = some (D i) /\ Wt e (D i).1 := by
 have h' := h; rcases DataW.trod_slice ht h with ⟨h0, _⟩ | ⟨a, len, cap, elems, rest, n, hfu, hcs, hx, hbs, hl, hm, hlen, hel, _, _⟩
 ·exact xI_
 ·subst hcs; have hln := Zb ht hb h' hw; refine ⟨some a, len, cap, n, fun i => elems.getD i (.nil, []), by omega, rfl, hln, hl, fun i hi => ⟨by omega, ?_⟩⟩
  have get : ∀ i, i < len -> ∃ ys, w.cells? base (a.add (i * c)) c = some ys /\ DataW.trod enc Tryz.prog w base spare held n e ys = some (elems.getD i (.nil, [])) := fun i hi => wh_
  have hwt : Wt e (elems.getD i (.nil, [])).1 := fun n hn => hw n (by
   have hi' : i < elems.length := by omega
   have hmem : (elems.getD i (.nil, [])).1 ∈ elems.map (·.1) := by
    rw [List.getD_eq_getElem?_getD, qQ_ hi']; exact qZ9 (List.getElem_mem hi')
   have := YC hmem n hn; rw [hx]; simp only [DataW.weights, ht, List.mem_cons, List.mem_append]
   exact .inr (.inl this))
  have hsp : a.spot = none := we_
  obtain ⟨g, o, sp⟩ := a; simp only at hsp; subst hsp; obtain ⟨ys, hcell, hd⟩ := get i hi; obtain ⟨_, hyl, hat⟩ := World.cells?_some hcell; refine ⟨g, o, ys, rfl, hyl, fun j y hy => ?_, hd, hwt⟩; have hj : j < c := by rw [<- hyl]; exact (qQ9.1 hy).1
  have := hat j hj; rw [hy, Xe, Xe] at this; exact this
theorem Et : ∀ (fuel : Nat) {cs : List Value} {x : DataW H × List MemPlace}, DataW.trod enc Tryz.prog w base spare held fuel 39 cs = some x -> Wt 39 x.1 ->
  ∃ p : PL, cs = p.cells /\ PX w p := by
 intro fuel
 induction fuel using Nat.strongRecOn with
 | ind fuel ih =>
  intro cs x h hw; obtain ⟨xs, n, hfu, hx, hlen, hxl, hf⟩ := DataW.trod_struct Tryz.underlying39 h; rw [hx] at hw; have h11 : cs.length = 11 := by rw [hlen]; kernel_rfl
  match cs, h11 with
  | [a0, a1, a2, a3, a4, a5, a6, a7, a8, a9, a10], _ =>
   have f0 := hf 0 _ rfl; have f1 := hf 1 _ rfl; have f2 := hf 2 _ rfl; have f3 := hf 3 _ rfl; have f4 := hf 4 _ rfl; have f5 := hf 5 _ rfl; have g : ∀ i, i < 6 -> ∃ y, xs[i]? = some y := fun i hi => ⟨xs[i]' uk_, qQ_ _⟩
   obtain ⟨y0, e0⟩ := g 0 uX_; obtain ⟨y1, e1⟩ := g 1 uX_; obtain ⟨y2, e2⟩ := g 2 uX_; obtain ⟨y3, e3⟩ := g 3 uX_; obtain ⟨y4, e4⟩ := g 4 uX_; obtain ⟨y5, e5⟩ := g 5 uX_; have w3 := KN Tryz.underlying39 hw (i := 3) rfl e3; have w4 := KN Tryz.underlying39 hw (i := 4) rfl e4; have w5 := KN Tryz.underlying39 hw (i := 5) rfl e5; rw [e0] at f0; rw [e1] at f1; rw [e2] at f2; rw [e3] at f3; rw [e4] at f4; rw [e5] at f5; obtain ⟨k, hk, _, wk⟩ := DataW.trod_int Tryz.underlying3 f0; obtain ⟨nn, hn, _, wn⟩ := DataW.trod_int Tryz.underlying3 f1; obtain ⟨e, he, hE⟩ := JB _ f2; obtain ⟨A3, l3, c3, hcs3, hs3, _, _⟩ := UX f3; obtain ⟨A4, l4, c4, hcs4, hs4, _, _⟩ := RX f4; obtain ⟨A, len, cap, n', D, hn', hcs, hl, _, hi⟩ := Qw (c := 11) Tryz.underlying37 uQ_ uX_ uQ_ f5 w5; rw [hcs3] at f3; rw [hcs4] at f4; have b3 := Zb Tryz.underlying23 uQ_ f3 w3; have b4 := Zb Tryz.underlying36 uQ_ f4 w4; have c0 : Tryz.prog.cellsOf 3 = 1 := by kernel_rfl
   have c1 : Tryz.prog.cellsOf 35 = 6 := by kernel_rfl
   have c2 : Tryz.prog.cellsOf 23 = 1 := by kernel_rfl
   have c2' : Tryz.prog.cellsOf 36 = 1 := by kernel_rfl
   have c2'' : Tryz.prog.cellsOf 37 = 1 := by kernel_rfl
   simp [c0] at hk; simp [c0] at hn; simp [c1, E.cells] at he; simp [c2] at hcs3; simp [c2'] at hcs4; simp [c2''] at hcs
   have pick : ∀ i, i < len -> ∃ p : PL, (∃ g o, A = some ⟨g, o, none⟩ /\ yt w g (o + i * 11) p) /\ PX w p := fun i hlt => by
    obtain ⟨hlt', g, o, ys, hA, hyl, hat, hd, hwd⟩ := hi i hlt; obtain ⟨p, hp, hpx⟩ := ih n' uX_ hd hwd; subst hp; exact ⟨p, ⟨g, o, hA, hat 0 _ rfl, hat 1 _ rfl, hat 2 _ rfl, hat 3 _ rfl, hat 4 _ rfl, hat 5 _ rfl, hat 6 _ rfl, hat 7 _ rfl, hat 8 _ rfl, hat 9 _ rfl, hat 10 _ rfl⟩, hpx⟩
   obtain ⟨kid, hkid⟩ := Go.Deep.choose_lt pick; refine ⟨.mk k nn e ⟨A3, l3, c3⟩ ⟨A4, l4, c4⟩ A len cap kid, ?_, .mk hl (fun i hi => (hkid i hi).1) (fun i hi => (hkid i hi).2) hE hs3 hs4 ⟨b3, b4⟩ ⟨YD wk, YD wn⟩⟩; obtain ⟨h1, h2, h3, h4, h5, h6⟩ := he; simp [PL.cells, PL.k, PL.n, PL.x, PL.xs, PL.ag, PL.A, PL.m, PL.cap, hk, hn, h1, h2, h3, h4, h5, h6, hcs3, hcs4, hcs]
theorem TV {ts : List TypeId} {ds : List (DataW H)} (hsz : (DataW.weightsEach Tryz.prog ts ds).all (· <= reachBytes) = true) {r : Reach} {b0 : Nat} {v : Value} {d : DataW H} {p : List MemPlace} (j : Nat) (ht : ts[j]? = some 39) (hd : ds[j]? = some d) (hv : Value.okWide Tryz.prog w r b0 39 v) (h : DataW.Trod enc Tryz.prog w base spare held 39 v d p) : ∃ e : PL, v = e.val /\ PX w e := by
 obtain ⟨cs, rfl, _⟩ := okWide_struct Tryz.underlying39 hv; obtain ⟨fuel, hf⟩ := h
 have hw : Wt 39 d := fun n hn => yb_
 obtain ⟨e, he, hx⟩ := Et fuel hf hw; refine ⟨e, ?_, hx⟩; have : cs.toList = e.cells := by simpa [Value.cells] using he
 cases cs; simp at this; rw [this]; rfl
end
end Go.Proofs.YtflggnopgnoeiaaGreat
namespace Go.Proofs.YtflggnopgnoeiaaGreat
open Go.RowKit Go.Calm
def RQ (u : Value) : Prop := ∃ a l c, u = Value.slice a l c
def TT (w : World) (v : Value) : Prop := ∀ g, v.ownBlock = some g -> ∀ j u, w.cell? ⟨g, j, none⟩ = some u -> RQ u
def qA (te : TypeId) (w : World) (base : Nat) (v : Value) (n : Nat) (vs : List Value) : Prop := w.ownsRow base te 1 v n vs /\ TT w v /\ ∀ u ∈ vs, RQ u
theorem qA.grow {te : TypeId} {w w' : World} {base n : Nat} {v : Value} {vs : List Value} (h : qA te w base v n vs) (hg : za w w') : qA te w' base v n vs := by
 refine ⟨zi h.1 hg, fun g hv j u hu => h.2.1 g hv j u ?_, h.2.2⟩; rw [<- hg.rules.1 g j (h.1.lt g hv).2]; exact hu
theorem qA.nil (te : TypeId) (w : World) (base : Nat) : qA te w base (.slice none 0 0) 0 [] := ⟨World.ownsRow_nil _ _ _ _, (fun g hv => by simp [Value.ownBlock] at hv), fun u hu => by simp at hu⟩
theorem QI {w : World} {g : Nat} {t : TypeId} {cs : Array Value} {n c : Nat} (hb : zb w g t cs) (h : ∀ u ∈ cs.toList, RQ u) : TT w (.slice (some ⟨g, 0, none⟩) n c) := fun g' e j u hu => by
 simp [Value.ownBlock] at e; subst e; rw [hb.cell] at hu; exact h u (by rw [<- Array.getElem?_toList] at hu; exact qZ_ hu)
theorem Wk (n : Nat) : ∀ u ∈ (Builtin.zeroCells #[.slice none 0 0] n).toList, RQ u := fun u hu => by
 simp [Builtin.zeroCells] at hu; obtain ⟨a, ha, rfl⟩ := hu; refine ⟨none, 0, 0, ?_⟩; have : a % 1 = 0 := Nat.mod_one a; simp [this]
structure Cf (tr te : TypeId) : Prop where
 hu : Tryz.prog.underlying tr = some (.slice te)
 hi : ∃ ti, Tryz.prog.info? te = some ti /\ ti.zero = some (.slice none 0 0) /\ ti.size = 1 /\ ti.bytes = 24
theorem NG {tr te : TypeId} (ht : Cf tr te) {w : World} (ty : TypeId) (base : Nat) (v : Value) (n : Nat) (vs : List Value) (hown : qA te w base v n vs) (g : Nat) (y : Value) (hy : RQ y) (t : TypeId) (hb : zb w g t #[y]) (hB : n + 1 <= 100000) (hbase : base <= w.heap.size) :
  ∃ v' w', (Builtin.append_ #[tr, tr] ty #[v, .slice (some ⟨g, 0, none⟩) 1 1]).run Tryz.prog w = .ok v' w' /\ qA te w' base v' (n + 1) (vs ++ [y]) /\ w.grownBy w' v.ownBlock := by
 obtain ⟨ti, hti, hz0, hz1, hz2⟩ := ht.hi; have hy1 : y.oneCell' = true := by obtain ⟨a, l, c, rfl⟩ := hy; rfl
 have hnews : ∀ (j : Nat) u, ([y] : List Value)[j]? = some u -> w.cell? ((⟨g, 0, none⟩ : Addr).add j) = some u := fun j u hj => by
  match j, hj with
  | 0, hj => simp at hj; subst hj; rw [zQ, hb.cell]; rfl
 obtain ⟨v', w', hr, h2, h3, _⟩ := run_append_own (P := Tryz.prog) w base tr ty te ti (.slice none 0 0) 1 24 ht.hu hti hz0 hz1 hz2 rfl uW_ v n vs hown.1 ⟨g, 0, none⟩ 1 1 [y] rfl hnews (fun u hu => by simp at hu; subst hu; exact hy1) uh_ uX_ hbase
 refine ⟨v', w', hr, ⟨h2, ?_, fun u hu => by
  rcases List.mem_append.1 hu with hu | hu
  ·exact hown.2.2 u hu
  ·simp at hu; subst hu; exact hy⟩, h3⟩
 rcases hown.1.2 with ⟨rfl, rfl⟩ | ⟨g0, cap, cur, rfl, hB0, hg0, hle, hmx, hcs, htk⟩
 ·have hr2 := run_append_nil (P := Tryz.prog) w tr ty te ti (.slice none 0 0) ht.hu hti hz0 ⟨g, 0, none⟩ 1 1 [y] uJ_ hnews uX_ uX_ ut_; have e := hr.symm.trans hr2; simp only [Result.ok.injEq] at e; obtain ⟨rfl, rfl⟩ := e; refine QI (zb.new w.drew te _) (fun u hu => ?_); simp only [Array.toList_append, List.mem_append] at hu; rcases hu with hu | hu
  ·simp at hu; rw [hu]; exact hy
  ·exact Wk _ u hu
 ·by_cases hroom : n + 1 <= cap
  ·have hfit : n * ti.size + [y].length <= cur.size := by rw [hz1, hcs]; simp; omega
   have hr2 := run_append_room (P := Tryz.prog) w tr ty te ti ht.hu hti g0 n cap cur hg0 ⟨g, 0, none⟩ 1 1 [y] uJ_ hnews (fun u hu => by simp at hu; subst hu; exact hy1) hroom hfit; have e := hr.symm.trans hr2; simp only [Result.ok.injEq] at e; obtain ⟨rfl, rfl⟩ := e; have hb0 : zb w g0 te cur := hg0
   have hcur : ∀ u ∈ cur.toList, RQ u := fun u hu => by
    obtain ⟨j, hj, ej⟩ := List.mem_iff_getElem.1 hu; exact hown.2.1 g0 rfl j u (by rw [hb0.cell, <- Array.getElem?_toList, <- ej]; exact qQ_ hj)
   refine QI (setRow_heap w g0 cur _ _ _ hg0) (fun u hu => ?_); simp only [List.toList_toArray, List.mem_append] at hu; rcases hu with (hu | hu) | hu
   ·exact hcur u (List.mem_of_mem_take hu)
   ·simp at hu; rw [hu]; exact hy
   ·exact hcur u (List.mem_of_mem_drop hu)
  ·have holds : ∀ j u, vs[j]? = some u -> w.cell? ((⟨g0, 0, none⟩ : Addr).add j) = some u := hown.1.cells (g := g0) rfl; have hr2 := run_append_grow (P := Tryz.prog) w tr ty te ti (.slice none 0 0) ht.hu hti hz0 ⟨g0, 0, none⟩ n cap vs (by rw [hz1]; exact hown.1.1) holds ⟨g, 0, none⟩ 1 1 [y] uJ_ hnews uX_ uX_ (growslice_fits uX_ ut_); have e := hr.symm.trans hr2; simp only [Result.ok.injEq] at e; obtain ⟨rfl, rfl⟩ := e; refine QI (zb.new w.drew te _) (fun u hu => ?_); simp only [Array.toList_append, List.mem_append] at hu; rcases hu with (hu | hu) | hu
   ·exact hown.2.2 u (by simpa using hu)
   ·simp at hu; rw [hu]; exact hy
   ·exact Wk _ u hu
theorem XX {tr te : TypeId} (ht : Cf tr te) {w : World} {ops : Array Oper} {rest : List Oper} {o : Oper} {a : Act} {Q : Exit -> Act -> World -> Prop} (hgd : o.guard = none) (s x : Operand)
  (ho : o.op = .call { callee := .builtin .append, args := #[s, x], argTypes := #[tr, tr] })
  (base : Nat) (v : Value) (n : Nat) (vs : List Value) (hs : a.eval s = v) (hown : qA te w base v n vs) (g : Nat) (y : Value) (hy : RQ y) (hx : a.eval x = .slice (some ⟨g, 0, none⟩) 1 1) (t : TypeId) (hb : zb w g t #[y]) (hB : n + 1 <= 100000) (hbase : base <= w.heap.size)
  (h : ∀ v' w', qA te w' base v' (n + 1) (vs ++ [y]) -> w.grownBy w' v.ownBlock -> wpList Tryz.prog ops Q rest (a.put o.dst v') w') : wpList Tryz.prog ops Q (o :: rest) a w := by
 obtain ⟨v', w', hr, h1, h2⟩ := NG ht o.type base v n vs hown g y hy t hb hB hbase; exact Lib.wpList_append_run w hgd s x _ _ ho v (.slice (some ⟨g, 0, none⟩) 1 1) hs hx v' w' hr (h v' w' h1 h2)
theorem yU.gb {w w' : World} {A : Option Addr} {xs : List Int} {v : Value} (h : yU w A xs) (ha : TT w v) (hg : w.grownBy w' v.ownBlock) : yU w' A xs := fun i x hx => by
 obtain ⟨g, o, e, c1⟩ := h i x hx
 have hne : some g ≠ v.ownBlock := fun e2 => by
  obtain ⟨_, _, _, e3⟩ := ha g e2.symm _ _ c1; cases e3
 exact ⟨g, o, e, World.grownBy.cell hg c1 hne⟩
theorem kh : Cf 31 22 := ⟨Tryz.underlying31, by
 have h : (Tryz.prog.info? 22).map (fun i => (i.zero, i.size, i.bytes)) = some (some (.slice none 0 0), 1, 24) := by kernel_rfl
 cases hi : Tryz.prog.info? 22 with
 | none => rw [hi] at h; simp at h
 | some i => rw [hi] at h; simp at h; exact ⟨i, rfl, h⟩⟩
theorem H7 {te : TypeId} {P : World -> Option Addr -> List Int -> Prop} {w : World} {base n : Nat} {v : Value} {ss : List (L2 Int)} (h : w.ownsRow base te 1 v n (ss.map (fun s => .slice s.A s.xs.length s.cap))) (hv : ∀ s ∈ ss, P w s.A s.xs) : ∃ (B : Option Addr) (cap : Nat), v = .slice B ss.length cap /\ BO P w B ss := by
 have h1 := h.1; simp only [List.length_map] at h1; obtain rfl : n = ss.length := by omega
 obtain ⟨_, h⟩ := h; rcases h with ⟨rfl, h0⟩ | ⟨gb, cap, cur, rfl, hB, hgb, hle2, hmx, hcs, htk⟩
 ·have : ss = [] := List.length_eq_zero_iff.1 h0; subst this; exact ⟨none, 0, rfl, fun i x hx => by simp at hx⟩
 ·have hb : zb w gb te cur := hgb; refine ⟨some ⟨gb, 0, none⟩, cap, rfl, fun i s hs => ⟨gb, 0, rfl, ?_, hv s (qZ_ hs)⟩⟩; have hi' : i < ss.length := (qQ9.1 hs).1; have e : (ss.map (fun s : L2 Int => Value.slice s.A s.xs.length s.cap))[i]? = some (.slice s.A s.xs.length s.cap) := by simp [hs]
  rw [<- htk, List.getElem?_take, if_pos uX_] at e; rw [Nat.zero_add, hb.cell]; simpa using e
def zJ (k : Int) : Int := if k = 1 then 0 else if 4 <= k /\ k <= 9 then 2 else if 1 < k /\ k <= 13 then 1 else -1
theorem PK (k : Int) : zJ k <= 2 := by
 unfold zJ
 repeat' split
 all_goals omega
def zS {α : Type} (f : Nat -> Int -> α × Int × Int) : Nat -> Nat -> Int -> List α -> Int × Int × List α
 | 0, _, m, ts => (0, m, ts)
 | r + 1, i, m, ts => if (f i m).2.1 = 0 then zS f r (i + 1) (f i m).2.2 (ts ++ [(f i m).1]) else ((f i m).2.1, (f i m).2.2, ts)
theorem Mf {α : Type} {F : Nat -> Int -> α × Int × Int} {n j : Nat} {m q3 : Int} {q1 : α} {ts : List α} (hj : j < n) (h : F j m = (q1, 0, q3)) : zS F (n - j) j m ts = zS F (n - (j + 1)) (j + 1) q3 (ts ++ [q1]) := by
 rw [show n - j = (n - (j + 1)) + 1 by omega]
 conv => lhs; unfold zS
 rw [h]; simp
theorem Me {α : Type} {F : Nat -> Int -> α × Int × Int} {n j : Nat} {m q2 q3 : Int} {q1 : α} {ts : List α} (hj : j < n) (h : F j m = (q1, q2, q3)) (hne : q2 ≠ 0) : zS F (n - j) j m ts = (q2, q3, ts) := by
 rw [show n - j = (n - (j + 1)) + 1 by omega]
 conv => lhs; unfold zS
 rw [h]; simp [hne]
def xK (a b : List Int) : List Int × Int := if a.length ≠ b.length then ([], 8) else if (a.zip b).all (fun p => yk p.1 p.2) = true then ((a.zip b).map (fun p => xm p.1 p.2), 0) else ([], 9)
def y8 (k n : Int) (xs : List E) (ag : List Ag) (c : List Int) : List Int × Int :=
 if k = 12 /\ 8 < xs.length + ag.length then ([], 5)
 else if (zB c xs).2 ≠ 0 then ([], (zB c xs).2)
 else if k = 13 then (if n < 0 \/ 50 < n then ([], 3) else (c, 0))
 else ((zB c xs).1 ++ (if kK c ag = 0 then ag.map (Xz c) else []), kK c ag)
def zH (ts : List (List Int)) (k n : Int) (x : E) (xs : List E) (ag : List Ag) (cs : List (List Int)) : List Int × Int :=
 if k = 1 then (if n < 0 \/ (ts.length : Int) <= n then ([], 7) else (ts.getD n.toNat [], 0))
 else if k = 2 then (cs.getD 0 [], yG (cs.getD 0 []) x)
 else if k = 3 then zB (cs.getD 0 []) xs
 else if k = 8 \/ k = 9 then xK (cs.getD 0 []) (cs.getD 1 [])
 else if k = 10 \/ k = 11 then (cs.getD 0 [], 0)
 else if k = 12 \/ k = 13 then y8 k n xs ag (cs.getD 0 [])
 else if 8 < (cs.getD 0 [] ++ cs.getD 1 []).length then ([], 5)
 else if k = 5 \/ k = 6 then (cs.getD 0 [], yG (cs.getD 0 [] ++ cs.getD 1 []) x)
 else (cs.getD 0 [] ++ cs.getD 1 [], yG (cs.getD 0 [] ++ cs.getD 1 []) x)
def zU (ts : List (List Int)) : PL -> Int -> Int -> List Int × Int × Int
 | .leaf, deep, m => if 60 < m + 1 \/ 15 < deep then ([], 4, m + 1) else ([], 1, m + 1)
 | .mk k n x xs ag _ mm _ kid, deep, m =>
  if 60 < m + 1 \/ 15 < deep then ([], 4, m + 1)
  else if zJ k < 0 then ([], 1, m + 1)
  else if (mm : Int) ≠ zJ k then ([], 5, m + 1)
  else
   let r := zS (fun i m' => zU ts (kid i) (deep + 1) m') mm 0 (m + 1) []
   if r.1 ≠ 0 then ([], r.1, r.2.1) else ((zH ts k n x xs.l ag.l r.2.2).1, (zH ts k n x xs.l ag.l r.2.2).2, r.2.1)
def qw (ts : List (List Int)) (k n : Int) (x : E) (xs : List E) (ag : List Ag) (r : Int × Int × List (List Int)) : List Int × Int × Int := if r.1 ≠ 0 then ([], r.1, r.2.1) else ((zH ts k n x xs ag r.2.2).1, (zH ts k n x xs ag r.2.2).2, r.2.1)
theorem xW (ts : List (List Int)) (k n : Int) (x : E) (xs : X5) (ag : XY) (A : Option Addr) (mm cap : Nat) (kid : Nat -> PL) (deep m : Int) (h1 : ¬ (60 < m + 1 \/ 15 < deep)) (h2 : 0 <= zJ k) (h3 : (mm : Int) = zJ k) :
  zU ts (.mk k n x xs ag A mm cap kid) deep m = qw ts k n x xs.l ag.l (zS (fun i m' => zU ts (kid i) (deep + 1) m') mm 0 (m + 1) []) := by
 conv => lhs; unfold zU
 rw [if_neg h1, if_neg uX_, if_neg uX_]; rfl
theorem Md {α : Type} {f : Nat -> Int -> α × Int × Int} (hf : ∀ i m, m <= 60 -> m <= (f i m).2.2 /\ (f i m).2.2 <= 61 /\ ((f i m).2.1 = 0 -> (f i m).2.2 <= 60)) : ∀ (r i : Nat) (m : Int) (ts : List α), m <= 60 ->
  m <= (zS f r i m ts).2.1 /\ (zS f r i m ts).2.1 <= 61 /\ ((zS f r i m ts).1 = 0 -> (zS f r i m ts).2.1 <= 60 /\ (zS f r i m ts).2.2.length = ts.length + r)
 | 0, i, m, ts, h => by simp [zS]; omega
 | r + 1, i, m, ts, h => by
  unfold zS; obtain ⟨h1, h2, h3⟩ := hf i m h; split
  ·rename_i h0; have := h3 h0; obtain ⟨g1, g2, g3⟩ := Md hf r (i + 1) (f i m).2.2 (ts ++ [(f i m).1]) this; refine ⟨by omega, g2, fun h => ?_⟩; obtain ⟨g4, g5⟩ := g3 h; refine ⟨g4, ?_⟩; rw [g5]; simp; omega
  ·rename_i h0; exact ⟨h1, h2, fun h => absurd h h0⟩
theorem W4 (ts : List (List Int)) (p : PL) : ∀ (deep m : Int), m <= 60 -> m <= (zU ts p deep m).2.2 /\ (zU ts p deep m).2.2 <= 61 /\ ((zU ts p deep m).2.1 = 0 -> (zU ts p deep m).2.2 <= 60) := by
 induction p with
 | leaf =>
  intro deep m h; unfold zU; split <;> simp <;> omega
 | mk k n x xs ag A mm cap kid ih =>
  intro deep m h
  by_cases h1 : 60 < m + 1 \/ 15 < deep
  ·unfold zU; rw [if_pos h1]; simp; omega
  ·by_cases h2 : zJ k < 0
   ·unfold zU; rw [if_neg h1, if_pos h2]; simp; omega
   ·by_cases h3 : (mm : Int) = zJ k
    ·rw [xW ts k n x xs ag A mm cap kid deep m h1 uX_ h3]; obtain ⟨g1, g2, g3⟩ := Md (f := fun i m' => zU ts (kid i) (deep + 1) m') (fun i m hm => ih i (deep + 1) m hm) mm 0 (m + 1) [] uX_; unfold qw; split
     ·rename_i h0; exact ⟨by simp only; omega, by simp only; omega, fun h' => absurd h' h0⟩
     ·rename_i h0; have := (g3 ux_).1; exact ⟨by simp only; omega, by simp only; omega, fun _ => by simp only; omega⟩
    ·unfold zU; rw [if_neg h1, if_neg h2, if_pos h3]; simp; omega
theorem Bn {a b : List Int} (h : a.length <= 8) : (xK a b).1.length <= 8 := by
 unfold xK; split
 ·simp
 ·split
  ·simp; omega
  ·simp
theorem XR (c : List Int) (xs : List E) : (zB c xs).1.length <= 8 /\ ((zB c xs).2 = 0 -> (zB c xs).1.length = xs.length) := by
 by_cases h0 : (zB c xs).2 = 0
 ·obtain ⟨h1, h2⟩ := ql h0; have e : zB c xs = (xs.map (fun x => (zD c x).1), 0) := by unfold zB; rw [if_neg uX_, kI c xs h2]
  rw [e]; exact ⟨by simpa using h1, fun _ => by simp⟩
 ·refine ⟨?_, fun h => absurd h h0⟩; unfold zB at h0 ⊢; split
  ·simp
  ·rename_i h8; rw [if_neg h8] at h0
   have : ∀ l : List E, (xF c l).2 ≠ 0 -> (xF c l).1 = [] := fun l hl => by
    cases l with
    | nil => rfl
    | cons y l =>
     unfold xF at hl ⊢; split
     ·rfl
     ·rename_i h1; rw [if_neg h1] at hl; split
      ·rfl
      ·rename_i h2; rw [if_neg h2] at hl; simp at hl
   rw [this xs h0]; simp
theorem CY {ts : List (List Int)} (ht : ∀ t ∈ ts, t.length <= 8) {k n : Int} {x : E} {xs : List E} {ag : List Ag} {cs : List (List Int)} (hc : ∀ c ∈ cs, c.length <= 8) : (zH ts k n x xs ag cs).2 = 0 -> (zH ts k n x xs ag cs).1.length <= 8 := by
 have hg : ∀ (l : List (List Int)) (i : Nat), (∀ c ∈ l, c.length <= 8) -> (l.getD i []).length <= 8 := fun l i h => by
  rw [List.getD_eq_getElem?_getD]; cases hi : l[i]? with
  | none => simp
  | some c => exact h c (qZ_ hi)
 have h0 := hg cs 0 hc; have h1 := hg cs 1 hc; unfold zH; split
 ·split
  ·simp
  ·exact fun _ => hg ts _ ht
 ·split
  ·exact fun _ => h0
  ·split
   ·exact fun _ => (XR _ _).1
   ·split
    ·exact fun _ => Bn h0
    ·split
     ·exact fun _ => h0
     ·split
      ·unfold y8; split
       ·simp
       ·rename_i h12; split
        ·simp
        ·rename_i ht0; split
         ·split
          ·simp
          ·exact fun _ => h0
         ·rename_i h13; intro _; have := (XR (cs.getD 0 []) xs).2 (by simpa using ht0); simp only [List.length_append]; have h9 : (if kK (cs.getD 0 []) ag = 0 then ag.map (Xz (cs.getD 0 [])) else []).length <= ag.length := by split <;> simp
          omega
      ·split
       ·simp
       ·split
        ·exact fun _ => h0
        ·intro _; show (cs.getD 0 [] ++ cs.getD 1 []).length <= 8; omega
theorem Yf {ts : List (List Int)} (ht : ∀ t ∈ ts, t.length <= 8) (p : PL) : ∀ (deep m : Int), (zU ts p deep m).2.1 = 0 -> (zU ts p deep m).1.length <= 8 := by
 induction p with
 | leaf => intro deep m h; unfold zU; split <;> simp
 | mk k n x xs ag A mm cap kid ih =>
  intro deep m
  by_cases h1 : 60 < m + 1 \/ 15 < deep
  ·unfold zU; rw [if_pos h1]; simp
  ·by_cases h2 : zJ k < 0
   ·unfold zU; rw [if_neg h1, if_pos h2]; simp
   ·by_cases h3 : (mm : Int) = zJ k
    ·rw [xW ts k n x xs ag A mm cap kid deep m h1 uX_ h3]
     have : ∀ (r i : Nat) (m : Int) (l : List (List Int)), (∀ c ∈ l, c.length <= 8) -> ∀ c ∈ (zS (fun i m' => zU ts (kid i) (deep + 1) m') r i m l).2.2, c.length <= 8 := fun r => by
      induction r with
      | zero => intro i m l hl; exact hl
      | succ r ihr =>
       intro i m l hl; unfold zS; split
       ·rename_i h0
        exact ihr _ _ _ (fun c hc => by
         rcases List.mem_append.1 hc with hc | hc
         ·exact hl c hc
         ·simp at hc; subst hc; exact ih i _ _ h0)
       ·exact hl
     unfold qw; split
     ·rename_i h0; exact fun h' => absurd h' h0
     ·exact CY ht (this _ _ _ _ (fun c hc => by simp at hc))
    ·unfold zU; rw [if_neg h1, if_neg h2, if_pos h3]; simp
theorem QV (k : Int) (w : World) : Calls Tryz.prog 160 #[.int .i64 k] w fun e w' => e = .returned (.int .i64 (zJ k)) /\ w = w' := by
 go_enter Tryz.func160, Tryz.ntmps160; go_wp2
 all_goals
  go_ret; refine zk ?_ rfl
  (try simp only [beq_iff_eq, beq_eq_false_iff_ne, bne_iff_ne, ne_eq, bne_eq_false_iff_eq, Bool.not_eq_true', Bool.not_eq_false', decide_eq_true_eq, decide_eq_false_iff_not] at *)
  unfold zJ
  repeat' split
  all_goals first | rfl | omega
theorem LA (cols : List Int) (Ac : Option Addr) (cc : Nat) (x : E) (w : World) (hlen : cols.length <= 9223372036854775807) (hc : yU w Ac cols) (hE : EX w x) :
  Calls Tryz.prog 161 #[.slice Ac cols.length cc, x.val] w fun en w' => en = .returned (.int .i64 (yG cols x)) /\ za w w' := by
 obtain ⟨T, e, hT⟩ : ∃ T e, zD cols x = (T, e) := ⟨_, _, rfl⟩
 have ct := fun W (h : za w W) => QF cols Ac cc x W hlen (hc.grow h) (hE.grow h)
 rw [hT] at ct; simp only at ct; have hR : yG cols x = if e = 0 /\ T ≠ 2 /\ T ≠ 1 then 9 else e := by unfold yG; rw [hT]
 rw [hR]; clear hc hE hT hR; unfold E.val at *; go_enter Tryz.func161, Tryz.ntmps161
 by_cases h0 : e = 0
 ·exact wc_
 ·exact wU_
def X0 (w w' : World) (en : Ending) (r : List Int × Int) : Prop := ∃ (B : Option Addr) (cap : Nat), en = .returned (.tuple #[.slice B r.1.length cap, .int .i64 r.2]) /\ yU w' B r.1 /\ Ya w B /\ za w w'
theorem X0.bad {w w' : World} {e : Int} (hg : za w w') : X0 w w' (.returned (.tuple #[.slice none 0 0, .int .i64 e])) ([], e) := ⟨none, 0, rfl, jX _ _, (fun a ha => by cases ha), hg⟩
theorem FS {a b : List Int} {k : Nat} {x y : Int} (ha : a[k]? = some x) (hb : b[k]? = some y) : (a.zip b)[k]? = some (x, y) := by
 rw [List.getElem?_zip_eq_some]; exact ⟨ha, hb⟩
theorem Lh (a b : List Int) (A B : Option Addr) (c d : Nat) (w : World) (hl : a.length <= 100) (hlb : b.length <= 100) (ha : yU w A a) (hb : yU w B b) :
  Calls Tryz.prog 162 #[.slice A a.length c, .slice B b.length d] w fun en w' => X0 w w' en (xK a b) := by
 have Ha := hh_ ha; have Hb := hh_ hb; have Ti := hh_ qV; clear ha hb; obtain ⟨R, hR⟩ : ∃ R, xK a b = R := ⟨_, rfl⟩
 rw [hR]; have HR := hh_ hR; clear hR; go_enter Tryz.func162, Tryz.ntmps162
 by_cases h0 : a.length = b.length
 ·have d0 : ((a.length : Int) != (b.length : Int)) = false := by simp; omega
  have H0 := hh_ h0; clear h0; have e : R = if (a.zip b).all (fun p => yk p.1 p.2) = true then ((a.zip b).map (fun p => xm p.1 p.2), 0) else ([], 9) := by rw [<- HR.out]; unfold xK; rw [if_neg (by simpa using H0.out)]
  have Re := hh_ e; clear e HR; go_wp2
  go_loopw [6, 16] (fun t i wr => ∃ (k : Nat) (ts : List Int), (ts.length = k /\ ts = ((a.zip b).take k).map (fun p => xm p.1 p.2)) /\ k <= a.length /\ i = .int .i64 k /\ wr.ownsRow w.heap.size 3 1 t k (yH ts) /\ ((a.zip b).take k).all (fun p => yk p.1 p.2) = true /\ za w wr) (fun _ i _ => a.length - (intOf i).toNat)
  case atStart => exact ⟨0, [], ⟨rfl, rfl⟩, Nat.zero_le _, rfl, World.ownsRow_nil _ _ _ _, rfl, za.refl w⟩
  case round =>
   obtain ⟨k, ts, ⟨hts, hTs⟩, hk, rfl, hown, hz, hg⟩ := hrel; have Own := hh_ hown; have Hz := hh_ hz; have HTs := hh_ hTs; clear hown hz hTs
   by_cases hlt : k < a.length
   ·obtain ⟨x, hxk⟩ : ∃ x, a[k]? = some x := ⟨_, qQ_ hlt⟩
    obtain ⟨y, hyk⟩ : ∃ y, b[k]? = some y := ⟨_, qQ_ (by have := H0.out; omega)⟩
    obtain ⟨gx, ox, rfl, cx⟩ := (Ha.out.grow hg) k x hxk; obtain ⟨gy, oy, rfl, cy⟩ := (Hb.out.grow hg) k y hyk; have Zk := hh_ (FS hxk hyk); have kb : (k : Int) < (b.length : Int) := by have := H0.out; omega
    have kb' : k < b.length := by omega
    clear hxk hyk; have good : yk x y = true -> ((a.zip b).take (k + 1)).all (fun p => yk p.1 p.2) = true := fun h => ku _ _ k _ Zk.out Hz.out h
    by_cases h1 : x = y
    ·have d1 : (x == y) = true := by simpa using h1
     have ET := hh_ (show xm x y = x by simp [xm, h1]); have xP := hh_ (good (by simp [yk, h1])); clear good h1
     go_wp2_with (at_builtin; refine zm rfl _ _ rfl w.heap.size _ _ _ rfl (Own.out.alloc _) _ [x] rfl (xH (zb.new _ _ _)) uN_ v5_ ?_; intro v7 w7 own7 gr7)
     have hg7 : za w w7 := zy (hg.al _) gr7 (Own.out.alloc _); have Own7 := hh_ own7; clear own7 gr7; go_wp2; go_roundw
     case rel => exact xg_
     case measure => exact u1_
    ·have d1 : (x == y) = false := by simpa using h1
     by_cases h2 : y = 1
     ·have d2 : (y == 1) = true := by simpa using h2
      have ET := hh_ (show xm x y = x by simp [xm, h2]); have xP := hh_ (good (by simp [yk, h2])); clear good h1 h2
      go_wp2_with (at_builtin; refine zm rfl _ _ rfl w.heap.size _ _ _ rfl (Own.out.alloc _) _ [x] rfl (xH (zb.new _ _ _)) uN_ v5_ ?_; intro v7 w7 own7 gr7)
      have hg7 : za w w7 := zy (hg.al _) gr7 (Own.out.alloc _); have Own7 := hh_ own7; clear own7 gr7; go_wp2; go_roundw
      case rel => exact xg_
      case measure => exact u1_
     ·have d2 : (y == 1) = false := by simpa using h2
      by_cases h3 : x = 1
      ·have d3 : (x == 1) = true := by simpa using h3
       have ET := hh_ (show xm x y = y by unfold xm; rw [if_neg uX_, if_pos h3]); have xP := hh_ (good (by simp [yk, h3])); clear good h1 h2 h3
       go_wp2_with (at_builtin; refine zm rfl _ _ rfl w.heap.size _ _ _ rfl (Own.out.alloc _) _ [y] rfl (xH (zb.new _ _ _)) uN_ v5_ ?_; intro v7 w7 own7 gr7)
       have hg7 : za w w7 := zy (hg.al _) gr7 (Own.out.alloc _); have Own7 := hh_ own7; clear own7 gr7; go_wp2; go_roundw
       case rel => exact ⟨k + 1, ts ++ [y], ⟨by simp [hts], by rw [yi _ Zk.out, <- HTs.out, ET.out]⟩, by omega, by go_num, by simpa [hts] using Own7.out, xP.out, hg7⟩
       case measure => exact u1_
      ·have d3 : (x == 1) = false := by simpa using h3
       have e : R = ([], 9) := by rw [Re.out, if_neg ou_]
       subst e; go_wp2; refine qX_ oP_ rfl ?_; exact X0.bad hg
   ·obtain rfl : k = a.length := by omega
    have hzl : (a.zip b).length = a.length := by simp; have := H0.out; omega
    have e : R = (ts, 0) := by
     have h1 := Hz.out; have h2 := HTs.out; rw [List.take_of_length_le uX_] at h1 h2; rw [Re.out, if_pos h1, <- h2]
    subst e; obtain ⟨B9, cap9, rfl, hi9, _⟩ := Y5 (ys := ts) (w := wr) Own.out; have Fin9 := hh_ (And.intro hi9 (x8 Own.out)); clear hi9; go_wp2; refine qX_ oP_ rfl ?_; exact ⟨B9, cap9, rfl, Fin9.out.1, Fin9.out.2, hg⟩
 ·have d0 : ((a.length : Int) != (b.length : Int)) = true := by simp; omega
  have e : R = ([], 8) := by rw [<- HR.out]; unfold xK; rw [if_pos h0]
  subst e; go_wp2; refine qX_ oP_ rfl ?_; exact X0.bad (za.refl _)
def N5 (Ac : Option Addr) (cols : List Int) (w w' : World) (en : Ending) (r : List Int × Int) : Prop := ∃ (B : Option Addr) (cap : Nat), en = .returned (.tuple #[.slice B r.1.length cap, .int .i64 r.2]) /\ yU w' B r.1 /\ (Ya w B \/ B = Ac /\ r.1 = cols) /\ za w w'
theorem N5.bad {Ac : Option Addr} {cols : List Int} {w w' : World} {e : Int} (hg : za w w') : N5 Ac cols w w' (.returned (.tuple #[.slice none 0 0, .int .i64 e])) ([], e) := ⟨none, 0, rfl, jX _ _, .inl (fun a ha => by cases ha), hg⟩
theorem Nj (p : PL) (gx ox : Nat) (cols : List Int) (Ac : Option Addr) (cc : Nat) (w : World) (hp : yt w gx ox p) (hs : WW w p.xs.A p.xs.l) (ha : XZ w p.ag.A p.ag.l) (hl : p.xs.l.length <= zp /\ p.ag.l.length <= zp) (hlen : cols.length <= 8) (hc : yU w Ac cols) (hk : p.k = 12 \/ p.k = 13) :
  Calls Tryz.prog 163 #[.pointer (some ⟨gx, ox, none⟩), .slice Ac cols.length cc] w fun en w' => N5 Ac cols w w' en (y8 p.k p.n p.xs.l p.ag.l cols) := by
 have Hc := hh_ hc; have Ha := hh_ ha; have ct := fun W (h : za w W) => ZO cols Ac cc p.xs.l p.xs.A p.xs.c W uX_ (by have := hl.1; unfold zp at this; omega) (hc.grow h) (hs.grow h)
 have ca := fun W (h : za w W) (h8 : p.ag.l.length <= 8) => Zg cols Ac cc p.ag.l p.ag.A p.ag.c W uX_ h8 (hc.grow h) (Ha.out.grow h)
 obtain ⟨TS, TE, hTE⟩ : ∃ TS TE, zB cols p.xs.l = (TS, TE) := ⟨_, _, rfl⟩
 obtain ⟨AE, hAE⟩ : ∃ AE, kK cols p.ag.l = AE := ⟨_, rfl⟩
 obtain ⟨AT, hAT⟩ : ∃ AT, (if AE = 0 then p.ag.l.map (Xz cols) else []) = AT := ⟨_, rfl⟩
 obtain ⟨R, hR⟩ : ∃ R, y8 p.k p.n p.xs.l p.ag.l cols = R := ⟨_, rfl⟩
 rw [hR]
 have fin : R = if p.k = 12 /\ 8 < p.xs.l.length + p.ag.l.length then ([], 5) else if TE ≠ 0 then ([], TE) else if p.k = 13 then (if p.n < 0 \/ 50 < p.n then ([], 3) else (cols, 0)) else (TS ++ AT, AE) := by
  rw [<- hR, <- hAT]; unfold y8; rw [hTE, hAE]
 have tl := (XR cols p.xs.l).1; have alen : AT.length <= p.ag.l.length := by rw [<- hAT]; split <;> simp
 rw [hTE] at ct tl; unfold ZT at ca; rw [hAE, hAT] at ca; simp only at ct tl; have Fin := hh_ fin; have TL := hh_ tl; have AL := hh_ alen; have hl1 : p.xs.l.length <= 140737488355328 := hl.1; have hl2 : p.ag.l.length <= 140737488355328 := hl.2; have hwp : IntKind.i64.wrap ((p.xs.l.length : Int) + (p.ag.l.length : Int)) = ((p.xs.l.length + p.ag.l.length : Nat) : Int) := by rw [IntKind.wrap_i64]; omega
 obtain ⟨c0, c1, c2, c3, c4, c5, c6, c7, c8, c9, c10⟩ := hp; clear hs ha hl hc hTE hAE hAT hR fin tl alen; rcases hk with hk | hk
 ·rw [hk] at c0 Fin; go_enter Tryz.func163, Tryz.ntmps163
  by_cases h8 : 8 < p.xs.l.length + p.ag.l.length
  ·have d8 : decide ((8 : Int) < ((p.xs.l.length + p.ag.l.length : Nat) : Int)) = true := decide_eq_true uX_; have e : R = ([], 5) := by rw [Fin.out, if_pos ⟨rfl, h8⟩]
   subst e; go_wp2
   go_quiet (fail)
   go_wp2; refine qX_ oQ_ rfl ?_; exact N5.bad ze
  ·have d8 : decide ((8 : Int) < ((p.xs.l.length + p.ag.l.length : Nat) : Int)) = false := decide_eq_false uX_; have d8' : decide ((8 : Int) < (p.xs.l.length : Int) + (p.ag.l.length : Int)) = false := decide_eq_false uX_; have e : R = if TE ≠ 0 then ([], TE) else (TS ++ AT, AE) := by rw [Fin.out, if_neg uX_, if_neg (by decide : ¬ (12 : Int) = 13)]
   have Re := hh_ e; clear e Fin; go_wp2
   go_quiet (fail)
   go_upto_region 3 with fail
   refine zc (fun W => za w W) ze ?_; rintro W hW; obtain ⟨k0, k1, k8, k9⟩ := And.intro (hW.cell c0) (And.intro (hW.cell c1) (And.intro (hW.cell c8) (hW.cell c9))); clear c0 c1 c2 c3 c4 c5 c6 c7 c8 c9 c10
   by_cases h0 : TE = 0
   ·subst h0; have e : R = (TS ++ AT, AE) := by rw [Re.out]; simp
    subst e
    go_wp2_with (first
     | (go_at_call 21; ((with_reducible refine (ct _ hW).mono ?_); rintro e w2 ⟨BT, capT, rfl, hiT, _, hnT, hg2⟩; have IT := hh_ hiT; have k9 := hg2.cell k9; have k0 := hg2.cell k0; clear hiT))
     | (go_at_call 189; ((with_reducible refine (ca _ (hW.trans hg2) uX_).mono ?_); rintro e w3 ⟨BA, capA, rfl, hiA, hnA, hg3⟩; have IA := hh_ hiA; clear hiA))
     | (go_at_call 164; ((with_reducible refine (Yg ⟨BT, TS, capT⟩ ⟨BA, AT, capA⟩ _ _ _ (zb.new _ _ _) ((IT.out.grow hg3).grow ((za.refl _).al _)) (IA.out.grow ((za.refl _).al _)) (by have := TL.out; have := AL.out; simp only; omega)).mono ?_); rintro e w5 ⟨BC, capC, rfl, ho5, hg5⟩; have O5 := hh_ ho5; clear ho5)))
    refine qX_ oQ_ rfl ?_; refine ⟨BC, capC, by simp, qI O5.out rfl, .inl (fun a ha => ?_), hW.trans (hg2.trans (hg3.trans (((za.refl _).al _).trans hg5)))⟩; have h1 := x8 O5.out a ha; have h2 := (hW.trans (hg2.trans (hg3.trans ((za.refl _).al (.cells #[.slice BT TS.length capT, .slice BA AT.length capA] 22))))).size; omega
   ·exact wy_
 ·rw [hk] at c0 Fin; go_enter Tryz.func163, Tryz.ntmps163; have e : R = if TE ≠ 0 then ([], TE) else (if p.n < 0 \/ 50 < p.n then ([], 3) else (cols, 0)) := by rw [Fin.out, if_neg uX_, if_pos rfl]
  have Re := hh_ e; clear e Fin; go_wp2
  go_quiet (fail)
  go_upto_region 3 with fail
  refine zc (fun W => za w W) ze ?_; rintro W hW; obtain ⟨k0, k1, k8, k9⟩ := And.intro (hW.cell c0) (And.intro (hW.cell c1) (And.intro (hW.cell c8) (hW.cell c9))); clear c0 c1 c2 c3 c4 c5 c6 c7 c8 c9 c10
  by_cases h0 : TE = 0
  ·subst h0
   by_cases n0 : p.n < 0
   ·have e : R = ([], 3) := by rw [Re.out, if_neg uY_, if_pos (.inl n0)]
    have dn : decide (p.n < 0) = true := decide_eq_true n0; subst e
    go_wp2_with (go_at_call 21; ((with_reducible refine (ct _ hW).mono ?_); rintro e w2 ⟨BT, capT, rfl, hiT, _, hnT, hg2⟩; obtain ⟨k0, k1⟩ := And.intro (hg2.cell k0) (hg2.cell k1); clear hiT))
    refine qX_ oQ_ rfl ?_; exact N5.bad (hW.trans hg2)
   ·have dn : decide (p.n < 0) = false := decide_eq_false n0
    by_cases n5 : 50 < p.n
    ·have e : R = ([], 3) := by rw [Re.out, if_neg uY_, if_pos (.inr n5)]
     have dn : decide (50 < p.n) = true := decide_eq_true n5; subst e
     go_wp2_with (go_at_call 21; ((with_reducible refine (ct _ hW).mono ?_); rintro e w2 ⟨BT, capT, rfl, hiT, _, hnT, hg2⟩; obtain ⟨k0, k1⟩ := And.intro (hg2.cell k0) (hg2.cell k1); clear hiT))
     refine qX_ oQ_ rfl ?_; exact N5.bad (hW.trans hg2)
    ·have e : R = (cols, 0) := by rw [Re.out, if_neg uY_, if_neg uX_]
     have dn : decide (50 < p.n) = false := decide_eq_false n5; subst e
     go_wp2_with (go_at_call 21; ((with_reducible refine (ct _ hW).mono ?_); rintro e w2 ⟨BT, capT, rfl, hiT, _, hnT, hg2⟩; obtain ⟨k0, k1⟩ := And.intro (hg2.cell k0) (hg2.cell k1); clear hiT))
     refine qX_ oQ_ rfl ?_; exact ⟨Ac, cc, rfl, Hc.out.grow (hW.trans hg2), .inr ⟨rfl, rfl⟩, hW.trans hg2⟩
  ·exact wy_
abbrev WO (w : World) (A : Option Addr) (ts : List (L2 Int)) : Prop := BO yU w A ts
theorem BO.grow {w w' : World} {A : Option Addr} {ts : List (L2 Int)} (h : BO yU w A ts) (hg : za w w') : BO yU w' A ts := fun i s hs => by
 obtain ⟨g, o, a, b, c⟩ := h i s hs; exact ⟨g, o, a, hg.cell b, c.grow hg⟩
abbrev zg (ts : List (L2 Int)) : List (List Int) := ts.map L2.xs
def Wl (g : Nat) (B : Option Addr) (l : List Int) : Prop := l ≠ [] -> ∀ x, B = some x -> x.block ≠ g
theorem Wl.new {g : Nat} {w : World} {B : Option Addr} {l : List Int} (h : Ya w B) (hg : g < w.heap.size) : Wl g B l := fun _ x hx => by have := h x hx; omega
theorem Wl.old {g : Nat} {w : World} {B : Option Addr} {l : List Int} (h : yU w B l) (hg : w.heap.size <= g) : Wl g B l := fun hl x hx => by
 cases l with
 | nil => exact absurd rfl hl
 | cons y l =>
  obtain ⟨g', o, e, c⟩ := h 0 y rfl; have := za.lt c; rw [e] at hx; cases hx; simp only at this ⊢; omega
theorem World.grownBy.isl {g : Nat} {a b : World} (h : a.grownBy b (some g)) {B : Option Addr} {l : List Int} (hi : yU a B l) (hn : Wl g B l) : yU b B l := fun i x hx => by
 obtain ⟨g', o, e, c⟩ := hi i x hx; exact ⟨g', o, e, World.grownBy.cell h c (by have := hn (by rintro rfl; simp at hx) _ e; simpa using this)⟩
def N6 (g : Nat) (w w' : World) (en : Ending) (r : List Int × Int) : Prop := ∃ (v : Value), en = .returned (.tuple #[v, .int .i64 r.2]) /\ (r.2 = 0 -> ∃ (B : Option Addr) (cap : Nat), v = .slice B r.1.length cap /\ yU w' B r.1 /\ Wl g B r.1)
def zbV (ts : List (L2 Int)) (At : Option Addr) (nt : Nat) (p : PL) : Prop := ∀ (gx ox g : Nat) (deep m : Int) (w0 w : World), PX w0 p -> yt w0 gx ox p -> WO w0 At ts -> za w0 w -> w0.heap.size <= g ->
 zb w g 171 #[.slice At ts.length nt, .int .i64 m] -> 0 <= m -> m <= 60 -> 1 <= deep -> deep <= 16 ->
 Calls Tryz.prog 138 #[.pointer (some ⟨g, 0, none⟩), .pointer (some ⟨gx, ox, none⟩), .int .i64 deep] w fun en w' =>
  N6 g w w' en ((zU (zg ts) p deep m).1, (zU (zg ts) p deep m).2.1) /\ zb w' g 171 #[.slice At ts.length nt, .int .i64 (zU (zg ts) p deep m).2.2] /\ GX g w w'
theorem Pr (ts : List (L2 Int)) (At : Option Addr) (nt gx ox g : Nat) (deep m : Int) (w : World) (hb : zb w g 171 #[.slice At ts.length nt, .int .i64 m]) (h0 : 0 <= m) (h1 : m <= 60) (h : 60 < m + 1 \/ 15 < deep) :
 Calls Tryz.prog 138 #[.pointer (some ⟨g, 0, none⟩), .pointer (some ⟨gx, ox, none⟩), .int .i64 deep] w fun en w' =>
  N6 g w w' en ([], 4) /\ zb w' g 171 #[.slice At ts.length nt, .int .i64 (m + 1)] /\ GX g w w' := by
 have hgN := hb.lt; obtain ⟨c, f⟩ := hb.rules
 have d : (decide (60 < m + 1) = true) \/ (decide (60 < m + 1) = false /\ decide (15 < deep) = true) := wD_
 clear h; rcases d with d1 | ⟨d1, d2⟩
 ·exact xe_
 ·exact xe_
theorem Pq (ts : List (L2 Int)) (At : Option Addr) (nt : Nat) (p : PL) (gx ox g : Nat) (deep m : Int) (w : World) (hb : zb w g 171 #[.slice At ts.length nt, .int .i64 m]) (hne : gx ≠ g) (hp : yt w gx ox p) (hm : p.m <= zp) (h0 : 0 <= m) (d1 : decide (60 < m + 1) = false) (d2 : decide (15 < deep) = false) (h : zJ p.k < 0 \/ ¬ zJ p.k < 0 /\ (p.m : Int) ≠ zJ p.k) :
 Calls Tryz.prog 138 #[.pointer (some ⟨g, 0, none⟩), .pointer (some ⟨gx, ox, none⟩), .int .i64 deep] w fun en w' =>
  N6 g w w' en ([], if zJ p.k < 0 then 1 else 5) /\ zb w' g 171 #[.slice At ts.length nt, .int .i64 (m + 1)] /\ GX g w w' := by
 have hgN := hb.lt; obtain ⟨c, f⟩ := hb.rules; have hm60 : m + 1 <= 60 := by simp at d1; omega
 have hm' : p.m <= 140737488355328 := hm
 have d : (decide (zJ p.k < 0) = true) \/ (decide (zJ p.k < 0) = false /\ ((p.m : Int) != zJ p.k) = true) := wW_
 obtain ⟨c0, c1, c2, c3, c4, c5, c6, c7, c8, c9, c10⟩ := hp; clear h; rcases d with d3 | ⟨d3, d4⟩
 ·rw [if_pos uy_]; go_enter Tryz.func138, Tryz.ntmps138
  go_wp2_with ((go_at_call 160; ((with_reducible refine (QV _ _).mono ?_); rintro e w' ⟨rfl, rfl⟩)))
  refine qX_ oR_ rfl ?_; exact ⟨⟨_, rfl, fun h => by simp at h⟩, hb.set 1 _, (GX.refl g w).set 1 _⟩
 ·rw [if_neg uy_]; go_enter Tryz.func138, Tryz.ntmps138
  go_wp2_with ((go_at_call 160; ((with_reducible refine (QV _ _).mono ?_); rintro e w' ⟨rfl, rfl⟩)))
  refine qX_ oR_ rfl ?_; exact ⟨⟨_, rfl, fun h => by simp at h⟩, hb.set 1 _, (GX.refl g w).set 1 _⟩
theorem Nt {α : Type} {l : List α} (h : l.length = 2) : ∃ a b, l = [a, b] := by
 match l, h with
 | [a, b], _ => exact ⟨a, b, rfl⟩
abbrev vL (s : L2 Int) : Value := .slice s.A s.xs.length s.cap
theorem Zv {w w' : World} {b : Option Nat} (h : w.grownBy w' b) {g j : Nat} (hl : g < w.heap.size) (hn : some g ≠ b) : w'.cell? ⟨g, j, none⟩ = w.cell? ⟨g, j, none⟩ := World.cell?_of_block (h.block g hl hn)
theorem qA.kept {te : TypeId} {w w' : World} {base n g : Nat} {v : Value} {vs : List Value} (h : qA te w base v n vs) (hg : w.grownBy w' (some g)) (hn : v.ownBlock = none \/ v.ownBlock ≠ some g) : qA te w' base v n vs := xz_
theorem qA.ne {te : TypeId} {w : World} {B g n : Nat} {t : Value} {vs : List Value} (h : qA te w B t n vs) (hg : g < B) : t.ownBlock = none \/ t.ownBlock ≠ some g := QZ h.1 hg
theorem GX.ownV {te : TypeId} {w0 w w' : World} {B n g : Nat} {t : Value} {vs : List Value} (hg : GX g w0 w) (ho : qA te w B t n vs) (hB : w0.heap.size <= B) (h : w.grownBy w' t.ownBlock) : GX g w0 w' := GX.own hg h (fun i hi => Nat.le_trans hB (ho.1.lt i hi).1)
structure Cs (w : World) (g : Nat) (cs : List (L2 Int)) : Prop where
 i : ∀ c ∈ cs, yU w c.A c.xs /\ Wl g c.A c.xs
theorem Cs.gx {w w' : World} {g : Nat} {cs : List (L2 Int)} (h : Cs w g cs) (hg : GX g w w') : Cs w' g cs := ⟨fun c hc => ⟨World.grownBy.isl hg (h.i c hc).1 (h.i c hc).2, (h.i c hc).2⟩⟩
theorem Cs.grow {w w' : World} {g : Nat} {cs : List (L2 Int)} (h : Cs w g cs) (hg : za w w') : Cs w' g cs := ⟨fun c hc => ⟨(h.i c hc).1.grow hg, (h.i c hc).2⟩⟩
theorem Cs.gb {w w' : World} {g : Nat} {cs : List (L2 Int)} {v : Value} (h : Cs w g cs) (ha : TT w v) (hg : w.grownBy w' v.ownBlock) : Cs w' g cs := ⟨fun c hc => ⟨(h.i c hc).1.gb ha hg, (h.i c hc).2⟩⟩
theorem Cs.snoc {w : World} {g : Nat} {cs : List (L2 Int)} (h : Cs w g cs) {c : L2 Int} (hi : yU w c.A c.xs) (hn : Wl g c.A c.xs) : Cs w g (cs ++ [c]) := ⟨fun d hd => by
 rcases List.mem_append.1 hd with hd | hd
 ·exact h.i d hd
 ·simp at hd; subst hd; exact ⟨hi, hn⟩⟩
theorem qA.one {te : TypeId} {w : World} {base : Nat} {v : Value} {a : L2 Int} (h : qA te w base v 1 [vL a]) : ∃ (g1 cap : Nat), v = .slice (some ⟨g1, 0, none⟩) 1 cap /\ w.cell? ⟨g1, 0, none⟩ = some (vL a) := by
 rcases h.1.2 with ⟨_, h0⟩ | ⟨g, cap, cur, rfl, _⟩
 ·omega
 ·exact ⟨g, cap, rfl, by have := h.1.cells (g := g) rfl 0 _ rfl; simpa [zQ] using this⟩
theorem qA.two {te : TypeId} {w : World} {base : Nat} {v : Value} {a b : L2 Int} (h : qA te w base v 2 [vL a, vL b]) : ∃ (g1 cap : Nat), v = .slice (some ⟨g1, 0, none⟩) 2 cap /\ w.cell? ⟨g1, 0, none⟩ = some (vL a) /\ w.cell? ⟨g1, 1, none⟩ = some (vL b) := by
 rcases h.1.2 with ⟨_, h0⟩ | ⟨g, cap, cur, rfl, _⟩
 ·omega
 ·exact ⟨g, cap, rfl, by have := h.1.cells (g := g) rfl 0 _ rfl; simpa [zQ] using this, by have := h.1.cells (g := g) rfl 1 _ rfl; simpa [zQ] using this⟩
def PT (w0 : World) (R : List Int × Int) (v : Value) (W : World) : Prop := ∃ (B : Option Addr) (cap : Nat), v = .tuple #[.slice B R.1.length cap, .int .i64 R.2] /\ yU W B R.1 /\ Ya w0 B
def PS (w0 : World) (l : List Int) (v : Value) (W : World) : Prop := ∃ (B : Option Addr) (cap : Nat), v = .slice B l.length cap /\ yU W B l /\ Ya w0 B
theorem PT.pers (w0 : World) (R : List Int × Int) : xQ (PT w0 R) := fun v w w' hg ⟨B, cap, e, h, n⟩ => ⟨B, cap, e, h.grow hg, n⟩
theorem PS.pers (w0 : World) (l : List Int) : xQ (PS w0 l) := fun v w w' hg ⟨B, cap, e, h, n⟩ => ⟨B, cap, e, h.grow hg, n⟩
theorem P2.pers (l r : L2 Int) : xQ (P2 l r) := fun v w w' hg ⟨g, e, h⟩ => ⟨g, e, h.grow hg⟩
theorem Ya.of {w w' : World} (hg : za w w') {B : Option Addr} (h : Ya w' B) : Ya w B := fun x hx => by have := h x hx; have := hg.size; omega
theorem C8 (ts : List (L2 Int)) (At : Option Addr) (nt : Nat) (ht8 : ∀ t ∈ zg ts, t.length <= 8) (hnt : ts.length <= 8) (k n : Int) (x : E) (xs : X5) (ag : XY) (A : Option Addr) (mm cap : Nat) (kid : Nat -> PL) (ih : ∀ i, zbV ts At nt (kid i))
  (gx ox g : Nat) (deep m : Int) (w0 w : World) (hE : PX w0 (.mk k n x xs ag A mm cap kid)) (hx : yt w0 gx ox (.mk k n x xs ag A mm cap kid)) (hts : WO w0 At ts) (hg0 : za w0 w) (hlt : w0.heap.size <= g)
  (hb : zb w g 171 #[.slice At ts.length nt, .int .i64 m]) (h0 : 0 <= m) (d1 : decide (60 < m + 1) = false) (d2 : decide (15 < deep) = false) (hd0 : 1 <= deep) (hkn : 0 <= zJ k) (hn : (mm : Int) = zJ k)
  (C : List Int) (ER M : Int) (hT : qw (zg ts) k n x xs.l ag.l (zS (fun i m' => zU (zg ts) (kid i) (deep + 1) m') mm 0 (m + 1) []) = (C, ER, M)) :
 Calls Tryz.prog 138 #[.pointer (some ⟨g, 0, none⟩), .pointer (some ⟨gx, ox, none⟩), .int .i64 deep] w fun en w' =>
  N6 g w w' en (C, ER) /\ zb w' g 171 #[.slice At ts.length nt, .int .i64 M] /\ GX g w w' := by
 have Hx := hh_ hx; have Hb := hh_ hb; have HT := hh_ hT; have Hn := hh_ hn; have Hts := hh_ hts; have HE := hh_ hE; have H8 := hh_ ht8; have d3 : decide (zJ k < 0) = false := by simp; omega
 have d4 : ((mm : Int) != zJ k) = false := by simpa using hn
 obtain ⟨cb, fb⟩ := hb.rules; have hgN : g < w.heap.size := hb.lt; have hn2 : mm <= 2 := by have := PK k; omega
 have hm : m + 1 <= 60 := by simp at d1; omega
 have hd : deep <= 15 := by simp at d2; omega
 have hne : gx ≠ g := wV_
 obtain ⟨c0, c1, c2, c3, c4, c5, c6, c7, c8, c9, c10⟩ := hx.grow hg0; simp only [PL.k, PL.n, PL.x, PL.xs, PL.ag, PL.A, PL.m, PL.cap] at c0 c1 c2 c3 c4 c5 c6 c7 c8 c9 c10; clear hT hn hx hb hts hE ht8; go_enter Tryz.func138, Tryz.ntmps138
 go_wp2_with ((go_at_call 160; ((with_reducible refine (QV _ _).mono ?_); rintro e w' ⟨rfl, rfl⟩)))
 go_loopw [9, 51] (fun t i wr => ∃ (j : Nat) (m' : Int) (cs : List (L2 Int)), j <= mm /\ i = .int .i64 j /\ qA 22 wr w.heap.size t j (cs.map vL) /\ zb wr g 171 #[.slice At ts.length nt, .int .i64 m'] /\ GX g w wr /\ 0 <= m' /\ m' <= 60 /\ cs.length = j /\ Cs wr g cs /\ (∀ c ∈ cs, c.xs.length <= 8) /\
   zS (fun i m' => zU (zg ts) (kid i) (deep + 1) m') (mm - j) j m' (cs.map L2.xs) = zS (fun i m' => zU (zg ts) (kid i) (deep + 1) m') mm 0 (m + 1) []) (fun _ i _ => mm - (intOf i).toNat)
 case atStart => exact ⟨0, m + 1, [], Nat.zero_le _, rfl, qA.nil _ _ _, Hb.out.set 1 _, (GX.refl g w).set 1 _, by omega, by omega, rfl, ⟨fun c hc => by simp at hc⟩, (fun c hc => by simp at hc), rfl⟩
 case round =>
  obtain ⟨j, m', cs, hj, rfl, hown, hbr, hgx, hm0, hm1, hcl, hcs, hc8, hR⟩ := hrel; have hgw := GX.base hg0 hlt hgx; have Own := hh_ hown; have HR := hh_ hR; have hbs := hh_ hbr; have HC := hh_ hcs; have HC8 := hh_ hc8; obtain ⟨c0, c1, c2, c3, c4, c5, c6, c7, c8, c9, c10⟩ := Hx.out.grow hgw; simp only [PL.k, PL.n, PL.x, PL.xs, PL.ag, PL.A, PL.m, PL.cap] at c0 c1 c2 c3 c4 c5 c6 c7 c8 c9 c10; clear hown hR hbr hcs hc8
  by_cases hltj : j < mm
  ·obtain ⟨gk, ok, hA, hck, hEk⟩ : ∃ gk ok, A = some ⟨gk, ok, none⟩ /\ yt w0 gk (ok + j * 11) (kid j) /\ PX w0 (kid j) := by
    cases HE.out with
    | mk hm' hc hk =>
     obtain ⟨gk, ok, h1, h2⟩ := hc j hltj; exact ⟨gk, ok, h1, h2, hk j hltj⟩
   subst hA; obtain ⟨q1, q2, q3, hq⟩ : ∃ q1 q2 q3, zU (zg ts) (kid j) (deep + 1) m' = (q1, q2, q3) := ⟨_, _, _, rfl⟩
   have hbd := W4 (zg ts) (kid j) (deep + 1) m' hm1; have hln := Yf H8.out (kid j) (deep + 1) m'; have ihj := ih j gk (ok + j * 11) g (deep + 1) m' w0 wr hEk hck Hts.out hgw hlt hbs.out hm0 hm1 uX_ uX_; rw [hq] at hbd ihj hln; simp only at hbd ihj hln; have Hq := hh_ hq; clear hq hck hEk
   by_cases h2 : q2 = 0
   ·subst h2
    go_wp2_with (first
     | (at_builtin; refine XX kh rfl _ _ rfl w.heap.size _ _ _ rfl (Own2.out.grow ((za.refl _).al _)) _ _ ⟨_, _, _, rfl⟩ rfl _ (zb.new _ _ _) uX_ (by have := hgx.size; have := hg2.size; simp; omega) ?_; intro v' w3 hown' hgrow)
     | (go_at_call 138; ((with_reducible refine ihj.mono ?_); rintro e w2 ⟨⟨vk, rfl, hv2⟩, hb2, hg2⟩; obtain ⟨BK, capK, rfl, hik, hnk⟩ := hv2 rfl; have Own2 := hh_ (Own.out.kept hg2 (Own.out.ne hgN)))))
    have Fin := hh_ (Mf (F := fun i m' => zU (zg ts) (kid i) (deep + 1) m') (ts := cs.map L2.xs) hltj Hq.out); have hcs3 : Cs w3 g (cs ++ [⟨BK, q1, capK⟩]) := (((HC.out.gx hg2).snoc (c := ⟨BK, q1, capK⟩) hik hnk).grow ((za.refl _).al _)).gb (Own2.out.grow ((za.refl _).al _)).2.1 hgrow
    have hb3 : zb w3 g 171 #[.slice At ts.length nt, .int .i64 q3] := by
     have h1 := hb2.al (.cells #[.slice BK q1.length capK] 22); have h2 := h1.lt; unfold zb at h1 ⊢; rw [hgrow.block g h2 (fun e => (Own.out.ne hgN).elim (fun h => by have h' := e.trans h; cases h') (fun h => h e.symm))]; exact h1
    have hg3 : GX g w w3 := GX.ownV ((hgx.trans hg2).al _) (Own2.out.grow ((za.refl _).al _)) (Nat.le_refl _) hgrow; have HC3 := hh_ hcs3; have Own3 := hh_ hown'; clear hgrow hb2 hg2 ihj hcs3 hown'; go_wp2; go_roundw
    case rel => exact ⟨j + 1, q3, cs ++ [⟨BK, q1, capK⟩], by omega, by go_num, by simpa using Own3.out, hb3, hg3, by have := hbd.1; omega, by simpa using hbd.2.2, by simp [hcl], HC3.out, (fun c hc => by
     rcases List.mem_append.1 hc with hc | hc
     ·exact HC8.out c hc
     ·simp at hc; subst hc; exact hln trivial), by rw [<- HR.out, Fin.out]; simp⟩
    case measure => exact u1_
   ·have dq : (q2 != 0) = true := by simpa using h2
    have fin : qw (zg ts) k n x xs.l ag.l (zS (fun i m' => zU (zg ts) (kid i) (deep + 1) m') mm 0 (m + 1) []) = ([], q2, q3) := xW_
    obtain ⟨rfl, rfl, rfl⟩ : C = [] /\ ER = q2 /\ M = q3 := by simpa using HT.out.symm.trans fin
    clear fin
    go_wp2_with (go_at_call 138; ((with_reducible refine ihj.mono ?_); rintro e w2 ⟨⟨vk, rfl, hv2⟩, hb2, hg2⟩))
    refine qX_ oR_ rfl ?_; exact ⟨⟨_, rfl, fun h => absurd h h2⟩, hb2, hgx.trans hg2⟩
  ·obtain rfl : j = mm := by omega
   have fin : qw (zg ts) k n x xs.l ag.l (0, m', cs.map L2.xs) = (C, ER, M) := xG_
   obtain ⟨rfl, rfl, rfl⟩ : C = (zH (zg ts) k n x xs.l ag.l (cs.map L2.xs)).1 /\ ER = (zH (zg ts) k n x xs.l ag.l (cs.map L2.xs)).2 /\ M = m' := by
    have : qw (zg ts) k n x xs.l ag.l (0, m', cs.map L2.xs) = ((zH (zg ts) k n x xs.l ag.l (cs.map L2.xs)).1, (zH (zg ts) k n x xs.l ag.l (cs.map L2.xs)).2, m') := by simp [qw]
    simpa using fin.symm.trans this
   clear fin HR HT ih; subst hcl
   have hkk : (k = 1 /\ cs.length = 0) \/ ((k = 2 \/ k = 3 \/ k = 10 \/ k = 11 \/ k = 12 \/ k = 13) /\ cs.length = 1) \/ ((k = 4 \/ k = 5 \/ k = 6 \/ k = 7 \/ k = 8 \/ k = 9) /\ cs.length = 2) := by
    have h := Hn.out; unfold zJ at h
    repeat' split at h
    all_goals omega
   obtain ⟨hEx, hES, hAG, hlens, hnI⟩ : EX w0 x /\ WW w0 xs.A xs.l /\ XZ w0 ag.A ag.l /\ (xs.l.length <= zp /\ ag.l.length <= zp) /\ x7 n := yh_
   have hgN' : g < wr.heap.size := by have := hgx.size; omega
   have Pc := hh_ (Hx.out.grow hgw); rcases hkk with ⟨rfl, hl0⟩ | ⟨hk, hl1⟩ | ⟨hk, hl2⟩
   ·obtain rfl := List.length_eq_zero_iff.1 hl0; clear hEx hES hAG HC HC8 Own HE Hn
    by_cases hn0 : n < 0
    ·have dn : decide (n < 0) = true := decide_eq_true hn0; go_wp2
     go_quiet (fail)
     go_wp2; refine qX_ oR_ rfl ?_; rw [show zH (zg ts) 1 n x xs.l ag.l (([] : List (L2 Int)).map L2.xs) = ([], 7) from by simp [zH, hn0]]; exact ⟨⟨_, rfl, fun h => by simp at h⟩, hbs.out, hgx.drewN _⟩
    ·have dn : decide (n < 0) = false := decide_eq_false hn0; obtain ⟨nn, rfl⟩ : ∃ nn : Nat, n = (nn : Int) := ⟨n.toNat, by omega⟩
     by_cases hn1 : ts.length <= nn
     ·have dn1 : decide ((ts.length : Int) <= (nn : Int)) = true := decide_eq_true uX_; obtain ⟨b0, f0⟩ := hbs.out.rules; go_wp2
      go_quiet (fail)
      go_wp2; refine qX_ oR_ rfl ?_; rw [show zH (zg ts) 1 (nn : Int) x xs.l ag.l (([] : List (L2 Int)).map L2.xs) = ([], 7) from by simp [zH]; omega]; exact ⟨⟨_, rfl, fun h => by simp at h⟩, hbs.out, hgx.drewN _⟩
     ·have dn1 : decide ((ts.length : Int) <= (nn : Int)) = false := decide_eq_false uX_; obtain ⟨t, htk⟩ : ∃ t, ts[nn]? = some t := ⟨_, qQ_ uX_⟩
      obtain ⟨gt, ot, rfl, ct, hit⟩ := Hts.out nn t htk; have ct1 := hgw.cell ct; have hib := hh_ (And.intro (hit.grow hgw) (Wl.old hit hlt)); have k1 : (0 : Int) <= (nn : Int) := by omega
      have k2 : (nn : Int) < (ts.length : Int) := by omega
      have k3 : nn < ts.length := by omega
      have eT := hh_ (show zH (zg ts) 1 (nn : Int) x xs.l ag.l (([] : List (L2 Int)).map L2.xs) = (t.xs, 0) from by
       simp only [zH, if_true]; rw [if_neg uN_]
       simp [zg, htk])
      clear htk ct hit; obtain ⟨b0, f0⟩ := hbs.out.rules; go_wp2
      go_quiet (fail)
      go_wp2
      go_quiet (fail)
      go_wp2; refine qX_ oR_ rfl ?_; rw [eT.out]; exact ⟨⟨_, rfl, fun _ => ⟨t.A, t.cap, rfl, hib.out.1, hib.out.2⟩⟩, hbs.out, (hgx.drewN _).drewN _⟩
   ·obtain ⟨a, rfl⟩ := List.length_eq_one_iff.1 hl1; obtain ⟨g1, cap1, rfl, hc1⟩ := qA.one (a := a) Own.out; have ia := HC.out.i a uY_; have la := HC8.out a uY_; have cq := fun W (h : za wr W) => LA a.xs a.A a.cap x W uX_ (ia.1.grow h) (hEx.grow (hgw.trans h))
    have cty := fun W (h : za wr W) => ZO a.xs a.A a.cap xs.l xs.A xs.c W uX_ vy_ (ia.1.grow h) (hES.grow (hgw.trans h))
    have cg := fun W (h : za wr W) hk => Nj (.mk k n x xs ag A 1 cap kid) gx ox a.xs a.A a.cap W ((Hx.out.grow hgw).grow h) (hES.grow (hgw.trans h)) (hAG.grow (hgw.trans h)) hlens la (ia.1.grow h) hk
    simp only [PL.k, PL.n, PL.xs, PL.ag] at cg; unfold E.val at cq; have Ia := hh_ ia; have C1 := hh_ hc1; clear ia hc1 hES hAG HE Hn hl1 hEx; rcases hk with rfl | rfl | rfl | rfl | rfl | rfl
    ·clear cty cg; go_wp2; apply wp_region_calm 11 uQ_ uQ_
     case h' =>
      intro Q0 hQ0; simp only [List.take_succ_cons, List.take_zero]
      repeat ((first | ((first | apply calm_p rfl | apply zu rfl rfl rfl); case h1 => (intro w1 hw1 hF K hK; have e1 := hw1.cell C1.out; obtain ⟨c0, c1, c2, c3, c4, c5, c6, c7, c8, c9, c10⟩ := Pc.out.grow hw1; simp only [PL.k, PL.n, PL.x, PL.xs, PL.ag, PL.A, PL.m, PL.cap] at c0 c1 c2 c3 c4 c5 c6 c7 c8 c9 c10; go_simp; first | exact hK _ (za.refl _) | (go_at_call 161; ((with_reducible refine (cq _ hw1).mono ?_); rintro e w' ⟨rfl, hg⟩; exact ⟨_, rfl, hK _ hg⟩)))) | apply zw rfl rfl rfl rfl); intro K hK; go_simp; apply hK; clear hK K)
      refine calm_nil ?_; intro w1 hw1 hF; apply hQ0; clear hQ0; simp only [List.drop_succ_cons, List.drop_zero]; clear hF; go_wp2; refine qX_ oR_ rfl ?_; rw [show zH (zg ts) 2 n x xs.l ag.l ([a].map L2.xs) = (a.xs, yG a.xs x) from by simp [zH]]; exact ⟨⟨_, rfl, fun _ => ⟨a.A, a.cap, rfl, Ia.out.1.grow hw1, Ia.out.2⟩⟩, hbs.out.grow hw1, hgx.grow hw1⟩
     case hp' => trivial
    ·clear cq cg; go_wp2; apply wp_region_calm 10 uQ_ uQ_
     case h' =>
      intro Q0 hQ0; simp only [List.take_succ_cons, List.take_zero]
      repeat ((first | ((first | apply calm_p rfl | apply zu rfl rfl rfl); case h1 => (intro w1 hw1 hF K hK; have e1 := hw1.cell C1.out; obtain ⟨c0, c1, c2, c3, c4, c5, c6, c7, c8, c9, c10⟩ := Pc.out.grow hw1; simp only [PL.k, PL.n, PL.x, PL.xs, PL.ag, PL.A, PL.m, PL.cap] at c0 c1 c2 c3 c4 c5 c6 c7 c8 c9 c10; go_simp; first | exact hK _ (za.refl _))) | apply zw rfl rfl rfl rfl); intro K hK; go_simp; apply hK; clear hK K)
      apply calm_fp (PT wr (zB a.xs xs.l)) rfl
      case h1 =>
       intro w1 hw1 hF K hK; have e1 := hw1.cell C1.out; obtain ⟨c0, c1, c2, c3, c4, c5, c6, c7, c8, c9, c10⟩ := Pc.out.grow hw1; simp only [PL.k, PL.n, PL.x, PL.xs, PL.ag, PL.A, PL.m, PL.cap] at c0 c1 c2 c3 c4 c5 c6 c7 c8 c9 c10; go_simp
       go_at_call 21
       refine (cty w1 hw1).mono ?_; rintro en w' ⟨B, cap, rfl, hi, _, hn, hg'⟩; exact ⟨_, rfl, hK _ _ hg' ⟨B, cap, rfl, hi, hn.of hw1⟩⟩
      intro v130 K hK; go_simp; apply hK; clear hK K; apply calm_fp (PS wr (zB a.xs xs.l).1) rfl
      case h1 => exact wo_
      intro v131 K hK; go_simp; apply hK; clear hK K; apply calm_p rfl
      case h1 => exact wp_
      intro K hK; go_simp; apply hK; clear hK K; refine calm_nil ?_; intro w1 hw1 hF; apply hQ0; clear hQ0; simp only [List.drop_succ_cons, List.drop_zero]; obtain ⟨B, cap, hv, hi, hn⟩ := hF _ (List.mem_cons_self ..); subst hv; have Hi := hh_ (And.intro hi (Wl.new (g := g) (l := (zB a.xs xs.l).1) hn hgN')); clear hF hi hn; go_wp2; refine qX_ oR_ rfl ?_; rw [show zH (zg ts) 3 n x xs.l ag.l ([a].map L2.xs) = (zB a.xs xs.l) from by simp [zH]]; exact ⟨⟨_, rfl, fun _ => ⟨B, cap, rfl, Hi.out.1, Hi.out.2⟩⟩, hbs.out.grow hw1, hgx.grow hw1⟩
     case hp' => exact yj_
    ·clear cq cg cty; have e1 := C1.out; go_wp2; refine qX_ oR_ rfl ?_; rw [show zH (zg ts) 10 n x xs.l ag.l ([a].map L2.xs) = (a.xs, 0) from by simp [zH]]; exact ⟨⟨_, rfl, fun _ => ⟨a.A, a.cap, rfl, Ia.out.1, Ia.out.2⟩⟩, hbs.out, hgx⟩
    ·clear cq cg cty; have e1 := C1.out; go_wp2; refine qX_ oR_ rfl ?_; rw [show zH (zg ts) 11 n x xs.l ag.l ([a].map L2.xs) = (a.xs, 0) from by simp [zH]]; exact ⟨⟨_, rfl, fun _ => ⟨a.A, a.cap, rfl, Ia.out.1, Ia.out.2⟩⟩, hbs.out, hgx⟩
    ·clear cq cty; have e1 := C1.out
     go_wp2_with (go_at_call 163; ((with_reducible refine (cg _ (za.refl _) uW_).mono ?_); rintro en w2 ⟨B, cap, rfl, hi, hn, hg2⟩))
     refine qX_ oR_ rfl ?_; rw [show zH (zg ts) 12 n x xs.l ag.l ([a].map L2.xs) = y8 12 n xs.l ag.l a.xs from by simp [zH]]; refine ⟨⟨_, rfl, fun _ => ⟨B, cap, rfl, hi, ?_⟩⟩, hbs.out.grow hg2, hgx.grow hg2⟩; rcases hn with hn | ⟨rfl, e9⟩
     ·exact Wl.new hn hgN'
     ·rw [e9]; exact Ia.out.2
    ·clear cq cty; have e1 := C1.out
     go_wp2_with (go_at_call 163; ((with_reducible refine (cg _ (za.refl _) uW_).mono ?_); rintro en w2 ⟨B, cap, rfl, hi, hn, hg2⟩))
     refine qX_ oR_ rfl ?_; rw [show zH (zg ts) 13 n x xs.l ag.l ([a].map L2.xs) = y8 13 n xs.l ag.l a.xs from by simp [zH]]; refine ⟨⟨_, rfl, fun _ => ⟨B, cap, rfl, hi, ?_⟩⟩, hbs.out.grow hg2, hgx.grow hg2⟩; rcases hn with hn | ⟨rfl, e9⟩
     ·exact Wl.new hn hgN'
     ·rw [e9]; exact Ia.out.2
   ·obtain ⟨a, b, rfl⟩ := Nt hl2; obtain ⟨g1, cap1, rfl, hc1, hc2⟩ := qA.two (a := a) (b := b) Own.out; have ia := HC.out.i a uY_; have ib := HC.out.i b uY_; have la := HC8.out a uY_; have lb := HC8.out b uY_; have ctg := fun W (h : za wr W) => Lh a.xs b.xs a.A b.A a.cap b.cap W uX_ uX_ (ia.1.grow h) (ib.1.grow h)
    obtain ⟨LR, hLR⟩ : ∃ LR, a.xs ++ b.xs = LR := ⟨_, rfl⟩
    have cc := fun (gq : Nat) W (h1 : zb W gq 22 #[.slice a.A a.xs.length a.cap, .slice b.A b.xs.length b.cap]) (h : za wr W) => Yg a b gq _ W h1 (ia.1.grow h) (ib.1.grow h) uX_
    have hl16 : LR.length <= 16 := by rw [<- hLR]; simp; omega
    rw [hLR] at cc; have cq := fun (B : Option Addr) (c9 : Nat) W (h : za wr W) (hi : yU W B LR) => LA LR B c9 x W uX_ hi (hEx.grow (hgw.trans h))
    unfold E.val at cq; have Ia := hh_ ia; have Ib := hh_ ib; have C1 := hh_ hc1; have C2 := hh_ hc2; have HLR := hh_ hLR; clear ia ib hc1 hc2 hES hAG HE Hn hl2 hEx hLR; have hk' : (k = 8 \/ k = 9) \/ (k = 4 \/ k = 5 \/ k = 6 \/ k = 7) := by omega
    clear hk; rcases hk' with hk | hk
    ·clear cq cc; rcases hk with rfl | rfl
     ·go_wp2; apply wp_region_calm 9 uQ_ uQ_
      case h' =>
       intro Q0 hQ0; simp only [List.take_succ_cons, List.take_zero]
       repeat ((first | ((first | apply calm_p rfl | apply zu rfl rfl rfl); case h1 => (intro w1 hw1 hF K hK; have e1 := hw1.cell C1.out; have e2 := hw1.cell C2.out; obtain ⟨c0, c1, c2, c3, c4, c5, c6, c7, c8, c9, c10⟩ := Pc.out.grow hw1; simp only [PL.k, PL.n, PL.x, PL.xs, PL.ag, PL.A, PL.m, PL.cap] at c0 c1 c2 c3 c4 c5 c6 c7 c8 c9 c10; go_simp; first | exact hK _ (za.refl _))) | apply zw rfl rfl rfl rfl); intro K hK; go_simp; apply hK; clear hK K)
       apply calm_fp (PT wr (xK a.xs b.xs)) rfl
       case h1 => exact wk_
       intro v130 K hK; go_simp; apply hK; clear hK K; apply calm_fp (PS wr (xK a.xs b.xs).1) rfl
       case h1 => exact wo_
       intro v131 K hK; go_simp; apply hK; clear hK K; apply calm_p rfl
       case h1 => exact wp_
       intro K hK; go_simp; apply hK; clear hK K; refine calm_nil ?_; intro w1 hw1 hF; apply hQ0; clear hQ0; simp only [List.drop_succ_cons, List.drop_zero]; obtain ⟨B, cap, hv, hi, hn⟩ := hF _ (List.mem_cons_self ..); subst hv; have Hi := hh_ (And.intro hi (Wl.new (g := g) (l := (xK a.xs b.xs).1) hn hgN')); clear hF hi hn; go_wp2; refine qX_ oR_ rfl ?_; rw [show zH (zg ts) 8 n x xs.l ag.l ([a, b].map L2.xs) = (xK a.xs b.xs) from by simp [zH]]; exact ⟨⟨_, rfl, fun _ => ⟨B, cap, rfl, Hi.out.1, Hi.out.2⟩⟩, hbs.out.grow hw1, hgx.grow hw1⟩
      case hp' => exact yj_
     ·go_wp2; apply wp_region_calm 9 uQ_ uQ_
      case h' =>
       intro Q0 hQ0; simp only [List.take_succ_cons, List.take_zero]
       repeat ((first | ((first | apply calm_p rfl | apply zu rfl rfl rfl); case h1 => (intro w1 hw1 hF K hK; have e1 := hw1.cell C1.out; have e2 := hw1.cell C2.out; obtain ⟨c0, c1, c2, c3, c4, c5, c6, c7, c8, c9, c10⟩ := Pc.out.grow hw1; simp only [PL.k, PL.n, PL.x, PL.xs, PL.ag, PL.A, PL.m, PL.cap] at c0 c1 c2 c3 c4 c5 c6 c7 c8 c9 c10; go_simp; first | exact hK _ (za.refl _))) | apply zw rfl rfl rfl rfl); intro K hK; go_simp; apply hK; clear hK K)
       apply calm_fp (PT wr (xK a.xs b.xs)) rfl
       case h1 => exact wk_
       intro v130 K hK; go_simp; apply hK; clear hK K; apply calm_fp (PS wr (xK a.xs b.xs).1) rfl
       case h1 => exact wo_
       intro v131 K hK; go_simp; apply hK; clear hK K; apply calm_p rfl
       case h1 => exact wp_
       intro K hK; go_simp; apply hK; clear hK K; refine calm_nil ?_; intro w1 hw1 hF; apply hQ0; clear hQ0; simp only [List.drop_succ_cons, List.drop_zero]; obtain ⟨B, cap, hv, hi, hn⟩ := hF _ (List.mem_cons_self ..); subst hv; have Hi := hh_ (And.intro hi (Wl.new (g := g) (l := (xK a.xs b.xs).1) hn hgN')); clear hF hi hn; go_wp2; refine qX_ oR_ rfl ?_; rw [show zH (zg ts) 9 n x xs.l ag.l ([a, b].map L2.xs) = (xK a.xs b.xs) from by simp [zH]]; exact ⟨⟨_, rfl, fun _ => ⟨B, cap, rfl, Hi.out.1, Hi.out.2⟩⟩, hbs.out.grow hw1, hgx.grow hw1⟩
      case hp' => exact yj_
    ·clear ctg; rcases hk with rfl | rfl | rfl | rfl
     ·go_wp2; apply wp_region_calm 8 uQ_ uQ_
      case h' =>
       intro Q0 hQ0; simp only [List.take_succ_cons, List.take_zero]
       repeat ((first | ((first | apply calm_p rfl | apply zu rfl rfl rfl); case h1 => (intro w1 hw1 hF K hK; have e1 := hw1.cell C1.out; have e2 := hw1.cell C2.out; go_simp; first | exact hK _ (za.refl _))) | apply zw rfl rfl rfl rfl); intro K hK; go_simp; apply hK; clear hK K)
       apply calm_fp (P2 a b) rfl
       case h1 => exact wl_
       intro v167 K hK; go_simp; apply hK; clear hK K; apply calm_fp (PS wr LR) rfl
       case h1 => exact u6_
       intro v168 K hK; go_simp; apply hK; clear hK K; refine calm_nil ?_; intro w1 hw1 hF; apply hQ0; clear hQ0; simp only [List.drop_succ_cons, List.drop_zero]; obtain ⟨B, capB, hv, hi, hn⟩ := hF _ (List.mem_cons_self ..); subst hv; have Hi := hh_ (And.intro hi (Wl.new (g := g) (l := LR) hn hgN')); clear hF hi hn; have Pc1 := hh_ (Pc.out.grow hw1); obtain ⟨c0, c1, c2, c3, c4, c5, c6, c7, c8, c9, c10⟩ := Pc1.out; simp only [PL.k, PL.n, PL.x, PL.xs, PL.ag, PL.A, PL.m, PL.cap] at c0 c1 c2 c3 c4 c5 c6 c7 c8 c9 c10
       by_cases h8 : 8 < LR.length
       ·have d8 : decide ((8 : Int) < (LR.length : Int)) = true := decide_eq_true uX_; go_wp2; refine qX_ oR_ rfl ?_; rw [show zH (zg ts) 4 n x xs.l ag.l ([a, b].map L2.xs) = ([], 5) from by simp only [List.map_cons, List.map_nil, zH, List.getD_cons_zero, List.getD_cons_succ, HLR.out, h8]; simp]; exact ⟨⟨_, rfl, fun h => by simp at h⟩, hbs.out.grow hw1, hgx.grow hw1⟩
       ·have d8 : decide ((8 : Int) < (LR.length : Int)) = false := decide_eq_false uX_
        go_wp2_with (go_at_call 161; ((with_reducible refine (cq B capB _ hw1 Hi.out.1).mono ?_); rintro en w2 ⟨rfl, hg2⟩))
        refine qX_ oR_ rfl ?_; rw [show zH (zg ts) 4 n x xs.l ag.l ([a, b].map L2.xs) = (LR, yG LR x) from by simp only [List.map_cons, List.map_nil, zH, List.getD_cons_zero, List.getD_cons_succ, HLR.out, h8]; simp]; exact ⟨⟨_, rfl, fun _ => ⟨B, capB, rfl, Hi.out.1.grow hg2, Hi.out.2⟩⟩, hbs.out.grow (hw1.trans hg2), hgx.grow (hw1.trans hg2)⟩
      case hp' => exact xC_
     ·go_wp2; apply wp_region_calm 8 uQ_ uQ_
      case h' =>
       intro Q0 hQ0; simp only [List.take_succ_cons, List.take_zero]
       repeat ((first | ((first | apply calm_p rfl | apply zu rfl rfl rfl); case h1 => (intro w1 hw1 hF K hK; have e1 := hw1.cell C1.out; have e2 := hw1.cell C2.out; go_simp; first | exact hK _ (za.refl _))) | apply zw rfl rfl rfl rfl); intro K hK; go_simp; apply hK; clear hK K)
       apply calm_fp (P2 a b) rfl
       case h1 => exact wl_
       intro v167 K hK; go_simp; apply hK; clear hK K; apply calm_fp (PS wr LR) rfl
       case h1 => exact u6_
       intro v168 K hK; go_simp; apply hK; clear hK K; refine calm_nil ?_; intro w1 hw1 hF; apply hQ0; clear hQ0; simp only [List.drop_succ_cons, List.drop_zero]; obtain ⟨B, capB, hv, hi, hn⟩ := hF _ (List.mem_cons_self ..); subst hv; have Hi := hh_ (And.intro hi (Wl.new (g := g) (l := LR) hn hgN')); clear hF hi hn; have Pc1 := hh_ (Pc.out.grow hw1); obtain ⟨c0, c1, c2, c3, c4, c5, c6, c7, c8, c9, c10⟩ := Pc1.out; simp only [PL.k, PL.n, PL.x, PL.xs, PL.ag, PL.A, PL.m, PL.cap] at c0 c1 c2 c3 c4 c5 c6 c7 c8 c9 c10
       by_cases h8 : 8 < LR.length
       ·have d8 : decide ((8 : Int) < (LR.length : Int)) = true := decide_eq_true uX_; go_wp2; refine qX_ oR_ rfl ?_; rw [show zH (zg ts) 5 n x xs.l ag.l ([a, b].map L2.xs) = ([], 5) from by simp only [List.map_cons, List.map_nil, zH, List.getD_cons_zero, List.getD_cons_succ, HLR.out, h8]; simp]; exact ⟨⟨_, rfl, fun h => by simp at h⟩, hbs.out.grow hw1, hgx.grow hw1⟩
       ·have d8 : decide ((8 : Int) < (LR.length : Int)) = false := decide_eq_false uX_; have hA := hw1; go_wp2; apply wp_region_calm 9 uQ_ uQ_
        case h' =>
         intro Q0 hQ0; simp only [List.take_succ_cons, List.take_zero]
         repeat ((first | ((first | apply calm_p rfl | apply zu rfl rfl rfl); case h1 => (intro w1 hw1 hF K hK; have e1 := (hA.trans hw1).cell C1.out; obtain ⟨c0, c1, c2, c3, c4, c5, c6, c7, c8, c9, c10⟩ := Pc1.out.grow hw1; simp only [PL.k, PL.n, PL.x, PL.xs, PL.ag, PL.A, PL.m, PL.cap] at c0 c1 c2 c3 c4 c5 c6 c7 c8 c9 c10; go_simp; first | exact hK _ (za.refl _) | (go_at_call 161; ((with_reducible refine (cq B capB _ (hA.trans hw1) (Hi.out.1.grow hw1)).mono ?_); rintro e w' ⟨rfl, hg⟩; exact ⟨_, rfl, hK _ hg⟩)))) | apply zw rfl rfl rfl rfl); intro K hK; go_simp; apply hK; clear hK K)
         refine calm_nil ?_; intro w2 hw2 hF; apply hQ0; clear hQ0; simp only [List.drop_succ_cons, List.drop_zero]; clear hF; go_wp2; refine qX_ oR_ rfl ?_; rw [show zH (zg ts) 5 n x xs.l ag.l ([a, b].map L2.xs) = (a.xs, yG LR x) from by simp only [List.map_cons, List.map_nil, zH, List.getD_cons_zero, List.getD_cons_succ, HLR.out, h8]; simp]; exact ⟨⟨_, rfl, fun _ => ⟨a.A, a.cap, rfl, Ia.out.1.grow (hw1.trans hw2), Ia.out.2⟩⟩, hbs.out.grow (hw1.trans hw2), hgx.grow (hw1.trans hw2)⟩
        case hp' => trivial
      case hp' => exact xC_
     ·go_wp2; apply wp_region_calm 8 uQ_ uQ_
      case h' =>
       intro Q0 hQ0; simp only [List.take_succ_cons, List.take_zero]
       repeat ((first | ((first | apply calm_p rfl | apply zu rfl rfl rfl); case h1 => (intro w1 hw1 hF K hK; have e1 := hw1.cell C1.out; have e2 := hw1.cell C2.out; go_simp; first | exact hK _ (za.refl _))) | apply zw rfl rfl rfl rfl); intro K hK; go_simp; apply hK; clear hK K)
       apply calm_fp (P2 a b) rfl
       case h1 => exact wl_
       intro v167 K hK; go_simp; apply hK; clear hK K; apply calm_fp (PS wr LR) rfl
       case h1 => exact u6_
       intro v168 K hK; go_simp; apply hK; clear hK K; refine calm_nil ?_; intro w1 hw1 hF; apply hQ0; clear hQ0; simp only [List.drop_succ_cons, List.drop_zero]; obtain ⟨B, capB, hv, hi, hn⟩ := hF _ (List.mem_cons_self ..); subst hv; have Hi := hh_ (And.intro hi (Wl.new (g := g) (l := LR) hn hgN')); clear hF hi hn; have Pc1 := hh_ (Pc.out.grow hw1); obtain ⟨c0, c1, c2, c3, c4, c5, c6, c7, c8, c9, c10⟩ := Pc1.out; simp only [PL.k, PL.n, PL.x, PL.xs, PL.ag, PL.A, PL.m, PL.cap] at c0 c1 c2 c3 c4 c5 c6 c7 c8 c9 c10
       by_cases h8 : 8 < LR.length
       ·have d8 : decide ((8 : Int) < (LR.length : Int)) = true := decide_eq_true uX_; go_wp2; refine qX_ oR_ rfl ?_; rw [show zH (zg ts) 6 n x xs.l ag.l ([a, b].map L2.xs) = ([], 5) from by simp only [List.map_cons, List.map_nil, zH, List.getD_cons_zero, List.getD_cons_succ, HLR.out, h8]; simp]; exact ⟨⟨_, rfl, fun h => by simp at h⟩, hbs.out.grow hw1, hgx.grow hw1⟩
       ·have d8 : decide ((8 : Int) < (LR.length : Int)) = false := decide_eq_false uX_; have hA := hw1; go_wp2; apply wp_region_calm 9 uQ_ uQ_
        case h' =>
         intro Q0 hQ0; simp only [List.take_succ_cons, List.take_zero]
         repeat ((first | ((first | apply calm_p rfl | apply zu rfl rfl rfl); case h1 => (intro w1 hw1 hF K hK; have e1 := (hA.trans hw1).cell C1.out; obtain ⟨c0, c1, c2, c3, c4, c5, c6, c7, c8, c9, c10⟩ := Pc1.out.grow hw1; simp only [PL.k, PL.n, PL.x, PL.xs, PL.ag, PL.A, PL.m, PL.cap] at c0 c1 c2 c3 c4 c5 c6 c7 c8 c9 c10; go_simp; first | exact hK _ (za.refl _) | (go_at_call 161; ((with_reducible refine (cq B capB _ (hA.trans hw1) (Hi.out.1.grow hw1)).mono ?_); rintro e w' ⟨rfl, hg⟩; exact ⟨_, rfl, hK _ hg⟩)))) | apply zw rfl rfl rfl rfl); intro K hK; go_simp; apply hK; clear hK K)
         refine calm_nil ?_; intro w2 hw2 hF; apply hQ0; clear hQ0; simp only [List.drop_succ_cons, List.drop_zero]; clear hF; go_wp2; refine qX_ oR_ rfl ?_; rw [show zH (zg ts) 6 n x xs.l ag.l ([a, b].map L2.xs) = (a.xs, yG LR x) from by simp only [List.map_cons, List.map_nil, zH, List.getD_cons_zero, List.getD_cons_succ, HLR.out, h8]; simp]; exact ⟨⟨_, rfl, fun _ => ⟨a.A, a.cap, rfl, Ia.out.1.grow (hw1.trans hw2), Ia.out.2⟩⟩, hbs.out.grow (hw1.trans hw2), hgx.grow (hw1.trans hw2)⟩
        case hp' => trivial
      case hp' => exact xC_
     ·go_wp2; apply wp_region_calm 8 uQ_ uQ_
      case h' =>
       intro Q0 hQ0; simp only [List.take_succ_cons, List.take_zero]
       repeat ((first | ((first | apply calm_p rfl | apply zu rfl rfl rfl); case h1 => (intro w1 hw1 hF K hK; have e1 := hw1.cell C1.out; have e2 := hw1.cell C2.out; go_simp; first | exact hK _ (za.refl _))) | apply zw rfl rfl rfl rfl); intro K hK; go_simp; apply hK; clear hK K)
       apply calm_fp (P2 a b) rfl
       case h1 => exact wl_
       intro v167 K hK; go_simp; apply hK; clear hK K; apply calm_fp (PS wr LR) rfl
       case h1 => exact u6_
       intro v168 K hK; go_simp; apply hK; clear hK K; refine calm_nil ?_; intro w1 hw1 hF; apply hQ0; clear hQ0; simp only [List.drop_succ_cons, List.drop_zero]; obtain ⟨B, capB, hv, hi, hn⟩ := hF _ (List.mem_cons_self ..); subst hv; have Hi := hh_ (And.intro hi (Wl.new (g := g) (l := LR) hn hgN')); clear hF hi hn; have Pc1 := hh_ (Pc.out.grow hw1); obtain ⟨c0, c1, c2, c3, c4, c5, c6, c7, c8, c9, c10⟩ := Pc1.out; simp only [PL.k, PL.n, PL.x, PL.xs, PL.ag, PL.A, PL.m, PL.cap] at c0 c1 c2 c3 c4 c5 c6 c7 c8 c9 c10
       by_cases h8 : 8 < LR.length
       ·have d8 : decide ((8 : Int) < (LR.length : Int)) = true := decide_eq_true uX_; go_wp2; refine qX_ oR_ rfl ?_; rw [show zH (zg ts) 7 n x xs.l ag.l ([a, b].map L2.xs) = ([], 5) from by simp only [List.map_cons, List.map_nil, zH, List.getD_cons_zero, List.getD_cons_succ, HLR.out, h8]; simp]; exact ⟨⟨_, rfl, fun h => by simp at h⟩, hbs.out.grow hw1, hgx.grow hw1⟩
       ·have d8 : decide ((8 : Int) < (LR.length : Int)) = false := decide_eq_false uX_
        go_wp2_with (go_at_call 161; ((with_reducible refine (cq B capB _ hw1 Hi.out.1).mono ?_); rintro en w2 ⟨rfl, hg2⟩))
        refine qX_ oR_ rfl ?_; rw [show zH (zg ts) 7 n x xs.l ag.l ([a, b].map L2.xs) = (LR, yG LR x) from by simp only [List.map_cons, List.map_nil, zH, List.getD_cons_zero, List.getD_cons_succ, HLR.out, h8]; simp]; exact ⟨⟨_, rfl, fun _ => ⟨B, capB, rfl, Hi.out.1.grow hg2, Hi.out.2⟩⟩, hbs.out.grow (hw1.trans hg2), hgx.grow (hw1.trans hg2)⟩
      case hp' => exact xC_
theorem Nv (ts : List (L2 Int)) (At : Option Addr) (nt : Nat) (ht8 : ∀ t ∈ zg ts, t.length <= 8) (hnt : ts.length <= 8) (p : PL) : zbV ts At nt p := by
 induction p with
 | leaf =>
  intro gx ox g deep m w0 w hE hx hts hg0 hlt hb h0 h1 hd0 hd1
  have hne : gx ≠ g := wV_
  unfold zU
  by_cases hm : 60 < m + 1 \/ 15 < deep
  ·rw [if_pos hm]; exact Pr ts At nt gx ox g deep m w hb h0 h1 hm
  ·rw [if_neg hm]; exact Pq ts At nt .leaf gx ox g deep m w hb hne (hx.grow hg0) (Nat.zero_le _) h0 uN_ uN_ (.inl uW_)
 | mk k n x xs ag A mm cap kid ih =>
  intro gx ox g deep m w0 w hE hx hts hg0 hlt hb h0 h1 hd0 hd1
  have hne : gx ≠ g := wV_
  have hm9 : mm <= zp := by cases hE with | mk hm => exact hm
  by_cases hm : 60 < m + 1 \/ 15 < deep
  ·unfold zU; rw [if_pos hm]; exact Pr ts At nt gx ox g deep m w hb h0 h1 hm
  ·have d1 : decide (60 < m + 1) = false := by simp; omega
   have d2 : decide (15 < deep) = false := by simp; omega
   by_cases hf : zJ k < 0 \/ ¬ zJ k < 0 /\ (mm : Int) ≠ zJ k
   ·have e : zU (zg ts) (.mk k n x xs ag A mm cap kid) deep m = ([], if zJ k < 0 then 1 else 5, m + 1) := by
     unfold zU; rw [if_neg hm]; rcases hf with hf | ⟨hf, hf2⟩
     ·exact yN_
     ·exact x4_
    rw [e]; exact Pq ts At nt (.mk k n x xs ag A mm cap kid) gx ox g deep m w hb hne (hx.grow hg0) hm9 h0 d1 d2 hf
   ·have hk0 : ¬ zJ k < 0 := fun h => hf (.inl h)
    have hnk : (mm : Int) = zJ k := Classical.byContradiction fun h => hf (.inr ⟨hk0, h⟩)
    rw [xW (zg ts) k n x xs ag A mm cap kid deep m hm uX_ hnk]; obtain ⟨C, ER, M, hT⟩ : ∃ C ER M, qw (zg ts) k n x xs.l ag.l (zS (fun i m' => zU (zg ts) (kid i) (deep + 1) m') mm 0 (m + 1) []) = (C, ER, M) := ⟨_, _, _, rfl⟩
    rw [hT]; exact C8 ts At nt ht8 hnt k n x xs ag A mm cap kid ih gx ox g deep m w0 w hE hx hts hg0 hlt hb h0 d1 d2 hd0 uX_ hnk C ER M hT
def Yz : List (List Int) -> Int
 | [] => 0
 | t :: l => if 8 < t.length then 5 else if t.all xR = false then 1 else Yz l
def zn (ts : List (List Int)) (p : PL) : List Int × Int :=
 if 8 < ts.length then ([], 5)
 else if Yz ts ≠ 0 then ([], Yz ts)
 else if (zU ts p 1 0).2.1 ≠ 0 then ([], (zU ts p 1 0).2.1)
 else ((zU ts p 1 0).1, 0)
theorem Zc : ∀ {ts : List (List Int)}, Yz ts = 0 -> ∀ t ∈ ts, t.length <= 8 /\ t.all xR = true
 | [], _, t, ht => by simp at ht
 | u :: l, h, t, ht => by
  unfold Yz at h; split at h
  ·simp at h
  ·rename_i h1; split at h
   ·simp at h
   ·rename_i h2; rcases List.mem_cons.1 ht with rfl | ht
    ·exact ⟨by omega, by simpa using h2⟩
    ·exact Zc h t ht
theorem Ue {ts : List (List Int)} {k : Nat} {t : List Int} (h : ts[k]? = some t) : Yz (ts.drop k) = if 8 < t.length then 5 else if t.all xR = false then 1 else Yz (ts.drop (k + 1)) := wb_
theorem R2 (xs : List Int) (A : Option Addr) (c : Nat) (w : World) (hl : xs.length <= 10000) (hv : yU w A xs) :
  Calls Tryz.prog 139 #[.slice A xs.length c] w fun en w' => ∃ (B : Option Addr) (cap : Nat), en = .returned (.slice B xs.length cap) /\ w'.ownsRow w.heap.size 3 1 (.slice B xs.length cap) xs.length (yH xs) /\ za w w' := by
 have HV := hh_ hv; clear hv; have eqn := fun W (B : Option Addr) n c => Lib.run_eql_slice_nil W 22 3 B n c 0 0 Tryz.underlying22
 go_enter Tryz.func139, Tryz.ntmps139; cases A with
 | none =>
  have e := zaI HV.out; subst e; go_wp2; go_ret; exact ⟨none, 0, rfl, World.ownsRow_nil _ _ _ _, za.refl _⟩
 | some ad =>
  have hsrc := hh_ (XQ (c := c) (HV.out.grow ((za.refl w).al (.cells #[] 3)))); have hown : (w.alloc (.cells #[] 3)).ownsRow w.heap.size 3 1 (.slice (some ⟨w.heap.size, 0, none⟩) 0 0) 0 (yH []) := ⟨rfl, .inr ⟨w.heap.size, 0, #[], rfl, Nat.le_refl _, heap_alloc_new w _, Nat.le_refl _, by unfold maxLen; omega, rfl, rfl⟩⟩
  have Own := hh_ hown; clear hown
  go_wp2_with (at_builtin; refine zm rfl _ _ rfl w.heap.size _ _ _ rfl Own.out _ xs rfl hsrc.out uX_ uY_ ?_; intro v7 w7 own7 gr7; obtain ⟨g7, cap7, rfl⟩ : ∃ (B : Option Addr) (cap7 : Nat), v7 = .slice B (0 + xs.length) cap7 := (by rcases own7.2 with ⟨e, h0⟩ | ⟨g', cap', cur', e, _⟩; exact ⟨none, 0, by rw [h0]; exact e⟩; exact ⟨_, _, e⟩))
  have G7 : za w w7 := za.own ((za.refl w).al _) gr7 (fun i hi => by
   rcases Nat.lt_or_ge i w.heap.size with h | h
   ·exact absurd hi.symm (jh Own.out h)
   ·exact h)
  have Own7 := hh_ own7; clear own7 gr7; go_ret; exact ⟨g7, cap7, by simp, by simpa using Own7.out, G7⟩
theorem Y8 (ts : List (L2 Int)) (At : Option Addr) (nt : Nat) (p : PL) (w : World) (hlt : ts.length <= zp) (hl : ∀ t ∈ ts, t.xs.length <= zp) (hts : WO w At ts) (hp : PX w p) :
  Calls Tryz.prog 90 #[.slice At ts.length nt, p.val] w fun en w' => X0 w w' en (zn (zg ts) p) := by
 have Hts := hh_ hts; have HP := hh_ hp; have HL := hh_ hl; have hlt' : ts.length <= 140737488355328 := hlt; have tl : (zg ts).length = ts.length := by simp
 obtain ⟨R, hR⟩ : ∃ R, zn (zg ts) p = R := ⟨_, rfl⟩
 rw [hR]; have fin : R = if 8 < ts.length then ([], 5) else if Yz (zg ts) ≠ 0 then ([], Yz (zg ts)) else if (zU (zg ts) p 1 0).2.1 ≠ 0 then ([], (zU (zg ts) p 1 0).2.1) else ((zU (zg ts) p 1 0).1, 0) := by rw [<- hR]; unfold zn; rw [tl]
 have Fin := hh_ fin; clear hts hp hR hl hlt fin tl; unfold PL.val; go_enter Tryz.func90, Tryz.ntmps90
 by_cases h8 : 8 < ts.length
 ·have d8 : decide ((8 : Int) < (ts.length : Int)) = true := decide_eq_true uX_; have e : R = ([], 5) := by rw [Fin.out, if_pos h8]
  subst e; go_wp2; refine qX_ o2_ rfl ?_; exact X0.bad ze
 ·have d8 : decide ((8 : Int) < (ts.length : Int)) = false := decide_eq_false uX_; have e := Fin.out; rw [if_neg h8] at e; have Fin2 := hh_ e; clear e Fin; go_wp2; refine zc (fun W => zb W w.heap.size 39 #[.int .i64 p.k, .int .i64 p.n, .int .i64 p.x.kind, .int .i64 p.x.v.k, .int .i64 p.x.v.n, .string p.x.v.s, .int .i64 p.x.col, .slice p.x.A p.x.n p.x.cap, .slice p.xs.A p.xs.l.length p.xs.c, .slice p.ag.A p.ag.l.length p.ag.c, .slice p.A p.m p.cap] /\ za w W) ⟨zb.new _ _ _, ze⟩ ?_; rintro W ⟨Bp, G⟩; have BP := hh_ Bp; clear Bp
  go_loopw [17] (fun i wr => ∃ k : Nat, k <= ts.length /\ i = .int .i64 k /\ Yz (zg ts) = Yz ((zg ts).drop k) /\ wr = W) (fun i _ => ts.length - (intOf i).toNat)
  case atStart => exact wS_
  case round =>
   obtain ⟨k, hk, rfl, htE, rfl⟩ := hrel; rename World => W
   have TE := hh_ htE; clear htE
   by_cases hltk : k < ts.length
   ·obtain ⟨t, htk⟩ : ∃ t, ts[k]? = some t := ⟨_, qQ_ hltk⟩
    obtain ⟨gt, ot, rfl, ct, hit⟩ := (Hts.out.grow G) k t htk; have hat := Ue (ts := zg ts) (k := k) (t := t.xs) (by simp [htk]); have htl : t.xs.length <= 140737488355328 := HL.out t (qZ_ htk); have At := hh_ (TE.out.trans hat); have WZ := hh_ hit; clear htk hat hit TE
    by_cases ht8 : 8 < t.xs.length
    ·have dt : decide ((8 : Int) < (t.xs.length : Int)) = true := decide_eq_true uX_; have e : R = ([], 5) := by rw [Fin2.out, At.out, if_pos ht8]; simp
     subst e; go_wp2; refine qX_ o2_ rfl ?_; exact X0.bad G
    ·have dt : decide ((8 : Int) < (t.xs.length : Int)) = false := decide_eq_false uX_; go_wp2
     go_loopw [26] (fun i wr => ∃ j : Nat, j <= t.xs.length /\ i = .int .i64 j /\ (t.xs.take j).all xR = true /\ wr = W) (fun i _ => t.xs.length - (intOf i).toNat)
     case atStart => exact wS_
     case round =>
      obtain ⟨j, hj, rfl, hall, rfl⟩ := hrel; rename World => W
      have Hall := hh_ hall; clear hall
      by_cases hltj : j < t.xs.length
      ·obtain ⟨y, hyj⟩ : ∃ y, t.xs[j]? = some y := ⟨_, qQ_ hltj⟩
       obtain ⟨gy, oy, eA, cy⟩ := WZ.out j y hyj; have Hyj := hh_ hyj; obtain ⟨tA, txs, tc⟩ := t; simp only at *; subst eA; clear hyj; cases hr : xR y
       ·have e : R = ([], 1) := by rw [Fin2.out, At.out, if_neg ht8, if_pos (jr xR txs j y Hyj.out hr)]; simp
        subst e; rcases W2 hr with d2 | ⟨d2, d3⟩
        ·go_wp2; refine qX_ o2_ rfl ?_; exact X0.bad G
        ·go_wp2; refine qX_ o2_ rfl ?_; exact X0.bad G
       ·exact yX_
      ·exact yV_
   ·obtain rfl : k = ts.length := by omega
    have e0 : Yz (zg ts) = 0 := by rw [TE.out, List.drop_eq_nil_of_le uY_]; rfl
    have h8' := fun t ht => (Zc e0 t ht).1
    have e := Fin2.out; rw [e0, if_neg uY_] at e; obtain ⟨q1, q2, q3, hq⟩ : ∃ q1 q2 q3, zU (zg ts) p 1 0 = (q1, q2, q3) := ⟨_, _, _, rfl⟩
    have hln := Yf h8' p 1 0; have B := BP.out; have pc : yt W w.heap.size 0 p := ⟨B.cells rfl, B.cells rfl, B.cells rfl, B.cells rfl, B.cells rfl, B.cells rfl, B.cells rfl, B.cells rfl, B.cells rfl, B.cells rfl, B.cells rfl⟩
    have ct := fun W' (h1 : za W W') hb => Nv ts At nt h8' uX_ p w.heap.size 0 W.heap.size 1 0 W W' (HP.out.grow G) pc (Hts.out.grow G) h1 (Nat.le_refl _) hb uX_ uX_ uX_ uX_
    rw [hq] at ct e hln; simp only at ct e hln; have Gs := G.size; have CT := hh_ ct; clear ct hq e0 h8' B pc TE Fin2
    by_cases h2 : q2 = 0
    ·subst h2; have e : R = (q1, 0) := by rw [e]; simp
     subst e
     go_wp2_with (first
      | (go_at_call 138; ((refine (CT.out _ ((za.refl _).al _) (zb.new _ _ _)).mono ?_); rintro en w2 ⟨⟨v2, rfl, hv2⟩, hb2, hg2⟩; obtain ⟨B2, cap2, rfl, hi2, hn2⟩ := hv2 rfl; have I2 := hh_ hi2; clear hi2 hn2 hb2; have G2 := GX.base (G.al _) Gs hg2))
      | (go_at_call 139; ((with_reducible refine (R2 q1 B2 cap2 _ (by have := hln trivial; omega) I2.out).mono ?_); rintro en w3 ⟨B3, cap3, rfl, ho3, hg3⟩; have O3 := hh_ ho3; clear ho3)))
     refine qX_ o2_ rfl ?_; exact ⟨B3, cap3, rfl, qI O3.out rfl, Ya.of G2 (x8 O3.out), G2.trans hg3⟩
    ·have dq : (q2 != 0) = true := by simpa using h2
     have e : R = ([], q2) := by rw [e, if_pos h2]
     subst e
     go_wp2_with (go_at_call 138; ((refine (CT.out _ ((za.refl _).al _) (zb.new _ _ _)).mono ?_); rintro en w2 ⟨⟨v2, rfl, hv2⟩, hb2, hg2⟩; have G2 := GX.base (G.al _) Gs hg2))
     refine qX_ o2_ rfl ?_; exact X0.bad G2
end Go.Proofs.YtflggnopgnoeiaaGreat
namespace Go.Proofs.YtflggnopgnoeiaaGreat
open Go.ChangeShapes Go.WideShapes Go.ChangeAt Go.RowKit Go.Calm
set_option maxRecDepth 100000
instance : Inhabited (L2 Int) := ⟨⟨none, [], 0⟩⟩
section
variable {H : Type} {enc : TypeId × Value -> H} {w : World} {base : Nat} {spare : Nat -> Bool} {held : Bool}
theorem Tc {fuel : Nat} {cs : List Value} {x : DataW H × List MemPlace} (h : DataW.trod enc Tryz.prog w base spare held fuel 31 cs = some x) (hw : Wt 31 x.1) :
  ∃ (A : Option Addr) (ts : List (L2 Int)) (cap : Nat), cs = [.slice A ts.length cap] /\ WO w A ts /\ ts.length <= zp /\ ∀ t ∈ ts, t.xs.length <= zp := by
 obtain ⟨A, len, cap, n', D, hn', hcs, hl, _, hi⟩ := Qw (c := 1) Tryz.underlying31 uQ_ uX_ uQ_ h hw
 obtain ⟨ts, hts, hs⟩ := Qm (α := L2 Int) (P := fun i s => (yU w s.A s.xs /\ s.xs.length <= zp) /\ ∃ g o, A = some ⟨g, o, none⟩ /\ w.cell? ⟨g, o + i, none⟩ = some (.slice s.A s.xs.length s.cap)) len (fun i hlt => by
  obtain ⟨_, g, o, ys, hA, hyl, hat, hd, hwd⟩ := hi i hlt; obtain ⟨B, xs, c, hx, hz, hxl, _, _⟩ := JR hd; subst hx; have hb := Zb Tryz.underlying22 uQ_ hd hwd; refine ⟨⟨B, xs, c⟩, ⟨hz, hb⟩, g, o, hA, ?_⟩; have := hat 0 _ rfl
  simpa using this)
 refine ⟨A, ts, cap, by rw [hcs, hts], fun i s h => ?_, by rw [hts]; exact hl, fun s h => ?_⟩
 ·obtain ⟨hin, g, o, e, c⟩ := hs i s h; exact ⟨g, o, e, c, hin.1⟩
 ·obtain ⟨i, h1, h2⟩ := List.mem_iff_getElem.1 h; exact (hs i s ve_).1.2
theorem By {ts : List TypeId} {ds : List (DataW H)} (hsz : (DataW.weightsEach Tryz.prog ts ds).all (· <= reachBytes) = true) {r : Reach} {b0 : Nat} {v : Value} {d : DataW H} {p : List MemPlace} (j : Nat) (ht : ts[j]? = some 31) (hd : ds[j]? = some d) (hv : Value.okWide Tryz.prog w r b0 31 v) (h : DataW.Trod enc Tryz.prog w base spare held 31 v d p) :
  ∃ (A : Option Addr) (ts : List (L2 Int)) (cap : Nat), v = .slice A ts.length cap /\ WO w A ts /\ ts.length <= zp /\ ∀ t ∈ ts, t.xs.length <= zp := by
 obtain ⟨a, len, cap, rfl⟩ := okWide_slice Tryz.underlying31 hv; obtain ⟨fuel, hf⟩ := h
 have hw : Wt 31 d := fun n hn => yb_
 obtain ⟨A, ss, c, hcs, h1⟩ := Tc hf hw; simp [Value.cells] at hcs; obtain ⟨rfl, rfl, rfl⟩ := hcs; exact ⟨_, ss, _, rfl, h1⟩
end
