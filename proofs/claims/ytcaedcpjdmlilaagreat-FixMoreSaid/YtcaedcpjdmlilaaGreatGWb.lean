/-
 Joined texts of this claim: Rw1, Rw2, Rw3, Rw4, Rw5, Rw6. What each proves its own head says; no condition beside those that each theorem names.
-/
import Derived.Test.YtcaedcpjdmlilaaGreatGWa
import Derived.Test.YtcaedcpjdmlilaaGreatGQ
import Derived.BigRegion
set_option maxRecDepth 100000
set_option maxHeartbeats 4000000
namespace Go.Proofs.YtcaedcpjdmlilaaGreat
open Go.RowKit Go.Calm
set_option linter.unusedSimpArgs false
set_option linter.unusedVariables false
def nE : E -> E
 | .leaf => .leaf
 | .mk k v c _ n _ kid => .mk k v c none n 0 (fun i => if i < n then nE (kid i) else .leaf)
def nA (a : Ag) : Ag := ⟨a.k, nE a.x⟩
def yY (k n : Int) (x : E) (xs : List E) (ag : List Ag) (m : Nat) (kid : Nat -> PL) : PL := .mk k n x ⟨none, xs, 0⟩ ⟨none, ag, 0⟩ none m 0 (fun i => if i < m then kid i else .leaf)
def nP : PL -> PL
 | .leaf => .leaf
 | .mk k n x xs ag _ m _ kid => yY k n (nE x) (xs.l.map nE) (ag.l.map nA) m (fun i => nP (kid i))
theorem JZ (k : Int) (v : V) (c : Int) (A : Option Addr) (n cap : Nat) (kid : Nat -> E) : nE (.mk k v c A n cap kid) = .mk k v c none n 0 (fun i => if i < n then nE (kid i) else .leaf) := rfl
theorem Fw (e : E) : (nE e).kind = e.kind := by cases e <;> rfl
theorem zci (e : E) : (nE e).v = e.v := by cases e <;> rfl
theorem zcj (p : PL) : (nP p).k = p.k := by cases p <;> rfl
theorem Zf {f g : Nat -> Int -> Int × Int × Int} : ∀ (r i : Nat) (m : Int) (ts : List Int), (∀ j m, i <= j -> j < i + r -> f j m = g j m) -> zZ f r i m ts = zZ g r i m ts
 | 0, i, m, ts, _ => rfl
 | r + 1, i, m, ts, h => by
  unfold zZ; rw [h i m (Nat.le_refl _) (by omega)]; split
  ·exact Zf r (i + 1) _ _ (fun j m h1 h2 => h j m (by omega) (by omega))
  ·rfl
theorem Qr {α : Type} {f g : Nat -> Int -> α × Int × Int} : ∀ (r i : Nat) (m : Int) (ts : List α), (∀ j m, i <= j -> j < i + r -> f j m = g j m) -> zE f r i m ts = zE g r i m ts
 | 0, i, m, ts, _ => rfl
 | r + 1, i, m, ts, h => by
  unfold zE; rw [h i m (Nat.le_refl _) (by omega)]; split
  ·exact Qr r (i + 1) _ _ (fun j m h1 h2 => h j m (by omega) (by omega))
  ·rfl
theorem GH (cols : List Int) (e : E) : ∀ deep m, yU cols (nE e) deep m = yU cols e deep m := by
 induction e with
 | leaf => intro deep m; rfl
 | mk k v c A n cap kid ih =>
  intro deep m; rw [JZ]; unfold yU
  rw [Zf (f := fun i m' => yU cols (if i < n then nE (kid i) else .leaf) (deep + 1) m') (g := fun i m' => yU cols (kid i) (deep + 1) m') n 0 (m + 1) [] (fun j m h1 h2 => by
   rw [if_pos (by omega)]
   exact ih j _ _)]
theorem Yr (cols : List Int) (e : E) : zr cols (nE e) = zr cols e := by unfold zr; rw [GH]
theorem Z5 (cols : List Int) (e : E) : zD cols (nE e) = zD cols e := by unfold zD; rw [Yr]
theorem YZ (cols : List Int) (xs : List E) : zy cols (xs.map nE) = zy cols xs := by
 have h : ∀ l : List E, yW cols (l.map nE) = yW cols l := fun l => by
  induction l with
  | nil => rfl
  | cons x l ih => simp only [List.map_cons, yW, Yr, ih]
 unfold zy; rw [List.length_map, h]
theorem Et (cols : List Int) (a : Ag) : XU cols (nA a) = XU cols a := by unfold XU nA; simp only [Yr]
theorem Mq (cols : List Int) : ∀ l : List Ag, jT cols (l.map nA) = jT cols l
 | [] => rfl
 | a :: l => by
  have h : Jq cols (nA a) = Jq cols a := by unfold Jq nA; simp only [Yr]
  simp only [List.map_cons, jT, h, Mq cols l]
theorem zao (ts : List (List Int)) (k n : Int) (x : E) (xs : List E) (ag : List Ag) (cs : List (List Int)) : zT ts k n (nE x) (xs.map nE) (ag.map nA) cs = zT ts k n x xs ag cs := by
 have e : (ag.map nA).map (XU (cs.getD 0 [])) = ag.map (XU (cs.getD 0 [])) := by
  rw [List.map_map]; exact List.map_congr_left (fun a _ => Et _ a)
 unfold zT xi; rw [Z5, Z5, YZ, Mq, e, List.length_map, List.length_map]
theorem EN (ts : List (List Int)) (p : PL) : ∀ deep m, zN ts (nP p) deep m = zN ts p deep m := by
 induction p with
 | leaf => intro deep m; rfl
 | mk k n x xs ag A mm cap kid ih =>
  intro deep m; unfold nP yY; unfold zN
  rw [Qr (f := fun i m' => zN ts (if i < mm then nP (kid i) else .leaf) (deep + 1) m') (g := fun i m' => zN ts (kid i) (deep + 1) m') mm 0 (m + 1) [] (fun j m h1 h2 => by
   rw [if_pos (by omega)]
   exact ih j _ _)]
  simp only [zao]
theorem jX (ts : List (List Int)) (p : PL) : zi ts (nP p) = zi ts p := by unfold zi; rw [EN]
def yO (x y : E) : E := .mk 4 ⟨0, 0, es⟩ 0 none 2 0 (fun i => if i = 0 then x else if i = 1 then y else .leaf)
def qB (x : E) : Bool := decide (x.kind = 1) && decide (x.v.k = 2) && decide (x.v.n = 1)
def zK (f : Int -> Bool) : E -> Bool
 | .leaf => true
 | .mk k _ c _ n _ kid => (if k = 2 then f c else true) && (List.range n).all (fun i => zK f (kid i))
def qO (by' : Int) : E -> E
 | .leaf => .leaf
 | .mk k v c _ n _ kid => .mk k v (if k = 2 then c + by' else c) none n 0 (fun i => if i < n then qO by' (kid i) else .leaf)
def xG (x : E) (p : PL) : PL := yY 2 0 x [] [] 1 (fun _ => p)
def zn (ts : List (List Int)) : PL -> E -> PL
 | .leaf, x => if qB x then .leaf else xG x .leaf
 | .mk k n y xs ag A m cap kid, x =>
  if qB x then .mk k n y xs ag A m cap kid
  else if k = 2 then (if (zr (zi ts (kid 0)).1 (yO y x)).2 = 0 then xG (yO y x) (kid 0) else xG x (.mk k n y xs ag A m cap kid))
  else if k = 8 \/ k = 9 then yY k 0 .leaf [] [] 2 (fun i => if i = 0 then zn ts (kid 0) x else zn ts (kid 1) x)
  else if k = 10 \/ k = 11 then yY k 0 .leaf [] [] 1 (fun _ => zn ts (kid 0) x)
  else if k = 5 \/ k = 6 then yY k n y xs.l ag.l 2 (fun i => if i = 0 then zn ts (kid 0) x else kid 1)
  else if k = 4 then
   if zK (fun c => decide (c < ((zi ts (kid 0)).1.length : Int))) x then yY k n y xs.l ag.l 2 (fun i => if i = 0 then zn ts (kid 0) x else kid 1)
   else if zK (fun c => decide (((zi ts (kid 0)).1.length : Int) <= c)) x then yY k n y xs.l ag.l 2 (fun i => if i = 0 then kid 0 else zn ts (kid 1) (qO (-((zi ts (kid 0)).1.length : Int)) x))
   else if (zr (zi ts (.mk k n y xs ag A m cap kid)).1 (yO y x)).2 = 0 then yY k n (yO y x) xs.l ag.l m kid
   else xG x (.mk k n y xs ag A m cap kid)
  else xG x (.mk k n y xs ag A m cap kid)
def zx (ts : List (List Int)) : PL -> PL
 | .leaf => .leaf
 | .mk k n y xs ag _ m _ kid =>
  if k = 2 then zn ts (zx ts (kid 0)) y
  else if k = 10 \/ k = 11 then
   if (zx ts (kid 0)).k = 11 \/ (zx ts (kid 0)).k = k then zx ts (kid 0)
   else if (zx ts (kid 0)).k = 10 then yY k 0 .leaf [] [] 1 (fun _ => (zx ts (kid 0)).kid 0)
   else yY k n y xs.l ag.l m (fun i => zx ts (kid i))
  else yY k n y xs.l ag.l m (fun i => zx ts (kid i))
abbrev pC (p : PL) : Array Value := #[.int .i64 p.k, .int .i64 p.n, .int .i64 p.x.kind, .int .i64 p.x.v.k, .int .i64 p.x.v.n, .string p.x.v.s, .int .i64 p.x.col, .slice p.x.A p.x.n p.x.cap, .slice p.xs.A p.xs.l.length p.xs.c, .slice p.ag.A p.ag.l.length p.ag.c, .slice p.A p.m p.cap]
abbrev pC2 (p q : PL) : Array Value := #[.int .i64 p.k, .int .i64 p.n, .int .i64 p.x.kind, .int .i64 p.x.v.k, .int .i64 p.x.v.n, .string p.x.v.s, .int .i64 p.x.col, .slice p.x.A p.x.n p.x.cap, .slice p.xs.A p.xs.l.length p.xs.c, .slice p.ag.A p.ag.l.length p.ag.c, .slice p.A p.m p.cap,
 .int .i64 q.k, .int .i64 q.n, .int .i64 q.x.kind, .int .i64 q.x.v.k, .int .i64 q.x.v.n, .string q.x.v.s, .int .i64 q.x.col, .slice q.x.A q.x.n q.x.cap, .slice q.xs.A q.xs.l.length q.xs.c, .slice q.ag.A q.ag.l.length q.ag.c, .slice q.A q.m q.cap]
theorem za6 {w : World} {g : Nat} {t : TypeId} {p : PL} (h : zb w g t (pC p)) : zX w g 0 p := ⟨h.cells rfl, h.cells rfl, h.cells rfl, h.cells rfl, h.cells rfl, h.cells rfl, h.cells rfl, h.cells rfl, h.cells rfl, h.cells rfl, h.cells rfl⟩
theorem Dc {w : World} {g : Nat} {t : TypeId} {p q : PL} (h : zb w g t (pC2 p q)) : zX w g 0 p /\ zX w g 11 q := ⟨⟨h.cells rfl, h.cells rfl, h.cells rfl, h.cells rfl, h.cells rfl, h.cells rfl, h.cells rfl, h.cells rfl, h.cells rfl, h.cells rfl, h.cells rfl⟩, ⟨h.cells rfl, h.cells rfl, h.cells rfl, h.cells rfl, h.cells rfl, h.cells rfl, h.cells rfl, h.cells rfl, h.cells rfl, h.cells rfl, h.cells rfl⟩⟩
structure NX (w : World) (k n : Int) (x : E) (xs : jj) (ag : jh) : Prop where
 hx : EX w x
 hs : KG w xs.A xs.l
 ha : Y6 w ag.A ag.l
 hl : xs.l.length <= zz /\ ag.l.length <= zz
 hi : xj k /\ xj n
abbrev ZG : jj := ⟨none, [], 0⟩
abbrev Y8 : jh := ⟨none, [], 0⟩
theorem Tz {w : World} {k : Int} (hk : xj k) : NX w k 0 .leaf ZG Y8 := ⟨.leaf, fun i x h => by simp at h, fun i x h => by simp at h, by decide, hk, by decide, by decide⟩
theorem PX.nx {w : World} {k n : Int} {x : E} {xs : jj} {ag : jh} {A : Option Addr} {m cap : Nat} {kid : Nat -> PL} (h : PX w (.mk k n x xs ag A m cap kid)) : NX w k n x xs ag := by
 cases h with
 | mk hm hc hk hx hs ha hl hi => exact ⟨hx, hs, ha, hl, hi⟩
def KW (k n : Int) (x : E) (xs : jj) (ag : jh) (g cap : Nat) (p : PL) : PL := .mk k n x xs ag (some ⟨g, 0, none⟩) 1 cap (fun _ => p)
def qh (k n : Int) (x : E) (xs : jj) (ag : jh) (g cap : Nat) (p q : PL) : PL := .mk k n x xs ag (some ⟨g, 0, none⟩) 2 cap (fun i => if i = 0 then p else q)
theorem Nb {w : World} {k n : Int} {x : E} {xs : jj} {ag : jh} {g : Nat} {t : TypeId} {p : PL} (cap : Nat) (h : zb w g t (pC p)) (hn : NX w k n x xs ag) (hp : PX w p) : PX w (KW k n x xs ag g cap p) :=
 .mk (by decide) (fun i hi => ⟨g, 0, rfl, by (obtain rfl : i = 0 := by omega); simpa using za6 h⟩) (fun i hi => hp) hn.hx hn.hs hn.ha hn.hl hn.hi
theorem Dq {w : World} {k n : Int} {x : E} {xs : jj} {ag : jh} {g : Nat} {t : TypeId} {p q : PL} (cap : Nat) (h : zb w g t (pC2 p q)) (hn : NX w k n x xs ag) (hp : PX w p) (hq : PX w q) : PX w (qh k n x xs ag g cap p q) :=
 .mk (by decide) (fun i hi => by
  match i, hi with
  | 0, _ => exact ⟨g, 0, rfl, by simpa using (Dc h).1⟩
  | 1, _ => exact ⟨g, 0, rfl, by simpa using (Dc h).2⟩) (fun i hi => by
  match i, hi with
  | 0, _ => exact hp
  | 1, _ => exact hq) hn.hx hn.hs hn.ha hn.hl hn.hi
theorem Su (k n : Int) (x : E) (xs : jj) (ag : jh) (g cap : Nat) (p : PL) : nP (KW k n x xs ag g cap p) = yY k n (nE x) (xs.l.map nE) (ag.l.map nA) 1 (fun _ => nP p) := rfl
theorem kW {k n : Int} {x : E} {xs : List E} {ag : List Ag} {m : Nat} {f g : Nat -> PL} (h : ∀ i, i < m -> f i = g i) : yY k n x xs ag m f = yY k n x xs ag m g := by
 unfold yY; congr 1; funext i
 by_cases hi : i < m
 ·simp only [if_pos hi]; exact h i hi
 ·simp only [if_neg hi]
theorem Q4 (k n : Int) (x : E) (xs : jj) (ag : jh) (g cap : Nat) (p q : PL) : nP (qh k n x xs ag g cap p q) = yY k n (nE x) (xs.l.map nE) (ag.l.map nA) 2 (fun i => if i = 0 then nP p else nP q) :=
 kW (fun i _ => by by_cases h : i = 0 <;> simp [h])
theorem Pd (x : E) (p : PL) (w : World) (hx : EX w x) (hp : PX w p) :
  Calls Tryz.prog 130 #[x.val, p.val] w fun en w' => ∃ g : Nat, en = .returned (KW 2 0 x ZG Y8 g 1 p).val /\ w.heap.size <= g /\ zb w' g 31 (pC p) /\ za w w' := by
 have HX := Lib.hid hx; have HP := Lib.hid hp; clear hx hp; unfold E.val PL.val; go_enter Tryz.func130, Tryz.ntmps130; go_wp2; refine bodyPost_ret (by simp [results, Tryz.results130, go_sem] <;> rfl) rfl ?_; exact ⟨w.heap.size + 1 + 1 + 1, rfl, by omega, zb.new' _ _ _ (by simp), (by with_reducible repeat (first | exact za.refl _ | assumption | refine za.set ?_ (by simp <;> omega) _ | refine za.al ?_ _ | refine za.drew ?_ | refine za.drewN ?_ _ | refine za.trans ?_ (by assumption)))⟩
theorem Yd (k : Int) (A : Option Addr) (m cap : Nat) (kid : Nat -> PL) (w : World) :
  Calls Tryz.prog 91 #[.int .i64 k, .slice A m cap] w fun en w' => en = .returned (PL.mk k 0 .leaf ZG Y8 A m cap kid).val /\ za w w' := by
 go_enter Tryz.func91, Tryz.ntmps91; go_wp2; refine bodyPost_ret (by simp [results, Tryz.results91, go_sem] <;> rfl) rfl ?_; exact ⟨rfl, (by with_reducible repeat (first | exact za.refl _ | assumption | refine za.set ?_ (by simp <;> omega) _ | refine za.al ?_ _ | refine za.drew ?_ | refine za.drewN ?_ _ | refine za.trans ?_ (by assumption)))⟩
theorem zb.other {w : World} {g q : Nat} {t : TypeId} {cs : Array Value} (h : zb w g t cs) (hne : q ≠ g) (j : Nat) (v : Value) : zb (w.setCell ⟨q, j, none⟩ v) g t cs := by
 unfold zb at h ⊢; rw [Below.heap_setCell w ⟨q, j, none⟩ v g (Ne.symm hne)]; exact h
structure WrS (w : World) (gw : Nat) (ts : List (L2 Int)) (At : Option Addr) (nt : Nat) : Prop where
 c : w.cell? ⟨gw, 0, none⟩ = some (.slice At ts.length nt)
 t : Nr w At ts
 l : ts.length <= zz
 b : ∀ t ∈ ts, t.xs.length <= zz
theorem WrS.grow {w w' : World} (hg : za w w') {gw : Nat} {ts : List (L2 Int)} {At : Option Addr} {nt : Nat} (h : WrS w gw ts At nt) : WrS w' gw ts At nt := ⟨hg.cell h.c, h.t.grow hg, h.l, h.b⟩
theorem Wn (ts : List (L2 Int)) (At : Option Addr) (nt gw : Nat) (p : PL) (w : World) (hw : WrS w gw ts At nt) (hp : PX w p) :
  Calls Tryz.prog 129 #[.pointer (some ⟨gw, 0, none⟩), p.val] w fun en w' => ∃ (B : Option Addr) (cap : Nat), en = .returned (.slice B (zi (zh ts) p).1.length cap) /\ xe w' B (zi (zh ts) p).1 /\ za w w' := by
 have ct := fun W (h : za w W) => jR ts At nt p W hw.l hw.b (hw.t.grow h) (hp.grow h)
 have c0 := hw.c; unfold PL.val at ct ⊢; clear hw hp; go_enter Tryz.func129, Tryz.ntmps129; go_upto_region 1 with fail
 refine zc (fun X => zb X w.heap.size 31 (pC p) /\ za w X) ⟨zb.new _ _ _, (by with_reducible repeat (first | exact za.refl _ | assumption | refine za.set ?_ (by simp <;> omega) _ | refine za.al ?_ _ | refine za.drew ?_ | refine za.drewN ?_ _ | refine za.trans ?_ (by assumption)))⟩ ?_; rintro X ⟨BX, G⟩; have c1 := G.cell c0; obtain ⟨R, hR⟩ : ∃ R, zi (zh ts) p = R := ⟨_, rfl⟩
 rw [hR] at ct; have HR := Lib.hid hR; apply wp_region_calm 11 (by kernel_rfl) (by kernel_rfl)
 case h' =>
  intro Q0 hQ0; simp only [List.take_succ_cons, List.take_zero]
  repeat ((first | ((first | apply calm_p rfl | apply zg rfl rfl rfl); case h1 => (intro w1 hw1 hF K hK; have c2 := hw1.cell c1; obtain ⟨bx, fx⟩ := (BX.grow hw1).rules; go_simp; first | exact hK _ (za.refl _))) | apply ze rfl rfl rfl rfl); intro K hK; go_simp; apply hK; clear hK K)
  apply calm_fp (PT X R) rfl
  case h1 =>
   intro w1 hw1 hF K hK; have c2 := hw1.cell c1; obtain ⟨bx, fx⟩ := (BX.grow hw1).rules; go_simp
   go_at_call 11
   refine (ct w1 (G.trans hw1)).mono ?_; rintro en w' ⟨B, cap, rfl, hi, hn, hg'⟩; exact ⟨_, rfl, hK _ _ hg' ⟨B, cap, rfl, hi, hn.of hw1⟩⟩
  intro v13 K hK; go_simp; apply hK; clear hK K; apply calm_fp (PT X R) rfl
  case h1 =>
   intro w1 hw1 hF K hK; obtain ⟨B, cap, hv, hi, hn⟩ := hF _ (List.mem_cons_self ..) ⟨_, rfl, by decide⟩; subst hv; go_simp; exact hK _ _ (za.refl _) ⟨B, cap, rfl, hi, hn⟩
  intro v7 K hK; go_simp; apply hK; clear hK K; apply calm_fp (PS X R.1) rfl
  case h1 =>
   intro w1 hw1 hF K hK; obtain ⟨B, cap, hv, hi, hn⟩ := hF _ (List.mem_cons_self ..) ⟨_, rfl, by decide⟩; subst hv; go_simp; exact hK _ _ (za.refl _) ⟨B, cap, rfl, hi, hn⟩
  intro v14 K hK; go_simp; apply hK; clear hK K; apply calm_p rfl
  case h1 =>
   intro w1 hw1 hF K hK; obtain ⟨B, cap, hv, hi, hn⟩ := hF _ (List.mem_cons_of_mem _ (List.mem_cons_self ..)) ⟨_, rfl, by decide⟩; subst hv; go_simp; exact hK _ (za.refl _)
  intro K hK; go_simp; apply hK; clear hK K; apply calm_fp (PS X R.1) rfl
  case h1 =>
   intro w1 hw1 hF K hK; obtain ⟨B, cap, hv, hi, hn⟩ := hF _ (List.mem_cons_self ..) ⟨_, rfl, by decide⟩; subst hv; go_simp; exact hK _ _ (za.refl _) ⟨B, cap, rfl, hi, hn⟩
  intro v5 K hK; go_simp; apply hK; clear hK K
  repeat ((first | ((first | apply calm_p rfl | apply zg rfl rfl rfl); case h1 => (intro w1 hw1 hF K hK; skip; go_simp; first | exact hK _ (za.refl _))) | apply ze rfl rfl rfl rfl); intro K hK; go_simp; apply hK; clear hK K)
  refine calm_nil ?_; intro w1 hw1 hF; apply hQ0; clear hQ0; simp only [List.drop_succ_cons, List.drop_zero]; obtain ⟨B, cap, hv, hi, hn⟩ := hF _ (List.mem_cons_self ..); subst hv; have Hi := Lib.hid hi; clear hF hi hn; go_wp2; refine bodyPost_ret (by simp [results, Tryz.results129, go_sem] <;> rfl) rfl ?_; rw [HR.out]; exact ⟨B, cap, rfl, Hi.out, G.trans hw1⟩
 case hp' => exact ⟨PT.pers _ _, PT.pers _ _, PS.pers _ _, PS.pers _ _, trivial⟩
theorem MR (k : Int) (x y : E) (A : Option Addr) : nE (Za k x y A) = .mk k zV 0 none 2 0 (fun i => if i = 0 then nE x else if i = 1 then nE y else .leaf) := by
 unfold Za; rw [JZ]; congr 1; funext i
 match i with
 | 0 => rfl
 | 1 => rfl
 | i + 2 => rw [if_neg (by omega)]; rfl
theorem Lc (cols : List Int) (Ac : Option Addr) (cc : Nat) (x y : E) (w : World) (hlen : cols.length <= 9223372036854775807) (hc : xe w Ac cols) (hx : EX w x) (hy : EX w y) :
  Calls Tryz.prog 128 #[.slice Ac cols.length cc, x.val, y.val] w fun en w' => ∃ g : Nat, en = .returned (.tuple #[(Za 4 x y (some ⟨g, 0, none⟩)).val, .bool (decide ((zr cols (yO (nE x) (nE y))).2 = 0))]) /\ w.heap.size <= g /\ zb w' g 27 #[.int .i64 x.kind, .int .i64 x.v.k, .int .i64 x.v.n, .string x.v.s, .int .i64 x.col, .slice x.A x.n x.cap, .int .i64 y.kind, .int .i64 y.v.k, .int .i64 y.v.n, .string y.v.s, .int .i64 y.col, .slice y.A y.n y.cap] /\ za w w' := by
 have HX := Lib.hid hx; have HY := Lib.hid hy; have HC := Lib.hid hc; clear hx hy hc; unfold E.val; have ez : ∀ A, zr cols (Za 4 x y A) = zr cols (yO (nE x) (nE y)) := fun A => by rw [<- Yr cols (Za 4 x y A), MR]; rfl
 obtain ⟨T, e, hT⟩ : ∃ T e, zr cols (yO (nE x) (nE y)) = (T, e) := ⟨_, _, rfl⟩
 rw [hT]; have ct := fun (g : Nat) W (hg : za w W) (hb : zb W g 27 #[.int .i64 x.kind, .int .i64 x.v.k, .int .i64 x.v.n, .string x.v.s, .int .i64 x.col, .slice x.A x.n x.cap, .int .i64 y.kind, .int .i64 y.v.k, .int .i64 y.v.n, .string y.v.s, .int .i64 y.col, .slice y.A y.n y.cap]) => Yt cols Ac cc (Za 4 x y (some ⟨g, 0, none⟩)) W hlen (HC.out.grow hg) (R2 x y hb (HX.out.grow hg) (HY.out.grow hg) ⟨by decide, by decide⟩)
 simp only [ez, hT] at ct; have ez2 : ∀ A, (Za 4 x y A).val = .agg #[.int .i64 4, .int .i64 0, .int .i64 0, .string es, .int .i64 0, .slice A 2 2] := fun A => rfl
 simp only [ez2] at ct; have CT := Lib.hid ct; clear ct ez hT; go_enter Tryz.func128, Tryz.ntmps128; go_upto_region 2 with fail
 refine zc (fun X => zb X (w.heap.size + 1 + 1 + 1) 27 #[.int .i64 x.kind, .int .i64 x.v.k, .int .i64 x.v.n, .string x.v.s, .int .i64 x.col, .slice x.A x.n x.cap, .int .i64 y.kind, .int .i64 y.v.k, .int .i64 y.v.n, .string y.v.s, .int .i64 y.col, .slice y.A y.n y.cap] /\
  zb X (w.heap.size + 1 + 1 + 1 + 1) 27 #[.int .i64 4, .int .i64 0, .int .i64 0, .string ⟨#[]⟩, .int .i64 0, .slice (some ⟨w.heap.size + 1 + 1 + 1, 0, none⟩) 2 2] /\ zb X (w.heap.size + 1 + 1) 27 #[.int .i64 0, .int .i64 0, .int .i64 0, .string ⟨#[]⟩, .int .i64 0, .slice none 0 0] /\ za w X)
  ⟨(zb.new' _ _ _ (by simp)).al _, zb.new' _ _ _ (by simp), ((zb.new' _ _ _ (by simp)).al _).al _, (by with_reducible repeat (first | exact za.refl _ | assumption | refine za.set ?_ (by simp <;> omega) _ | refine za.al ?_ _ | refine za.drew ?_ | refine za.drewN ?_ _ | refine za.trans ?_ (by assumption)))⟩ ?_
 rintro X ⟨Bk, Bz, Br, G⟩; obtain ⟨gr, hgr⟩ : ∃ gr, w.heap.size + 1 + 1 = gr := ⟨_, rfl⟩
 have hge : w.heap.size <= gr := by omega
 rw [hgr] at Bk Bz Br ⊢; have n1 : gr ≠ gr + 1 := by omega
 have n2 : gr ≠ gr + 1 + 1 := by omega
 have n3 : gr + 1 ≠ gr + 1 + 1 := by omega
 obtain ⟨bz, fz⟩ := Bz.rules; have lr := Br.lt; have lz := Bz.lt; go_upto_region 3 with (go_at_call 103; ((with_reducible refine (CT.out _ X G Bk).mono ?_); rintro en w2 ⟨rfl, hg2⟩)); have Bk2 := Bk.grow hg2; have Bz2 := Bz.grow hg2; have Br2 := Br.grow hg2; obtain ⟨bz2, fz2⟩ := Bz2.rules; obtain ⟨br2, fr2⟩ := Br2.rules; have lr2 := Br2.lt; clear bz fz; go_wp2; have B3 := (((((Br2.set 0 (.int .i64 4)).set 1 (.int .i64 0)).set 2 (.int .i64 0)).set 3 (.string ⟨#[]⟩)).set 4 (.int .i64 0)).set 5 (.slice (some ⟨gr + 1, 0, none⟩) 2 2); have G3 : za w ((((((w2.setCell ⟨gr, 0, none⟩ (.int .i64 4)).setCell ⟨gr, 1, none⟩ (.int .i64 0)).setCell ⟨gr, 2, none⟩ (.int .i64 0)).setCell ⟨gr, 3, none⟩ (.string ⟨#[]⟩)).setCell ⟨gr, 4, none⟩ (.int .i64 0)).setCell ⟨gr, 5, none⟩ (.slice (some ⟨gr + 1, 0, none⟩) 2 2)) := za.set (za.set (za.set (za.set (za.set (za.set (G.trans hg2) hge _) hge _) hge _) hge _) hge _) hge _; have K3 := zb.other (zb.other (zb.other (zb.other (zb.other (zb.other Bk2 n1 0 (.int .i64 4)) n1 1 (.int .i64 0)) n1 2 (.int .i64 0)) n1 3 (.string ⟨#[]⟩)) n1 4 (.int .i64 0)) n1 5 (.slice (some ⟨gr + 1, 0, none⟩) 2 2); simp only [List.setIfInBounds_toArray, List.set_cons_zero, List.set_cons_succ] at B3; obtain ⟨b3, f3⟩ := B3.rules; refine bodyPost_ret (v := .tuple #[(Za 4 x y (some ⟨gr + 1, 0, none⟩)).val, .bool (e == 0)]) (by simp [results, Tryz.results128, go_sem, b3, ez2]) rfl ⟨gr + 1, ?_, by omega, K3, G3⟩
 by_cases he : e = 0 <;> simp [he]
structure T7 (w0 w : World) (gl gn gr : Nat) (n : Int) (l r : Bool) : Prop where
 bl : zb w gl 4 #[.bool l]
 br : zb w gr 4 #[.bool r]
 cn : w0.cell? ⟨gn, 0, none⟩ = some (.int .i64 n)
 hl : w0.heap.size <= gl
 hr : w0.heap.size <= gr
 ne : gl ≠ gr
 g : za w0 w
theorem T7.grow {w0 w w' : World} {gl gn gr : Nat} {n : Int} {l r : Bool} (h : T7 w0 w gl gn gr n l r) (hg : za w w') : T7 w0 w' gl gn gr n l r := ⟨h.bl.grow hg, h.br.grow hg, h.cn, h.hl, h.hr, h.ne, h.g.trans hg⟩
theorem zaD (w0 : World) (gl gn gr : Nat) (n k : Int) (l r : Bool) (w : World) (h : T7 w0 w gl gn gr n l r) :
  Calls Tryz.prog 171 #[.int .i64 k, .pointer (some ⟨gl, 0, none⟩), .pointer (some ⟨gn, 0, none⟩), .pointer (some ⟨gr, 0, none⟩)] w fun en w' => en = .returned (.tuple #[]) /\ T7 w0 w' gl gn gr n (l && decide (k < n)) (r && decide (n <= k)) := by
 obtain ⟨bl, br, cn, hl, hr, hne, hg⟩ := h; have c2 := hg.cell cn; have ln : gn < w0.heap.size := za.lt cn; obtain ⟨b1, f1⟩ := bl.rules; obtain ⟨b2, f2⟩ := br.rules; have mixed : Tryz.prog.follows .mixedOrders = true := by kernel_rfl
 have l1 := bl.lt; have l2 := br.lt; have fin : ∀ (x y : Bool), T7 w0 ((w.setCell ⟨gl, 0, none⟩ (.bool x)).setCell ⟨gr, 0, none⟩ (.bool y)) gl gn gr n x y := fun x y => ⟨(zb.other (bl.set 0 (.bool x)) (Ne.symm hne) 0 (.bool y)), (zb.other br hne 0 (.bool x)).set 0 (.bool y), cn, hl, hr, hne, za.set (za.set hg hl _) hr _⟩
 have Fin := Lib.hid fin; clear fin; cases l <;> cases r
 all_goals
  go_enter Tryz.func171, Tryz.ntmps171; go_wp2
  go_big_region
 all_goals
  go_wp2; go_end0; refine ⟨rfl, ?_⟩; simp only [Bool.false_and, Bool.true_and]; exact (Fin.out _ _).grow (za.drew (za.refl _))
def zbw (w0 : World) (gl gn gr : Nat) (n : Int) (e : E) : Prop := ∀ (gx ox : Nat) (l r : Bool) (w : World), EX w0 e -> zv w0 gx ox e -> T7 w0 w gl gn gr n l r ->
 Calls Tryz.prog 170 #[.pointer (some ⟨gx, ox, none⟩), .func (.func 171) #[] #[.pointer (some ⟨gl, 0, none⟩), .pointer (some ⟨gn, 0, none⟩), .pointer (some ⟨gr, 0, none⟩)]] w fun en w' =>
  en = .returned (.tuple #[]) /\ T7 w0 w' gl gn gr n (l && zK (fun c => decide (c < n)) e) (r && zK (fun c => decide (n <= c)) e)
theorem xP (f : Int -> Bool) (k : Int) (v : V) (c : Int) (A : Option Addr) (n cap : Nat) (kid : Nat -> E) : zK f (.mk k v c A n cap kid) = ((if k = 2 then f c else true) && (List.range n).all (fun i => zK f (kid i))) := rfl
theorem qE {f : Nat -> Bool} (n : Nat) : (List.range (n + 1)).all f = ((List.range n).all f && f n) := by
 rw [List.range_succ, List.all_append]; simp
theorem NY (w0 : World) (gl gn gr : Nat) (n : Int) (e : E) : zbw w0 gl gn gr n e := by
 induction e with
 | leaf =>
  intro gx ox l r w hE hx h; obtain ⟨c0, c1, c2, c3, c4, c5⟩ := hx.grow h.g; have hf : ∀ f, zK f .leaf = true := fun f => rfl
  rw [hf, hf, Bool.and_true, Bool.and_true]; simp only [E.kind, E.v, E.col, E.A, E.n, E.cap] at c0 c1 c2 c3 c4 c5; have H := Lib.hid h; clear h; go_enter Tryz.func170, Tryz.ntmps170; go_wp2; refine wp_loop_rounds 1 ?_; rw [rounds_succ]; go_wp2; go_end0; exact ⟨rfl, H.out⟩
 | mk k v c A m cap kid ih =>
  intro gx ox l r w hE hx h; have Hx := Lib.hid hx; have HE := Lib.hid hE; have H := Lib.hid h; have hm : m <= 9223372036854775807 := by cases hE with | mk hm => unfold maxLen at hm; omega
  obtain ⟨c0, c1, c2, c3, c4, c5⟩ := hx.grow h.g; simp only [E.kind, E.v, E.col, E.A, E.n, E.cap] at c0 c1 c2 c3 c4 c5; rw [xP, xP]; clear h hx hE; go_enter Tryz.func170, Tryz.ntmps170
  by_cases hk : k = 2
  ·have dk : (k == 2) = true := by simpa using hk
   obtain ⟨l', hl'⟩ : ∃ l', (l && (if k = 2 then decide (c < n) else true)) = l' := ⟨_, rfl⟩
   obtain ⟨r', hr'⟩ : ∃ r', (r && (if k = 2 then decide (n <= c) else true)) = r' := ⟨_, rfl⟩
   go_upto_region 2 with (go_at_call 171; ((with_reducible refine (zaD w0 gl gn gr n c l r _ H.out).mono ?_); rintro en w4 ⟨rfl, h4⟩)); have H2 := Lib.hid (show T7 w0 w4 gl gn gr n l' r' by rw [<- hl', <- hr', if_pos hk, if_pos hk]; exact h4); have FL := Lib.hid hl'; have FR := Lib.hid hr'; obtain ⟨c0, c1, c2, c3, c4, c5⟩ := Hx.out.grow h4.g; simp only [E.kind, E.v, E.col, E.A, E.n, E.cap] at c0 c1 c2 c3 c4 c5; clear h4 hl' hr' H; go_wp2
   go_loopw [21] (fun i wr => ∃ j : Nat, j <= m /\ i = .int .i64 j /\ T7 w0 wr gl gn gr n (l' && (List.range j).all (fun i => zK (fun c => decide (c < n)) (kid i))) (r' && (List.range j).all (fun i => zK (fun c => decide (n <= c)) (kid i)))) (fun i _ => m - (intOf i).toNat)
   case atStart => exact ⟨0, Nat.zero_le _, rfl, by simpa using H2.out⟩
   case round =>
    obtain ⟨j, hj, rfl, hr⟩ := hrel; obtain ⟨c0, c1, c2, c3, c4, c5⟩ := Hx.out.grow hr.g; simp only [E.kind, E.v, E.col, E.A, E.n, E.cap] at c0 c1 c2 c3 c4 c5; have HR := Lib.hid hr; clear hr
    by_cases hlt : j < m
    ·obtain ⟨gk, ok, hA, hck, hEk⟩ : ∃ gk ok, A = some ⟨gk, ok, none⟩ /\ zv w0 gk (ok + j * 6) (kid j) /\ EX w0 (kid j) := by
      cases HE.out with
      | mk hn' hc hk hv hi =>
       obtain ⟨gk, ok, h1, h2⟩ := hc j hlt; exact ⟨gk, ok, h1, h2, hk j hlt⟩
     subst hA; have ihj := ih j gk (ok + j * 6) _ _ wr hEk hck HR.out; rw [Bool.and_assoc, Bool.and_assoc, <- qE, <- qE] at ihj; clear hck hEk
     go_wp2_with (go_at_call 170; ((with_reducible refine ihj.mono ?_); rintro en w5 ⟨rfl, h5⟩; have H5 := Lib.hid h5; clear h5))
     go_roundw
     case rel => exact ⟨j + 1, by omega, by go_num, H5.out⟩
     case measure => simp [intOf]; omega
    ·obtain rfl : j = m := by omega
     have fin := HR.out; rw [<- FL.out, <- FR.out, Bool.and_assoc, Bool.and_assoc] at fin; have Fin := Lib.hid fin; clear fin; go_wp2; go_end0
     first
      | exact ⟨rfl, Fin.out⟩
      | (refine ⟨rfl, ?_⟩; simpa [hk] using Fin.out)
  ·have dk : (k == 2) = false := by simpa using hk
   obtain ⟨l', hl'⟩ : ∃ l', (l && (if k = 2 then decide (c < n) else true)) = l' := ⟨_, rfl⟩
   obtain ⟨r', hr'⟩ : ∃ r', (r && (if k = 2 then decide (n <= c) else true)) = r' := ⟨_, rfl⟩
   have H2 := Lib.hid (show T7 w0 w gl gn gr n l' r' by rw [<- hl', <- hr', if_neg hk, if_neg hk, Bool.and_true, Bool.and_true]; exact H.out); have FL := Lib.hid hl'; have FR := Lib.hid hr'; clear hl' hr' H; go_wp2
   go_loopw [21] (fun i wr => ∃ j : Nat, j <= m /\ i = .int .i64 j /\ T7 w0 wr gl gn gr n (l' && (List.range j).all (fun i => zK (fun c => decide (c < n)) (kid i))) (r' && (List.range j).all (fun i => zK (fun c => decide (n <= c)) (kid i)))) (fun i _ => m - (intOf i).toNat)
   case atStart => exact ⟨0, Nat.zero_le _, rfl, by simpa using H2.out⟩
   case round =>
    obtain ⟨j, hj, rfl, hr⟩ := hrel; obtain ⟨c0, c1, c2, c3, c4, c5⟩ := Hx.out.grow hr.g; simp only [E.kind, E.v, E.col, E.A, E.n, E.cap] at c0 c1 c2 c3 c4 c5; have HR := Lib.hid hr; clear hr
    by_cases hlt : j < m
    ·obtain ⟨gk, ok, hA, hck, hEk⟩ : ∃ gk ok, A = some ⟨gk, ok, none⟩ /\ zv w0 gk (ok + j * 6) (kid j) /\ EX w0 (kid j) := by
      cases HE.out with
      | mk hn' hc hk hv hi =>
       obtain ⟨gk, ok, h1, h2⟩ := hc j hlt; exact ⟨gk, ok, h1, h2, hk j hlt⟩
     subst hA; have ihj := ih j gk (ok + j * 6) _ _ wr hEk hck HR.out; rw [Bool.and_assoc, Bool.and_assoc, <- qE, <- qE] at ihj; clear hck hEk
     go_wp2_with (go_at_call 170; ((with_reducible refine ihj.mono ?_); rintro en w5 ⟨rfl, h5⟩; have H5 := Lib.hid h5; clear h5))
     go_roundw
     case rel => exact ⟨j + 1, by omega, by go_num, H5.out⟩
     case measure => simp [intOf]; omega
    ·obtain rfl : j = m := by omega
     have fin := HR.out; rw [<- FL.out, <- FR.out, Bool.and_assoc, Bool.and_assoc] at fin; have Fin := Lib.hid fin; clear fin; go_wp2; go_end0
     first
      | exact ⟨rfl, Fin.out⟩
      | (refine ⟨rfl, ?_⟩; simpa [hk] using Fin.out)
structure ElT (tr te : TypeId) (sz bytes : Nat) (z : Value) : Prop where
 hu : Tryz.prog.underlying tr = some (.slice te)
 hi : ∃ ti, Tryz.prog.info? te = some ti /\ ti.zero = some z /\ ti.size = sz /\ ti.bytes = bytes
 hz : z.cells.size = sz
 hp : 0 < sz
def Ua (w : World) (sz : Nat) (src : Value) (m : Nat) (news : List Value) : Prop := news.length = m * sz /\ (∀ u ∈ news, u.oneCell' = true) /\ ((∃ c, src = .slice none 0 c /\ m = 0) \/ ∃ ad c, src = .slice (some ad) m c /\ ∀ j u, news[j]? = some u -> w.cell? (ad.add j) = some u)
theorem y8 {tr te : TypeId} {sz bytes : Nat} {z : Value} (T : ElT tr te sz bytes z) {w : World} {ops : Array Oper} {rest : List Oper} {o : Oper} {a : Act} {Q : Exit -> Act -> World -> Prop} (hgd : o.guard = none) (s x : Operand)
  (ho : o.op = .call { callee := .builtin .append, args := #[s, x], argTypes := #[tr, tr] })
  (base : Nat) (v : Value) (n : Nat) (vs : List Value) (hs : a.eval s = v) (hown : w.ownsRow base te sz v n vs) (src : Value) (m : Nat) (news : List Value) (hx : a.eval x = src) (hsrc : Ua w sz src m news) (h63 : n + m <= maxLen) (hB : (n + m) * bytes <= 140737488355328) (hbase : base <= w.heap.size)
  (h : ∀ v' w', w'.ownsRow base te sz v' (n + m) (vs ++ news) -> w.grownBy w' v.ownBlock -> wpList Tryz.prog ops Q rest (a.put o.dst v') w') : wpList Tryz.prog ops Q (o :: rest) a w := by
 obtain ⟨ti, hti, hz0, hz1, hz2⟩ := T.hi; obtain ⟨hl, h1, h2⟩ := hsrc; rcases h2 with ⟨c, rfl, rfl⟩ | ⟨ad, c, rfl, hc⟩
 ·have e : news = [] := List.length_eq_zero_iff.1 (by omega); subst e; refine x5 hgd s x _ ho base te ti sz T.hu hti v n vs hs hown c hx ?_; exact h v w (by simpa using hown) ⟨rfl, rfl, rfl, Nat.le_refl _, fun _ _ _ => rfl⟩
 ·refine wpList_append_own _ hgd s x _ ho base te ti z sz bytes T.hu hti hz0 hz1 hz2 T.hz T.hp v n vs hs hown ad m c news hx hl hc h1 h63 hB hbase ?_; intro v' w' h1 h2 _; exact h v' w' h1 h2
theorem XC (te : TypeId) (sz : Nat) (w : World) : (w.alloc (.cells #[] te)).ownsRow w.heap.size te sz (.slice (some ⟨w.heap.size, 0, none⟩) 0 0) 0 [] := ⟨by simp, .inr ⟨w.heap.size, 0, #[], rfl, Nat.le_refl _, heap_alloc_new w _, Nat.le_refl _, by unfold maxLen; omega, by simp, by simp⟩⟩
theorem Bu : ElT 25 27 6 72 (.agg #[.int .i64 0, .int .i64 0, .int .i64 0, .string ⟨#[]⟩, .int .i64 0, .slice none 0 0]) := ⟨Tryz.underlying25, by
 have h : (Tryz.prog.info? 27).map (fun i => (i.zero, i.size, i.bytes)) = some (some (.agg #[.int .i64 0, .int .i64 0, .int .i64 0, .string ⟨#[]⟩, .int .i64 0, .slice none 0 0]), 6, 72) := by kernel_rfl
 cases hi : Tryz.prog.info? 27 with
 | none => rw [hi] at h; simp at h
 | some i => rw [hi] at h; simp at h; exact ⟨i, rfl, h⟩, rfl, by decide⟩
theorem Bv : ElT 29 31 11 160 (.agg #[.int .i64 0, .int .i64 0, .int .i64 0, .int .i64 0, .int .i64 0, .string ⟨#[]⟩, .int .i64 0, .slice none 0 0, .slice none 0 0, .slice none 0 0, .slice none 0 0]) := ⟨Tryz.underlying29, by
 have h : (Tryz.prog.info? 31).map (fun i => (i.zero, i.size, i.bytes)) = some (some (.agg #[.int .i64 0, .int .i64 0, .int .i64 0, .int .i64 0, .int .i64 0, .string ⟨#[]⟩, .int .i64 0, .slice none 0 0, .slice none 0 0, .slice none 0 0, .slice none 0 0]), 11, 160) := by kernel_rfl
 cases hi : Tryz.prog.info? 31 with
 | none => rw [hi] at h; simp at h
 | some i => rw [hi] at h; simp at h; exact ⟨i, rfl, h⟩, rfl, by decide⟩
def X5 (cells : Nat -> List Value) (n : Nat) : List Value := (List.range n).flatMap cells
theorem YJ {cells : Nat -> List Value} {sz : Nat} (h : ∀ i, (cells i).length = sz) : ∀ n, (X5 cells n).length = n * sz
 | 0 => by simp [X5]
 | n + 1 => by
  have ih := YJ h n; unfold X5 at ih ⊢; rw [List.range_succ, List.flatMap_append, List.length_append, ih]; simp [h, Nat.succ_mul]
theorem Lr {cells : Nat -> List Value} {sz : Nat} (h : ∀ i, (cells i).length = sz) (hsz : 0 < sz) : ∀ (n j : Nat) (u : Value), (X5 cells n)[j]? = some u -> j / sz < n /\ (cells (j / sz))[j % sz]? = some u
 | 0, j, u, hj => by simp [X5] at hj
 | n + 1, j, u, hj => by
  have ih := Lr h hsz n; have hl := YJ h n; unfold X5 at hj ih hl; rw [List.range_succ, List.flatMap_append] at hj; simp only [List.flatMap_cons, List.flatMap_nil, List.append_nil] at hj; rcases Nat.lt_or_ge j (n * sz) with hlt | hge
  ·rw [List.getElem?_append_left (by rw [hl]; exact hlt)] at hj; obtain ⟨a, b⟩ := ih j u hj; exact ⟨by omega, b⟩
  ·rw [List.getElem?_append_right (by rw [hl]; exact hge), hl] at hj
   have h1 : j - n * sz < sz := by
    have := (List.getElem?_eq_some_iff.1 hj).1; rw [h] at this; exact this
   have e : j = sz * n + (j - n * sz) := by rw [Nat.mul_comm]; omega
   have e1 : j / sz = n := by rw [e, Nat.mul_add_div hsz, Nat.div_eq_of_lt h1]; rfl
   have e2 : j % sz = j - n * sz := by
    conv => lhs; rw [e]
    rw [Nat.mul_add_mod, Nat.mod_eq_of_lt h1]
   rw [e1, e2]; exact ⟨by omega, hj⟩
theorem JI {cells : Nat -> List Value} {sz : Nat} (h : ∀ i, (cells i).length = sz) : ∀ (n i k : Nat) (u : Value), i < n -> (cells i)[k]? = some u -> (X5 cells n)[i * sz + k]? = some u
 | 0, i, k, u, hi, _ => by omega
 | n + 1, i, k, u, hi, hk => by
  have ih := JI h n i k u; have hl := YJ h n; have hk1 : k < sz := by rw [<- h i]; exact (List.getElem?_eq_some_iff.1 hk).1
  unfold X5 at ih hl ⊢; rw [List.range_succ, List.flatMap_append]; simp only [List.flatMap_cons, List.flatMap_nil, List.append_nil]; rcases Nat.lt_or_ge i n with hlt | hge
  ·have : i * sz + k < n * sz := by
    have := Nat.mul_le_mul_right sz (show i + 1 <= n from hlt); rw [Nat.succ_mul] at this; omega
   rw [List.getElem?_append_left (by rw [hl]; exact this)]; exact ih hlt hk
  ·obtain rfl : i = n := by omega
   rw [List.getElem?_append_right (by rw [hl]; omega), hl, Nat.add_sub_cancel_left]; exact hk
theorem E.cells_len (e : E) : e.cells.length = 6 := rfl
theorem PL.cells_len (p : PL) : p.cells.length = 11 := rfl
theorem zv.at {w : World} {g o : Nat} {e : E} (h : zv w g o e) : ∀ k u, e.cells[k]? = some u -> w.cell? ⟨g, o + k, none⟩ = some u := fun k u hk => by
 match k, hk with
 | 0, hk => simp [E.cells] at hk; subst hk; exact h.c0
 | 1, hk => simp [E.cells] at hk; subst hk; exact h.c1
 | 2, hk => simp [E.cells] at hk; subst hk; exact h.c2
 | 3, hk => simp [E.cells] at hk; subst hk; exact h.c3
 | 4, hk => simp [E.cells] at hk; subst hk; exact h.c4
 | 5, hk => simp [E.cells] at hk; subst hk; exact h.c5
theorem zX.at {w : World} {g o : Nat} {e : PL} (h : zX w g o e) : ∀ k u, e.cells[k]? = some u -> w.cell? ⟨g, o + k, none⟩ = some u := fun k u hk => by
 match k, hk with
 | 0, hk => simp [PL.cells] at hk; subst hk; exact h.c0
 | 1, hk => simp [PL.cells] at hk; subst hk; exact h.c1
 | 2, hk => simp [PL.cells] at hk; subst hk; exact h.c2
 | 3, hk => simp [PL.cells] at hk; subst hk; exact h.c3
 | 4, hk => simp [PL.cells] at hk; subst hk; exact h.c4
 | 5, hk => simp [PL.cells] at hk; subst hk; exact h.c5
 | 6, hk => simp [PL.cells] at hk; subst hk; exact h.c6
 | 7, hk => simp [PL.cells] at hk; subst hk; exact h.c7
 | 8, hk => simp [PL.cells] at hk; subst hk; exact h.c8
 | 9, hk => simp [PL.cells] at hk; subst hk; exact h.c9
 | 10, hk => simp [PL.cells] at hk; subst hk; exact h.c10
theorem TO {w : World} {sz : Nat} {A : Option Addr} {m c : Nat} {cells : Nat -> List Value} (hl : ∀ i, (cells i).length = sz) (hsz : 0 < sz) (h1 : ∀ i, ∀ u ∈ cells i, u.oneCell' = true)
  (h : ∀ i, i < m -> ∃ g o, A = some ⟨g, o, none⟩ /\ ∀ k u, (cells i)[k]? = some u -> w.cell? ⟨g, o + i * sz + k, none⟩ = some u) : Ua w sz (.slice A m c) m (X5 cells m) := by
 refine ⟨YJ hl m, fun u hu => ?_, ?_⟩
 ·obtain ⟨i, _, hi⟩ := List.mem_flatMap.1 hu; exact h1 i u hi
 ·cases A with
  | none =>
   rcases Nat.eq_zero_or_pos m with rfl | hp
   ·exact .inl ⟨c, rfl, rfl⟩
   ·obtain ⟨g, o, e, _⟩ := h 0 hp; cases e
  | some ad =>
   refine .inr ⟨ad, c, rfl, fun j u hj => ?_⟩; obtain ⟨a, b⟩ := Lr hl hsz m j u hj; obtain ⟨g, o, e, hc⟩ := h _ a; cases e; have := hc _ _ b; rw [yn]
   have e2 : o + j / sz * sz + j % sz = o + j := by
    have := Nat.div_add_mod j sz; rw [Nat.mul_comm] at this; omega
   rw [e2] at this; exact this
theorem E.ones (e : E) : ∀ u ∈ e.cells, u.oneCell' = true := fun u hu => by
 simp [E.cells] at hu; rcases hu with rfl | rfl | rfl | rfl | rfl | rfl <;> rfl
theorem PL.ones (e : PL) : ∀ u ∈ e.cells, u.oneCell' = true := fun u hu => by
 simp [PL.cells] at hu; rcases hu with rfl | rfl | rfl | rfl | rfl | rfl | rfl | rfl | rfl | rfl | rfl <;> rfl
def zbA (w : World) (base : Nat) (B : Option Addr) (n : Nat) (f : Nat -> E) : Prop := (n = 0 /\ B = none) \/ ∃ g cur, B = some ⟨g, 0, none⟩ /\ base <= g /\ zb w g 27 cur /\ n * 6 <= cur.size /\ ∀ i, i < n -> zv w g (i * 6) (f i)
def zbB (w : World) (base : Nat) (B : Option Addr) (n : Nat) (f : Nat -> PL) : Prop := (n = 0 /\ B = none) \/ ∃ g cur, B = some ⟨g, 0, none⟩ /\ base <= g /\ zb w g 31 cur /\ n * 11 <= cur.size /\ ∀ i, i < n -> zX w g (i * 11) (f i)
theorem C7 {w : World} {base n cap : Nat} {B : Option Addr} {f : Nat -> E} (h : w.ownsRow base 27 6 (.slice B n cap) n (X5 (fun i => (f i).cells) n)) : zbA w base B n f := by
 rcases h.2 with ⟨e, h0⟩ | ⟨g, cap', cur, e, hB, hg, hle, hmx, hcs, htk⟩
 ·simp at e; exact .inl ⟨h0, e.1⟩
 ·simp at e; obtain ⟨rfl, rfl⟩ := e; refine .inr ⟨g, cur, rfl, hB, hg, by rw [hcs]; exact Nat.mul_le_mul_right 6 hle, fun i hi => ?_⟩
  have hc : ∀ k u, (f i).cells[k]? = some u -> w.cell? ⟨g, i * 6 + k, none⟩ = some u := fun k u hk => by
   have := h.cells (g := g) rfl _ _ (JI (fun i => E.cells_len (f i)) n i k u hi hk); rw [yn] at this; simpa using this
  exact ⟨hc 0 _ rfl, hc 1 _ rfl, hc 2 _ rfl, hc 3 _ rfl, hc 4 _ rfl, hc 5 _ rfl⟩
theorem C8 {w : World} {base n cap : Nat} {B : Option Addr} {f : Nat -> PL} (h : w.ownsRow base 31 11 (.slice B n cap) n (X5 (fun i => (f i).cells) n)) : zbB w base B n f := by
 rcases h.2 with ⟨e, h0⟩ | ⟨g, cap', cur, e, hB, hg, hle, hmx, hcs, htk⟩
 ·simp at e; exact .inl ⟨h0, e.1⟩
 ·simp at e; obtain ⟨rfl, rfl⟩ := e; refine .inr ⟨g, cur, rfl, hB, hg, by rw [hcs]; exact Nat.mul_le_mul_right 11 hle, fun i hi => ?_⟩
  have hc : ∀ k u, (f i).cells[k]? = some u -> w.cell? ⟨g, i * 11 + k, none⟩ = some u := fun k u hk => by
   have := h.cells (g := g) rfl _ _ (JI (fun i => PL.cells_len (f i)) n i k u hi hk); rw [yn] at this; simpa using this
  exact ⟨hc 0 _ rfl, hc 1 _ rfl, hc 2 _ rfl, hc 3 _ rfl, hc 4 _ rfl, hc 5 _ rfl, hc 6 _ rfl, hc 7 _ rfl, hc 8 _ rfl, hc 9 _ rfl, hc 10 _ rfl⟩
def ClE (n : Nat) (f : Nat -> E) (w w' : World) (en : Ending) : Prop := ∃ (B : Option Addr) (cap : Nat), en = .returned (.slice B n cap) /\ zbA w' w.heap.size B n f /\ za w w'
def ClP (n : Nat) (f : Nat -> PL) (w w' : World) (en : Ending) : Prop := ∃ (B : Option Addr) (cap : Nat), en = .returned (.slice B n cap) /\ zbB w' w.heap.size B n f /\ za w w'
theorem RH (n : Nat) (f : Nat -> E) (A : Option Addr) (c : Nat) (w : World) (hl : n <= 10000) (hv : ∀ i, i < n -> ∃ g o, A = some ⟨g, o, none⟩ /\ zv w g (o + i * 6) (f i)) :
  Calls Tryz.prog 204 #[.slice A n c] w fun en w' => ClE n f w w' en := by
 have hsrc := fun W (h : za w W) => TO (w := W) (sz := 6) (A := A) (m := n) (c := c) (cells := fun i => (f i).cells) (fun i => E.cells_len (f i)) (by decide) (fun i => E.ones (f i)) (fun i hi => by
  obtain ⟨g, o, e, hc⟩ := hv i hi
  exact ⟨g, o, e, fun k u hk => (hc.grow h).at k u hk⟩)
 have Eq := Lib.hid hsrc
 have hn0 : A = none -> n = 0 := fun h => by
  rcases Nat.eq_zero_or_pos n with h0 | hp
  ·exact h0
  ·obtain ⟨g, o, e, _⟩ := hv 0 hp; rw [h] at e; cases e
 have HN := Lib.hid hn0; clear hv hsrc hn0; have eqn := fun W (B : Option Addr) n c => Lib.run_eql_slice_nil W 25 27 B n c 0 0 Tryz.underlying25
 go_enter Tryz.func204, Tryz.ntmps204; cases A with
 | none =>
  obtain rfl := HN.out rfl; go_wp2; go_ret; exact ⟨none, 0, rfl, .inl ⟨rfl, rfl⟩, za.refl _⟩
 | some ad =>
  have Own := Lib.hid (XC 27 6 w)
  go_wp2_with (at_builtin; refine y8 Bu rfl _ _ rfl w.heap.size _ _ _ rfl Own.out _ n _ rfl (Eq.out _ ((za.refl w).al _)) (by unfold maxLen; omega) (by omega) (by simp) ?_; intro v7 w7 own7 gr7; obtain ⟨g7, cap7, rfl⟩ : ∃ (B : Option Addr) (cap7 : Nat), v7 = .slice B (0 + n) cap7 := (by rcases own7.2 with ⟨e, h0⟩ | ⟨g', cap', cur', e, _⟩; exact ⟨none, 0, by rw [h0]; exact e⟩; exact ⟨_, _, e⟩))
  have G7 : za w w7 := za.own ((za.refl w).al _) gr7 (fun i hi => by
   rcases Nat.lt_or_ge i w.heap.size with h | h
   ·exact absurd hi.symm (kg Own.out h)
   ·exact h)
  have Own7 := Lib.hid own7; clear own7 gr7; go_ret; exact ⟨g7, cap7, by simp, C7 (by simpa using Own7.out), G7⟩
theorem RJ (n : Nat) (f : Nat -> PL) (A : Option Addr) (c : Nat) (w : World) (hl : n <= 10000) (hv : ∀ i, i < n -> ∃ g o, A = some ⟨g, o, none⟩ /\ zX w g (o + i * 11) (f i)) :
  Calls Tryz.prog 89 #[.slice A n c] w fun en w' => ClP n f w w' en := by
 have hsrc := fun W (h : za w W) => TO (w := W) (sz := 11) (A := A) (m := n) (c := c) (cells := fun i => (f i).cells) (fun i => PL.cells_len (f i)) (by decide) (fun i => PL.ones (f i)) (fun i hi => by
  obtain ⟨g, o, e, hc⟩ := hv i hi
  exact ⟨g, o, e, fun k u hk => (hc.grow h).at k u hk⟩)
 have Eq := Lib.hid hsrc
 have hn0 : A = none -> n = 0 := fun h => by
  rcases Nat.eq_zero_or_pos n with h0 | hp
  ·exact h0
  ·obtain ⟨g, o, e, _⟩ := hv 0 hp; rw [h] at e; cases e
 have HN := Lib.hid hn0; clear hv hsrc hn0; have eqn := fun W (B : Option Addr) n c => Lib.run_eql_slice_nil W 29 31 B n c 0 0 Tryz.underlying29
 go_enter Tryz.func89, Tryz.ntmps89; cases A with
 | none =>
  obtain rfl := HN.out rfl; go_wp2; go_ret; exact ⟨none, 0, rfl, .inl ⟨rfl, rfl⟩, za.refl _⟩
 | some ad =>
  have Own := Lib.hid (XC 31 11 w)
  go_wp2_with (at_builtin; refine y8 Bv rfl _ _ rfl w.heap.size _ _ _ rfl Own.out _ n _ rfl (Eq.out _ ((za.refl w).al _)) (by unfold maxLen; omega) (by omega) (by simp) ?_; intro v7 w7 own7 gr7; obtain ⟨g7, cap7, rfl⟩ : ∃ (B : Option Addr) (cap7 : Nat), v7 = .slice B (0 + n) cap7 := (by rcases own7.2 with ⟨e, h0⟩ | ⟨g', cap', cur', e, _⟩; exact ⟨none, 0, by rw [h0]; exact e⟩; exact ⟨_, _, e⟩))
  have G7 : za w w7 := za.own ((za.refl w).al _) gr7 (fun i hi => by
   rcases Nat.lt_or_ge i w.heap.size with h | h
   ·exact absurd hi.symm (kg Own.out h)
   ·exact h)
  have Own7 := Lib.hid own7; clear own7 gr7; go_ret; exact ⟨g7, cap7, by simp, C8 (by simpa using Own7.out), G7⟩
def Zh (S : Nat -> Prop) (w W : World) : Prop := ∀ q, S q -> q < w.heap.size -> W.heap[q]? = w.heap[q]?
theorem Zh.cell {S : Nat -> Prop} {w W : World} (h : Zh S w W) {g o : Nat} {v : Value} (hs : S g) (hc : w.cell? ⟨g, o, none⟩ = some v) : W.cell? ⟨g, o, none⟩ = some v :=
 (World.cell?_of_block (h g hs (za.lt hc))).trans hc
def Xj (S : Nat -> Prop) (w : World) (e : E) : Prop := ∀ W, Zh S w W -> EX W e
def qI (S : Nat -> Prop) (w : World) (p : PL) : Prop := ∀ W, Zh S w W -> PX W p
def Mo (S : Nat -> Prop) (w : World) (k n : Int) (x : E) (xs : jj) (ag : jh) : Prop := ∀ W, Zh S w W -> NX W k n x xs ag
theorem Zh.refl (S : Nat -> Prop) (w : World) : Zh S w w := fun _ _ _ => rfl
theorem Zh.mono {S T : Nat -> Prop} {w W : World} (h : Zh T w W) (hs : ∀ q, q < w.heap.size -> S q -> T q) : Zh S w W := fun q a b => h q (hs q b a) b
theorem Zh.trans {S : Nat -> Prop} {w w' W : World} (h : Zh S w' W) (h1 : Zh S w w') (hl : w.heap.size <= w'.heap.size) : Zh S w W := fun q a b => (h q a (by omega)).trans (h1 q a b)
theorem JN {S : Nat -> Prop} {w w' : World} (h : za w w') : Zh S w w' := fun q _ hq => h.below.block q hq
theorem Xj.ex {S : Nat -> Prop} {w : World} {e : E} (h : Xj S w e) : EX w e := h w (Zh.refl S w)
theorem qI.px {S : Nat -> Prop} {w : World} {p : PL} (h : qI S w p) : PX w p := h w (Zh.refl S w)
theorem Xj.mono {S T : Nat -> Prop} {w : World} {e : E} (h : Xj S w e) (hs : ∀ q, q < w.heap.size -> S q -> T q) : Xj T w e := fun W a => h W (a.mono hs)
theorem qI.mono {S T : Nat -> Prop} {w : World} {p : PL} (h : qI S w p) (hs : ∀ q, q < w.heap.size -> S q -> T q) : qI T w p := fun W a => h W (a.mono hs)
theorem Mo.mono {S T : Nat -> Prop} {w : World} {k n : Int} {x : E} {xs : jj} {ag : jh} (h : Mo S w k n x xs ag) (hs : ∀ q, q < w.heap.size -> S q -> T q) : Mo T w k n x xs ag := fun W a => h W (a.mono hs)
theorem Xj.move {S : Nat -> Prop} {w w' : World} {e : E} (h : Xj S w e) (ha : Zh S w w') (hl : w.heap.size <= w'.heap.size) : Xj S w' e := fun W a => h W (a.trans ha hl)
theorem qI.move {S : Nat -> Prop} {w w' : World} {p : PL} (h : qI S w p) (ha : Zh S w w') (hl : w.heap.size <= w'.heap.size) : qI S w' p := fun W a => h W (a.trans ha hl)
theorem Mo.move {S : Nat -> Prop} {w w' : World} {k n : Int} {x : E} {xs : jj} {ag : jh} (h : Mo S w k n x xs ag) (ha : Zh S w w') (hl : w.heap.size <= w'.heap.size) : Mo S w' k n x xs ag := fun W a => h W (a.trans ha hl)
theorem Xj.grow {S : Nat -> Prop} {w w' : World} {e : E} (h : Xj S w e) (hg : za w w') : Xj S w' e := h.move (JN hg) hg.size
theorem qI.grow {S : Nat -> Prop} {w w' : World} {p : PL} (h : qI S w p) (hg : za w w') : qI S w' p := h.move (JN hg) hg.size
theorem Mo.grow {S : Nat -> Prop} {w w' : World} {k n : Int} {x : E} {xs : jj} {ag : jh} (h : Mo S w k n x xs ag) (hg : za w w') : Mo S w' k n x xs ag := h.move (JN hg) hg.size
theorem zv.agr {S : Nat -> Prop} {w W : World} (h : Zh S w W) {g o : Nat} {e : E} (hs : S g) (hc : zv w g o e) : zv W g o e := ⟨h.cell hs hc.c0, h.cell hs hc.c1, h.cell hs hc.c2, h.cell hs hc.c3, h.cell hs hc.c4, h.cell hs hc.c5⟩
theorem zX.agr {S : Nat -> Prop} {w W : World} (h : Zh S w W) {g o : Nat} {e : PL} (hs : S g) (hc : zX w g o e) : zX W g o e := ⟨h.cell hs hc.c0, h.cell hs hc.c1, h.cell hs hc.c2, h.cell hs hc.c3, h.cell hs hc.c4, h.cell hs hc.c5, h.cell hs hc.c6, h.cell hs hc.c7, h.cell hs hc.c8, h.cell hs hc.c9, h.cell hs hc.c10⟩
abbrev Ep : Nat -> Prop := fun _ => True
theorem EX.all {w : World} {e : E} (h : EX w e) : Xj Ep w e := fun W a => by
 induction h with
 | leaf => exact .leaf
 | mk hn hc hk hv hi ih => exact .mk hn (fun i hi => by obtain ⟨g, o, h1, h2⟩ := hc i hi; exact ⟨g, o, h1, h2.agr a trivial⟩) (fun i hi => ih i hi) hv hi
theorem KG.agr {w W : World} (a : Zh Ep w W) {A : Option Addr} {xs : List E} (h : KG w A xs) : KG W A xs := fun i x hx => by
 obtain ⟨g, o, e, c, d⟩ := h i x hx; exact ⟨g, o, e, c.agr a trivial, d.all W a⟩
theorem Y6.agr {w W : World} (a : Zh Ep w W) {A : Option Addr} {xs : List Ag} (h : Y6 w A xs) : Y6 W A xs := fun i x hx => by
 obtain ⟨g, o, e, c, d⟩ := h i x hx; exact ⟨g, o, e, ⟨a.cell trivial c.k, a.cell trivial c.c0, a.cell trivial c.c1, a.cell trivial c.c2, a.cell trivial c.c3, a.cell trivial c.c4, a.cell trivial c.c5⟩, d.all W a⟩
theorem PX.all {w : World} {p : PL} (h : PX w p) : qI Ep w p := fun W a => by
 induction h with
 | leaf => exact .leaf
 | mk hm hc hk hx hs ha hl hi ih => exact .mk hm (fun i hi => by obtain ⟨g, o, h1, h2⟩ := hc i hi; exact ⟨g, o, h1, h2.agr a trivial⟩) (fun i hi => ih i hi) (hx.all W a) (hs.agr a) (ha.agr a) hl hi
theorem Xj.kid {S : Nat -> Prop} {w : World} {k : Int} {v : V} {c : Int} {A : Option Addr} {n cap : Nat} {kid : Nat -> E} (h : Xj S w (.mk k v c A n cap kid)) {i : Nat} (hi : i < n) : Xj S w (kid i) := fun W a => by
 cases h W a with
 | mk hn hc hk hv h9 => exact hk i hi
theorem qI.kid {S : Nat -> Prop} {w : World} {k n : Int} {x : E} {xs : jj} {ag : jh} {A : Option Addr} {m cap : Nat} {kid : Nat -> PL} (h : qI S w (.mk k n x xs ag A m cap kid)) {i : Nat} (hi : i < m) : qI S w (kid i) := fun W a => by
 cases h W a with
 | mk hm hc hk => exact hk i hi
theorem qI.nx {S : Nat -> Prop} {w : World} {k n : Int} {x : E} {xs : jj} {ag : jh} {A : Option Addr} {m cap : Nat} {kid : Nat -> PL} (h : qI S w (.mk k n x xs ag A m cap kid)) : Mo S w k n x xs ag := fun W a => (h W a).nx
theorem Mo.x {S : Nat -> Prop} {w : World} {k n : Int} {x : E} {xs : jj} {ag : jh} (h : Mo S w k n x xs ag) : Xj S w x := fun W a => (h W a).hx
abbrev Rt (S : Nat -> Prop) (b : Nat) : Nat -> Prop := fun q => S q \/ b <= q
def WfE : E -> Prop
 | .leaf => False
 | .mk k _ c _ n _ kid => n <= 3 /\ (k = 2 -> n = 0 /\ 0 <= c /\ c <= 16) /\ ∀ i, i < n -> WfE (kid i)
def ME (S : Nat -> Prop) (by' : Int) (e : E) (w w' : World) (en : Ending) : Prop := ∃ r : E, en = .returned r.val /\ Xj (Rt S w.heap.size) w' r /\ nE r = qO by' e /\ za w w'
def zac (by' : Int) (e : E) : Prop := ∀ (S : Nat -> Prop) (w : World), WfE e -> Xj S w e -> zK (fun c => decide (-by' <= c)) e = true ->
 Calls Tryz.prog 172 #[e.val, .int .i64 by'] w fun en w' => ME S by' e w w' en
structure Mv (S : Nat -> Prop) (w wr : World) (gx gr : Nat) (B : Option Addr) (n j : Nat) (by' : Int) (kid F : Nat -> E) : Prop where
 row : (n = 0 /\ B = none) \/ ∃ g cur, B = some ⟨g, 0, none⟩ /\ w.heap.size <= g /\ g ≠ gx /\ g ≠ gr /\ zb wr g 27 cur /\ n * 6 <= cur.size /\ (∀ i, i < n -> zv wr g (i * 6) (F i)) /\ ∀ i, i < j -> Xj (fun q => (S q /\ q < w.heap.size) \/ (w.heap.size <= q /\ q ≠ g /\ q ≠ gx /\ q ≠ gr)) wr (F i)
 done : ∀ i, i < j -> nE (F i) = qO by' (kid i)
 todo : ∀ i, j <= i -> F i = kid i
theorem Mv.grow {S : Nat -> Prop} {w wr w' : World} {gx gr : Nat} {B : Option Addr} {n j : Nat} {by' : Int} {kid F : Nat -> E} (h : Mv S w wr gx gr B n j by' kid F) (hg : za wr w') : Mv S w w' gx gr B n j by' kid F := by
 refine ⟨?_, h.done, h.todo⟩; rcases h.row with h | ⟨g, cur, a, b, c, d, e, f, i, k⟩
 ·exact .inl h
 ·exact .inr ⟨g, cur, a, b, c, d, e.grow hg, f, fun q hq => (i q hq).grow hg, fun q hq => (k q hq).grow hg⟩
abbrev SL (w : World) (g o : Nat) (r : E) : World := (((((w.setCell ⟨g, o, none⟩ (.int .i64 r.kind)).setCell ⟨g, o + 1, none⟩ (.int .i64 r.v.k)).setCell ⟨g, o + 2, none⟩ (.int .i64 r.v.n)).setCell ⟨g, o + 3, none⟩ (.string r.v.s)).setCell ⟨g, o + 4, none⟩ (.int .i64 r.col)).setCell ⟨g, o + 5, none⟩ (.slice r.A r.n r.cap)
theorem zce (cur : Array Value) (o : Nat) (a0 a1 a2 a3 a4 a5 : Value) (h : o + 6 <= cur.size) : ∃ c : Array Value, c = (((((cur.setIfInBounds o a0).setIfInBounds (o + 1) a1).setIfInBounds (o + 2) a2).setIfInBounds (o + 3) a3).setIfInBounds (o + 4) a4).setIfInBounds (o + 5) a5 /\ c.size = cur.size /\ c[o]? = some a0 /\ c[o + 1]? = some a1 /\ c[o + 2]? = some a2 /\ c[o + 3]? = some a3 /\ c[o + 4]? = some a4 /\ c[o + 5]? = some a5 /\ ∀ p, (p < o \/ o + 6 <= p) -> c[p]? = cur[p]? := by
 refine ⟨_, rfl, by simp, ?_, ?_, ?_, ?_, ?_, ?_, fun p hp => ?_⟩
 ·simp [Array.getElem?_setIfInBounds]; omega
 ·simp [Array.getElem?_setIfInBounds]; omega
 ·simp [Array.getElem?_setIfInBounds]; omega
 ·simp [Array.getElem?_setIfInBounds]; omega
 ·simp [Array.getElem?_setIfInBounds]; omega
 ·simp [Array.getElem?_setIfInBounds]; omega
 ·simp only [Array.getElem?_setIfInBounds]; rw [if_neg (by omega), if_neg (by omega), if_neg (by omega), if_neg (by omega), if_neg (by omega), if_neg (by omega)]
theorem Yn (w : World) (g o : Nat) (r : E) {q : Nat} (hq : q ≠ g) : (SL w g o r).heap[q]? = w.heap[q]? := by
 unfold SL; rw [Below.heap_setCell _ ⟨g, _, none⟩ _ q hq, Below.heap_setCell _ ⟨g, _, none⟩ _ q hq, Below.heap_setCell _ ⟨g, _, none⟩ _ q hq, Below.heap_setCell _ ⟨g, _, none⟩ _ q hq, Below.heap_setCell _ ⟨g, _, none⟩ _ q hq, Below.heap_setCell _ ⟨g, _, none⟩ _ q hq]
theorem Gm {w : World} {g o : Nat} {r : E} {t : TypeId} {cur : Array Value} (h : zb w g t cur) (ho : o + 6 <= cur.size) : ∃ c, zb (SL w g o r) g t c /\ c.size = cur.size /\ zv (SL w g o r) g o r /\ ∀ p, (p < o \/ o + 6 <= p) -> c[p]? = cur[p]? := by
 obtain ⟨c, hc, hs, h0, h1, h2, h3, h4, h5, h6⟩ := zce cur o (.int .i64 r.kind) (.int .i64 r.v.k) (.int .i64 r.v.n) (.string r.v.s) (.int .i64 r.col) (.slice r.A r.n r.cap) ho
 have hb : zb (SL w g o r) g t c := by
  rw [hc]; exact (((((h.set o _).set (o + 1) _).set (o + 2) _).set (o + 3) _).set (o + 4) _).set (o + 5) _
 exact ⟨c, hb, hs, ⟨by rw [hb.cell]; exact h0, by rw [hb.cell]; exact h1, by rw [hb.cell]; exact h2, by rw [hb.cell]; exact h3, by rw [hb.cell]; exact h4, by rw [hb.cell]; exact h5⟩, h6⟩
theorem Yo (w : World) (g o : Nat) (r : E) : (SL w g o r).heap.size = w.heap.size := by simp [SL]
theorem Ym {w0 w : World} {g : Nat} (hg : za w0 w) (h : w0.heap.size <= g) (o : Nat) (r : E) : za w0 (SL w g o r) := za.set (za.set (za.set (za.set (za.set (za.set hg h _) h _) h _) h _) h _) h _
theorem Mv.put {S : Nat -> Prop} {w wr : World} {gx gr g : Nat} {n j : Nat} {by' : Int} {kid F : Nat -> E} (h : Mv S w wr gx gr (some ⟨g, 0, none⟩) n j by' kid F) (hj : j < n) {r : E} (hr : Xj (fun q => (S q /\ q < w.heap.size) \/ (w.heap.size <= q /\ q ≠ g /\ q ≠ gx /\ q ≠ gr)) wr r) (hn : nE r = qO by' (kid j)) :
  Mv S w (SL wr g (j * 6) r) gx gr (some ⟨g, 0, none⟩) n (j + 1) by' kid (fun i => if i = j then r else F i) := by
 refine ⟨?_, fun i hi => ?_, fun i hi => ?_⟩
 ·rcases h.row with ⟨h0, _⟩ | ⟨g', cur, e, b, c, d, hb, f, hc, hk⟩
  ·omega
  ·cases e; obtain ⟨c', hb', hs, hec, ho⟩ := Gm (r := r) (o := j * 6) hb (by omega); have agr : Zh (fun q => (S q /\ q < w.heap.size) \/ (w.heap.size <= q /\ q ≠ g /\ q ≠ gx /\ q ≠ gr)) wr (SL wr g (j * 6) r) := fun q hq _ => Yn wr g (j * 6) r (by rcases hq with ⟨_, h⟩ | h; omega; exact h.2.1)
   refine .inr ⟨g, c', rfl, b, c, d, hb', by omega, fun i hi => ?_, fun i hi => ?_⟩
   ·by_cases hij : i = j
    ·subst hij; rw [if_pos rfl]; exact hec
    ·rw [if_neg hij]; have hc := hc i hi
     have tr : ∀ k u, k < 6 -> wr.cell? ⟨g, i * 6 + k, none⟩ = some u -> (SL wr g (j * 6) r).cell? ⟨g, i * 6 + k, none⟩ = some u := fun k u hk hu => by
      rw [hb.cell] at hu; rw [hb'.cell, ho _ (by omega)]; exact hu
     exact ⟨tr 0 _ (by omega) hc.c0, tr 1 _ (by omega) hc.c1, tr 2 _ (by omega) hc.c2, tr 3 _ (by omega) hc.c3, tr 4 _ (by omega) hc.c4, tr 5 _ (by omega) hc.c5⟩
   ·by_cases hij : i = j
    ·subst hij; simp only [if_pos]; exact hr.move agr (by rw [Yo]; exact Nat.le_refl _)
    ·simp only [if_neg hij]; exact (hk i (by omega)).move agr (by rw [Yo]; exact Nat.le_refl _)
 ·by_cases hij : i = j
  ·subst hij; simp only [if_pos]; exact hn
  ·simp only [if_neg hij]; exact h.done i (by omega)
 ·simp only [if_neg (show ¬ i = j by omega)]; exact h.todo i (by omega)
theorem Mv.fin {S : Nat -> Prop} {w wr : World} {gx gr : Nat} {B : Option Addr} {n cap cap' : Nat} {by' : Int} {kid F : Nat -> E} {k : Int} {v : V} {c c' : Int} {A : Option Addr} (h : Mv S w wr gx gr B n n by' kid F) (he : Xj S w (.mk k v c A n cap kid)) (hc : xj c') (hcc : c' = if k = 2 then c + by' else c) :
  Xj (fun q => (S q /\ q < w.heap.size) \/ (w.heap.size <= q /\ q ≠ gx /\ q ≠ gr)) wr (.mk k v c' B n cap' F) /\ nE (.mk k v c' B n cap' F) = qO by' (.mk k v c A n cap kid) := by
 constructor
 ·intro W a; have e0 := he.ex; cases e0 with
  | mk hn hc0 hk0 hv hi =>
   rcases h.row with ⟨h0, rfl⟩ | ⟨g, cur, rfl, b, c1, d, hb, f, hcs, hk⟩
   ·subst h0; exact .mk hn (fun i hi => absurd hi (Nat.not_lt_zero _)) (fun i hi => absurd hi (Nat.not_lt_zero _)) hv ⟨hi.1, hc⟩
   ·refine .mk hn (fun i hi => ⟨g, 0, rfl, ?_⟩) (fun i hi => hk i hi W (a.mono (fun q _ hq => ?_))) hv ⟨hi.1, hc⟩
    ·rw [Nat.zero_add]; exact (hcs i hi).agr a (.inr ⟨b, c1, d⟩)
    ·rcases hq with hq | hq
     ·exact .inl hq
     ·exact .inr ⟨hq.1, hq.2.2⟩
 ·rw [JZ]; unfold qO; rw [hcc]; congr 1; funext i
  by_cases hi : i < n
  ·rw [if_pos hi, if_pos hi]; exact h.done i hi
  ·rw [if_neg hi, if_neg hi]
theorem zb.far9 {w : World} {g q : Nat} {t : TypeId} {cs : Array Value} (h : zb w g t cs) (hne : q ≠ g) (o : Nat) (r : E) : zb (SL w q o r) g t cs := by
 unfold zb at h ⊢; rw [Yn w q o r (Ne.symm hne)]; exact h
theorem xO {f : Int -> Bool} {k : Int} {v : V} {c : Int} {A : Option Addr} {n cap : Nat} {kid : Nat -> E} (h : zK f (.mk k v c A n cap kid) = true) {i : Nat} (hi : i < n) : zK f (kid i) = true := by
 rw [xP, Bool.and_eq_true] at h; exact List.all_eq_true.1 h.2 i (List.mem_range.2 hi)
def PM (S : Nat -> Prop) (Z : World) (by' : Int) (e : E) (v : Value) (W : World) : Prop := ∃ r : E, v = .agg #[.int .i64 r.kind, .int .i64 r.v.k, .int .i64 r.v.n, .string r.v.s, .int .i64 r.col, .slice r.A r.n r.cap] /\ Xj (Rt S Z.heap.size) W r /\ nE r = qO by' e
theorem PM.pers (S : Nat -> Prop) (Z : World) (by' : Int) (e : E) : xx (PM S Z by' e) := fun v w w' hg ⟨r, a, b, c⟩ => ⟨r, a, b.grow hg, c⟩
theorem zbH {w : World} {g o : Nat} {t : TypeId} {cur : Array Value} (h : zb w g t cur) (ho : o + 6 <= cur.size) : ∃ u0 u1 u2 u3 u4 u5, w.cell? ⟨g, o, none⟩ = some u0 /\ w.cell? ⟨g, o + 1, none⟩ = some u1 /\ w.cell? ⟨g, o + 2, none⟩ = some u2 /\ w.cell? ⟨g, o + 3, none⟩ = some u3 /\ w.cell? ⟨g, o + 4, none⟩ = some u4 /\ w.cell? ⟨g, o + 5, none⟩ = some u5 := by
 have f : ∀ i, i < cur.size -> w.cell? ⟨g, i, none⟩ = some (cur.getD i undef) := fun i hi => by rw [h.cell]; simp [hi]
 exact ⟨_, _, _, _, _, _, f _ (by omega), f _ (by omega), f _ (by omega), f _ (by omega), f _ (by omega), f _ (by omega)⟩
theorem CI (by' : Int) (hb0 : -100 <= by') (hb1 : by' <= 0) (k : Int) (v : V) (c : Int) (A : Option Addr) (n cap : Nat) (kid : Nat -> E) (ih : ∀ i, zac by' (kid i)) : zac by' (.mk k v c A n cap kid) := by
 intro S w hw hE hcol; have HE := Lib.hid hE; have HW := Lib.hid hw; have HCol := Lib.hid hcol; have hn3 : n <= 3 := hw.1
 obtain ⟨hci, hck⟩ : xj c /\ ∀ i, i < n -> ∃ g o, A = some ⟨g, o, none⟩ /\ zv w g (o + i * 6) (kid i) := by
  cases hE.ex with
  | mk hn hc hk hv hi => exact ⟨hi.2, hc⟩
 have cl := fun W (h : za w W) => RH n kid A cap W (by omega) (fun i hi => by obtain ⟨g, o, a, b⟩ := hck i hi; exact ⟨g, o, a, b.grow h⟩)
 have IH := Lib.hid ih; unfold E.val; simp only [E.kind, E.v, E.col, E.A, E.n, E.cap]; clear hw hE hcol hck ih; go_enter Tryz.func172, Tryz.ntmps172; have hW2 := HW.out.2.1
 have hcc2 : k = 2 -> -by' <= c := fun h => by
  have := HCol.out; rw [xP, if_pos h, Bool.and_eq_true] at this; exact of_decide_eq_true this.1
 by_cases hk : k = 2
 ·have dk : (k == 2) = true := by simpa using hk
  obtain ⟨hn0, hc0, hc16⟩ := hW2 hk; have hc2 := hcc2 hk; have hwp : IntKind.i64.wrap (c + by') = c + by' := by rw [IntKind.wrap_i64]; omega
  have HCI := Lib.hid (show xj (c + by') by constructor <;> omega); have HCC := Lib.hid (show c + by' = if k = 2 then c + by' else c by rw [if_pos hk]); clear hk hci hc0 hc16 hc2 hn0 hcc2 hW2; go_upto_region 3 with fail
  clear hwp; refine zc (fun X => zb X w.heap.size 27 #[.int .i64 k, .int .i64 v.k, .int .i64 v.n, .string v.s, .int .i64 (c + by'), .slice A n cap] /\ zb X (w.heap.size + 1) 27 #[.int .i64 0, .int .i64 0, .int .i64 0, .string ⟨#[]⟩, .int .i64 0, .slice none 0 0] /\ za w X) ⟨(zb.new _ _ _).al _, zb.new' _ _ _ (by simp), (by with_reducible repeat (first | exact za.refl _ | assumption | refine za.set ?_ (by simp <;> omega) _ | refine za.al ?_ _ | refine za.drew ?_ | refine za.drewN ?_ _ | refine za.trans ?_ (by assumption)))⟩ ?_; rintro X ⟨Bx, Br, G⟩; obtain ⟨gx, hgx⟩ : ∃ gx, w.heap.size = gx := ⟨_, rfl⟩
  have hge : w.heap.size <= gx := by omega
  rw [hgx] at Bx Br ⊢; have n1 : gx ≠ gx + 1 := by omega
  have n1' : gx + 1 ≠ gx := by omega
  have lx := Bx.lt; have lr := Br.lt; obtain ⟨bx, fx⟩ := Bx.rules; go_upto_region 4 with (go_at_call 204; ((with_reducible refine (cl _ G).mono ?_); rintro en w3 ⟨B, cap3, rfl, hrow, hg3⟩; have Bx3 := Bx.grow hg3; have Br3 := Br.grow hg3; clear bx fx; obtain ⟨bx, fx⟩ := Bx3.rules; have lx3 := Bx3.lt)); have Bx4 := Bx3.set 5 (.slice B n cap3); simp only [List.setIfInBounds_toArray, List.set_cons_zero, List.set_cons_succ] at Bx4
  have mv0 : Mv S w (w3.setCell ⟨gx, 5, none⟩ (.slice B n cap3)) gx (gx + 1) B n 0 by' kid kid := by
   refine ⟨?_, fun i hi => absurd hi (Nat.not_lt_zero _), fun i _ => rfl⟩; rcases hrow with h | ⟨g, cur, e, b, hb, f, hc⟩
   ·exact .inl h
   ·have lg := G.size; refine .inr ⟨g, cur, e, by omega, by omega, by omega, zb.other hb (by omega) 5 _, f, fun i hi => ?_, fun i hi => absurd hi (Nat.not_lt_zero _)⟩; have hh : ∀ q, q ≠ gx -> (w3.setCell ⟨gx, 5, none⟩ (.slice B n cap3)).heap[q]? = w3.heap[q]? := fun q hq => Below.heap_setCell w3 ⟨gx, 5, none⟩ _ q hq
    exact (hc i hi).agr (S := fun q => q ≠ gx) (fun q hq _ => hh q hq) (by omega)
  refine zc (fun Y => zb Y gx 27 #[.int .i64 k, .int .i64 v.k, .int .i64 v.n, .string v.s, .int .i64 (c + by'), .slice B n cap3] /\ zb Y (gx + 1) 27 #[.int .i64 0, .int .i64 0, .int .i64 0, .string ⟨#[]⟩, .int .i64 0, .slice none 0 0] /\ Mv S w Y gx (gx + 1) B n 0 by' kid kid /\ za w Y) ⟨Bx4, zb.other Br3 n1 5 _, mv0, za.set (G.trans hg3) hge _⟩ ?_; clear mv0 hrow hg3 Bx3 Br3 Bx4 lx lr bx fx lx3 Bx Br cl; rintro Y ⟨Bx, Br, mv, GY⟩; have BX := Lib.hid Bx; have MV := Lib.hid mv; obtain ⟨bx, fx⟩ := Bx.rules; have lx := Bx.lt; clear mv; go_wp2; clear bx fx lx Bx
  go_loopw [22] (fun i wr => ∃ (j : Nat) (F : Nat -> E), j <= n /\ i = .int .i64 j /\ zb wr gx 27 #[.int .i64 k, .int .i64 v.k, .int .i64 v.n, .string v.s, .int .i64 (c + by'), .slice B n cap3] /\ zb wr (gx + 1) 27 #[.int .i64 0, .int .i64 0, .int .i64 0, .string ⟨#[]⟩, .int .i64 0, .slice none 0 0] /\ Mv S w wr gx (gx + 1) B n j by' kid F /\ za w wr) (fun i _ => n - (intOf i).toNat)
  case atStart => exact ⟨0, kid, Nat.zero_le _, rfl, BX.out, Br, MV.out, GY⟩
  case round =>
   clear MV BX Br; obtain ⟨j, F, hj, rfl, Bx, Br, mv, Gr⟩ := hrel; have BX := Lib.hid Bx; have BR := Lib.hid Br; have MV := Lib.hid mv; obtain ⟨bx, fx⟩ := Bx.rules; have lx := Bx.lt; have lr := Br.lt
   by_cases hlt : j < n
   ·rcases mv.row with ⟨h0, _⟩ | ⟨g, cur, rfl, b1, b2, b3, hb, hsz, hcs, hks⟩
    ·omega
    ·have hcj := hcs j hlt; rw [mv.todo j (Nat.le_refl _)] at hcj; obtain ⟨c0, c1, c2, c3, c4, c5⟩ := hcj; have HB := Lib.hid hb; have HSZ := Lib.hid hsz; clear hcs hks hb hsz mv Bx Br; go_upto_region 7 with fail
     refine zc (fun Z => zb Z wr.heap.size 27 #[.int .i64 (kid j).kind, .int .i64 (kid j).v.k, .int .i64 (kid j).v.n, .string (kid j).v.s, .int .i64 (kid j).col, .slice (kid j).A (kid j).n (kid j).cap] /\ za wr Z) ⟨zb.new _ _ _, (za.refl wr).al _⟩ ?_; rintro Z ⟨BZ, gZ⟩; have BZ' := Lib.hid BZ; have S0 : Nat -> Prop := fun q => S q /\ q < w.heap.size
     have cj := fun W (h : za Z W) => IH.out j (fun q => S q /\ q < w.heap.size) W (HW.out.2.2 j hlt) (((HE.out.kid hlt).mono (T := fun q => S q /\ q < w.heap.size) (fun q hq hs => ⟨hs, hq⟩)).grow (Gr.trans (gZ.trans h))) (xO HCol.out hlt)
     unfold E.val ME at cj; clear c0 c1 c2 c3 c4 c5 bx fx BZ; generalize wr.heap.size = gz at *; apply wp_region_calm 7 (by kernel_rfl) (by kernel_rfl)
     case h' =>
      intro Q0 hQ0; simp only [List.take_succ_cons, List.take_zero]
      repeat ((first | ((first | apply calm_p rfl | apply zg rfl rfl rfl); case h1 => (intro w1 hw1 hF K hK; obtain ⟨bx, fx⟩ := ((BX.out.grow gZ).grow hw1).rules; obtain ⟨bz, fz⟩ := (BZ'.out.grow hw1).rules; go_simp; first | exact hK _ (za.refl _))) | apply ze rfl rfl rfl rfl); intro K hK; go_simp; apply hK; clear hK K)
      apply calm_fp (PM (fun q => S q /\ q < w.heap.size) Z by' (kid j)) rfl
      case h1 =>
       intro w1 hw1 hF K hK; go_simp
       go_at_call 172
       refine (cj w1 hw1).mono ?_; rintro en w' ⟨r, rfl, hr, hn, hg'⟩; exact ⟨_, rfl, hK _ _ hg' ⟨r, rfl, hr.mono (fun q _ hq => hq.imp id (fun h => Nat.le_trans hw1.size h)), hn⟩⟩
      intro v32 K hK; go_simp; apply hK; clear hK K
      repeat ((first | ((first | apply calm_p rfl | apply zg rfl rfl rfl); case h1 => (intro w1 hw1 hF K hK; skip; go_simp; first | exact hK _ (za.refl _))) | apply ze rfl rfl rfl rfl); intro K hK; go_simp; apply hK; clear hK K)
      refine calm_nil ?_; intro w1 hw1 hF; apply hQ0; clear hQ0; simp only [List.drop_succ_cons, List.drop_zero]; obtain ⟨r, hv, hr, hnr⟩ := hF _ (List.mem_cons_self ..); subst hv; clear hF cj; have mv1 := (MV.out.grow gZ).grow hw1; have zs := gZ.size
      have hput := mv1.put hlt (hr.mono (T := fun q => (S q /\ q < w.heap.size) \/ (w.heap.size <= q /\ q ≠ g /\ q ≠ gx /\ q ≠ gx + 1)) (fun q _ hq => by
       rcases hq with h | h
       ·exact .inl h
       ·have l1 := (HB.out.grow gZ).lt; have l2 := (BX.out.grow gZ).lt; have l3 := (BR.out.grow gZ).lt
        exact .inr ⟨by omega, by omega, by omega, by omega⟩)) hnr
      have HP := Lib.hid hput; have GP := Lib.hid (Ym (Gr.trans (gZ.trans hw1)) b1 (j * 6) r); have BXP := Lib.hid (zb.far9 ((BX.out.grow gZ).grow hw1) b2 (j * 6) r); have BRP := Lib.hid (zb.far9 ((BR.out.grow gZ).grow hw1) b3 (j * 6) r); have hb1 := (HB.out.grow gZ).grow hw1; obtain ⟨bg, fg⟩ := hb1.rules; have szj : j * 6 + 6 <= cur.size := by have := HSZ.out; omega
      have gl := hb1.lt; have cc := zbH hb1 szj; obtain ⟨u0, u1, u2, u3, u4, u5, k0, k1, k2, k3, k4, k5⟩ := cc; clear mv1 hput bg hb1 hr hnr hge zs szj b1 b2 b3 n1 n1'; go_wp2; go_roundw
      case rel => exact ⟨j + 1, _, by omega, by go_num, BXP.out, BRP.out, HP.out, GP.out⟩
      case measure => simp [intOf]; omega
     case hp' => exact ⟨PM.pers _ _ _ _, trivial⟩
   ·obtain rfl : j = n := by omega
    have fin := mv.fin (cap' := cap3) (c' := (c + by')) (k := k) (v := v) (c := c) (cap := cap) (A := A) HE.out HCI.out HCC.out; have Fin := Lib.hid fin; clear fin mv; obtain ⟨br, fr⟩ := Br.rules; clear hge n1 n1'; go_wp2; have B3 := (((((BR.out.set 0 (.int .i64 k)).set 1 (.int .i64 v.k)).set 2 (.int .i64 v.n)).set 3 (.string v.s)).set 4 (.int .i64 (c + by'))).set 5 (.slice B j cap3); simp only [List.setIfInBounds_toArray, List.set_cons_zero, List.set_cons_succ] at B3; obtain ⟨b3, f3⟩ := B3.rules; have G3 := Ym (g := gx + 1) Gr (by omega) 0 (.mk k v (c + by') B j cap3 F); refine bodyPost_ret (v := (E.mk k v (c + by') B j cap3 F).val) (by simp [results, Tryz.results172, go_sem, b3, E.val, E.kind, E.v, E.col, E.A, E.n, E.cap]) rfl ⟨E.mk k v (c + by') B j cap3 F, rfl, ?_, Fin.out.2, G3⟩; have h1 := Fin.out.1.move (w' := SL wr (gx + 1) 0 (.mk k v (c + by') B j cap3 F)) (fun q hq _ => Yn wr (gx + 1) 0 _ (by rcases hq with h | h; omega; exact h.2.2)) (by rw [Yo]; exact Nat.le_refl _); exact h1.mono (fun q _ hq => hq.imp And.left And.left)
 ·have dk : (k == 2) = false := by simpa using hk
  have HCI := Lib.hid hci; have HCC := Lib.hid (show c = if k = 2 then c + by' else c by rw [if_neg hk]); clear hk hci hcc2 hW2; go_upto_region 3 with fail
  refine zc (fun X => zb X w.heap.size 27 #[.int .i64 k, .int .i64 v.k, .int .i64 v.n, .string v.s, .int .i64 c, .slice A n cap] /\ zb X (w.heap.size + 1) 27 #[.int .i64 0, .int .i64 0, .int .i64 0, .string ⟨#[]⟩, .int .i64 0, .slice none 0 0] /\ za w X) ⟨(zb.new _ _ _).al _, zb.new' _ _ _ (by simp), (by with_reducible repeat (first | exact za.refl _ | assumption | refine za.set ?_ (by simp <;> omega) _ | refine za.al ?_ _ | refine za.drew ?_ | refine za.drewN ?_ _ | refine za.trans ?_ (by assumption)))⟩ ?_; rintro X ⟨Bx, Br, G⟩; obtain ⟨gx, hgx⟩ : ∃ gx, w.heap.size = gx := ⟨_, rfl⟩
  have hge : w.heap.size <= gx := by omega
  rw [hgx] at Bx Br ⊢; have n1 : gx ≠ gx + 1 := by omega
  have n1' : gx + 1 ≠ gx := by omega
  have lx := Bx.lt; have lr := Br.lt; obtain ⟨bx, fx⟩ := Bx.rules; go_upto_region 4 with (go_at_call 204; ((with_reducible refine (cl _ G).mono ?_); rintro en w3 ⟨B, cap3, rfl, hrow, hg3⟩; have Bx3 := Bx.grow hg3; have Br3 := Br.grow hg3; clear bx fx; obtain ⟨bx, fx⟩ := Bx3.rules; have lx3 := Bx3.lt)); have Bx4 := Bx3.set 5 (.slice B n cap3); simp only [List.setIfInBounds_toArray, List.set_cons_zero, List.set_cons_succ] at Bx4
  have mv0 : Mv S w (w3.setCell ⟨gx, 5, none⟩ (.slice B n cap3)) gx (gx + 1) B n 0 by' kid kid := by
   refine ⟨?_, fun i hi => absurd hi (Nat.not_lt_zero _), fun i _ => rfl⟩; rcases hrow with h | ⟨g, cur, e, b, hb, f, hc⟩
   ·exact .inl h
   ·have lg := G.size; refine .inr ⟨g, cur, e, by omega, by omega, by omega, zb.other hb (by omega) 5 _, f, fun i hi => ?_, fun i hi => absurd hi (Nat.not_lt_zero _)⟩; have hh : ∀ q, q ≠ gx -> (w3.setCell ⟨gx, 5, none⟩ (.slice B n cap3)).heap[q]? = w3.heap[q]? := fun q hq => Below.heap_setCell w3 ⟨gx, 5, none⟩ _ q hq
    exact (hc i hi).agr (S := fun q => q ≠ gx) (fun q hq _ => hh q hq) (by omega)
  refine zc (fun Y => zb Y gx 27 #[.int .i64 k, .int .i64 v.k, .int .i64 v.n, .string v.s, .int .i64 c, .slice B n cap3] /\ zb Y (gx + 1) 27 #[.int .i64 0, .int .i64 0, .int .i64 0, .string ⟨#[]⟩, .int .i64 0, .slice none 0 0] /\ Mv S w Y gx (gx + 1) B n 0 by' kid kid /\ za w Y) ⟨Bx4, zb.other Br3 n1 5 _, mv0, za.set (G.trans hg3) hge _⟩ ?_; clear mv0 hrow hg3 Bx3 Br3 Bx4 lx lr bx fx lx3 Bx Br cl; rintro Y ⟨Bx, Br, mv, GY⟩; have BX := Lib.hid Bx; have MV := Lib.hid mv; obtain ⟨bx, fx⟩ := Bx.rules; have lx := Bx.lt; clear mv; go_wp2; clear bx fx lx Bx
  go_loopw [22] (fun i wr => ∃ (j : Nat) (F : Nat -> E), j <= n /\ i = .int .i64 j /\ zb wr gx 27 #[.int .i64 k, .int .i64 v.k, .int .i64 v.n, .string v.s, .int .i64 c, .slice B n cap3] /\ zb wr (gx + 1) 27 #[.int .i64 0, .int .i64 0, .int .i64 0, .string ⟨#[]⟩, .int .i64 0, .slice none 0 0] /\ Mv S w wr gx (gx + 1) B n j by' kid F /\ za w wr) (fun i _ => n - (intOf i).toNat)
  case atStart => exact ⟨0, kid, Nat.zero_le _, rfl, BX.out, Br, MV.out, GY⟩
  case round =>
   clear MV BX Br; obtain ⟨j, F, hj, rfl, Bx, Br, mv, Gr⟩ := hrel; have BX := Lib.hid Bx; have BR := Lib.hid Br; have MV := Lib.hid mv; obtain ⟨bx, fx⟩ := Bx.rules; have lx := Bx.lt; have lr := Br.lt
   by_cases hlt : j < n
   ·rcases mv.row with ⟨h0, _⟩ | ⟨g, cur, rfl, b1, b2, b3, hb, hsz, hcs, hks⟩
    ·omega
    ·have hcj := hcs j hlt; rw [mv.todo j (Nat.le_refl _)] at hcj; obtain ⟨c0, c1, c2, c3, c4, c5⟩ := hcj; have HB := Lib.hid hb; have HSZ := Lib.hid hsz; clear hcs hks hb hsz mv Bx Br; go_upto_region 7 with fail
     refine zc (fun Z => zb Z wr.heap.size 27 #[.int .i64 (kid j).kind, .int .i64 (kid j).v.k, .int .i64 (kid j).v.n, .string (kid j).v.s, .int .i64 (kid j).col, .slice (kid j).A (kid j).n (kid j).cap] /\ za wr Z) ⟨zb.new _ _ _, (za.refl wr).al _⟩ ?_; rintro Z ⟨BZ, gZ⟩; have BZ' := Lib.hid BZ; have S0 : Nat -> Prop := fun q => S q /\ q < w.heap.size
     have cj := fun W (h : za Z W) => IH.out j (fun q => S q /\ q < w.heap.size) W (HW.out.2.2 j hlt) (((HE.out.kid hlt).mono (T := fun q => S q /\ q < w.heap.size) (fun q hq hs => ⟨hs, hq⟩)).grow (Gr.trans (gZ.trans h))) (xO HCol.out hlt)
     unfold E.val ME at cj; clear c0 c1 c2 c3 c4 c5 bx fx BZ; generalize wr.heap.size = gz at *; apply wp_region_calm 7 (by kernel_rfl) (by kernel_rfl)
     case h' =>
      intro Q0 hQ0; simp only [List.take_succ_cons, List.take_zero]
      repeat ((first | ((first | apply calm_p rfl | apply zg rfl rfl rfl); case h1 => (intro w1 hw1 hF K hK; obtain ⟨bx, fx⟩ := ((BX.out.grow gZ).grow hw1).rules; obtain ⟨bz, fz⟩ := (BZ'.out.grow hw1).rules; go_simp; first | exact hK _ (za.refl _))) | apply ze rfl rfl rfl rfl); intro K hK; go_simp; apply hK; clear hK K)
      apply calm_fp (PM (fun q => S q /\ q < w.heap.size) Z by' (kid j)) rfl
      case h1 =>
       intro w1 hw1 hF K hK; go_simp
       go_at_call 172
       refine (cj w1 hw1).mono ?_; rintro en w' ⟨r, rfl, hr, hn, hg'⟩; exact ⟨_, rfl, hK _ _ hg' ⟨r, rfl, hr.mono (fun q _ hq => hq.imp id (fun h => Nat.le_trans hw1.size h)), hn⟩⟩
      intro v32 K hK; go_simp; apply hK; clear hK K
      repeat ((first | ((first | apply calm_p rfl | apply zg rfl rfl rfl); case h1 => (intro w1 hw1 hF K hK; skip; go_simp; first | exact hK _ (za.refl _))) | apply ze rfl rfl rfl rfl); intro K hK; go_simp; apply hK; clear hK K)
      refine calm_nil ?_; intro w1 hw1 hF; apply hQ0; clear hQ0; simp only [List.drop_succ_cons, List.drop_zero]; obtain ⟨r, hv, hr, hnr⟩ := hF _ (List.mem_cons_self ..); subst hv; clear hF cj; have mv1 := (MV.out.grow gZ).grow hw1; have zs := gZ.size
      have hput := mv1.put hlt (hr.mono (T := fun q => (S q /\ q < w.heap.size) \/ (w.heap.size <= q /\ q ≠ g /\ q ≠ gx /\ q ≠ gx + 1)) (fun q _ hq => by
       rcases hq with h | h
       ·exact .inl h
       ·have l1 := (HB.out.grow gZ).lt; have l2 := (BX.out.grow gZ).lt; have l3 := (BR.out.grow gZ).lt
        exact .inr ⟨by omega, by omega, by omega, by omega⟩)) hnr
      have HP := Lib.hid hput; have GP := Lib.hid (Ym (Gr.trans (gZ.trans hw1)) b1 (j * 6) r); have BXP := Lib.hid (zb.far9 ((BX.out.grow gZ).grow hw1) b2 (j * 6) r); have BRP := Lib.hid (zb.far9 ((BR.out.grow gZ).grow hw1) b3 (j * 6) r); have hb1 := (HB.out.grow gZ).grow hw1; obtain ⟨bg, fg⟩ := hb1.rules; have szj : j * 6 + 6 <= cur.size := by have := HSZ.out; omega
      have gl := hb1.lt; have cc := zbH hb1 szj; obtain ⟨u0, u1, u2, u3, u4, u5, k0, k1, k2, k3, k4, k5⟩ := cc; clear mv1 hput bg hb1 hr hnr hge zs szj b1 b2 b3 n1 n1'; go_wp2; go_roundw
      case rel => exact ⟨j + 1, _, by omega, by go_num, BXP.out, BRP.out, HP.out, GP.out⟩
      case measure => simp [intOf]; omega
     case hp' => exact ⟨PM.pers _ _ _ _, trivial⟩
   ·obtain rfl : j = n := by omega
    have fin := mv.fin (cap' := cap3) (c' := c) (k := k) (v := v) (c := c) (cap := cap) (A := A) HE.out HCI.out HCC.out; have Fin := Lib.hid fin; clear fin mv; obtain ⟨br, fr⟩ := Br.rules; clear hge n1 n1'; go_wp2; have B3 := (((((BR.out.set 0 (.int .i64 k)).set 1 (.int .i64 v.k)).set 2 (.int .i64 v.n)).set 3 (.string v.s)).set 4 (.int .i64 c)).set 5 (.slice B j cap3); simp only [List.setIfInBounds_toArray, List.set_cons_zero, List.set_cons_succ] at B3; obtain ⟨b3, f3⟩ := B3.rules; have G3 := Ym (g := gx + 1) Gr (by omega) 0 (.mk k v c B j cap3 F); refine bodyPost_ret (v := (E.mk k v c B j cap3 F).val) (by simp [results, Tryz.results172, go_sem, b3, E.val, E.kind, E.v, E.col, E.A, E.n, E.cap]) rfl ⟨E.mk k v c B j cap3 F, rfl, ?_, Fin.out.2, G3⟩; have h1 := Fin.out.1.move (w' := SL wr (gx + 1) 0 (.mk k v c B j cap3 F)) (fun q hq _ => Yn wr (gx + 1) 0 _ (by rcases hq with h | h; omega; exact h.2.2)) (by rw [Yo]; exact Nat.le_refl _); exact h1.mono (fun q _ hq => hq.imp And.left And.left)
theorem U4 (by' : Int) (hb0 : -100 <= by') (hb1 : by' <= 0) (e : E) : zac by' e := by
 induction e with
 | leaf => intro S w hw; exact absurd hw id
 | mk k v c A n cap kid ih => exact CI by' hb0 hb1 k v c A n cap kid ih
end Go.Proofs.YtcaedcpjdmlilaaGreat

