/-
  Joined texts of this claim: Rw1, Rw2, Rw3, Rw4, Rw5, Rw6. What each proves its own head says; no condition beside those that each theorem names.
-/
import Derived.Test.YtpgpecdiajmgmaaGWa
import Derived.Test.YtpgpecdiajmgmaaGQ
import Derived.BigRegion
namespace Go.Proofs.Ytpgpecdiajmgmaa
open Go.RowKit Go.Calm
set_option linter.unusedSimpArgs false
set_option linter.unusedVariables false

def nE : E → E
  | .leaf => .leaf
  | .mk k v c _ n _ kid => .mk k v c none n 0 (fun i => if i < n then nE (kid i) else .leaf)
def nA (a : Ag) : Ag := ⟨a.k, nE a.x⟩
def mkP (k n : Int) (x : E) (xs : List E) (ag : List Ag) (m : Nat) (kid : Nat → PL) : PL := .mk k n x ⟨none, xs, 0⟩ ⟨none, ag, 0⟩ none m 0 (fun i => if i < m then kid i else .leaf)
def nP : PL → PL
  | .leaf => .leaf
  | .mk k n x xs ag _ m _ kid => mkP k n (nE x) (xs.l.map nE) (ag.l.map nA) m (fun i => nP (kid i))
theorem nE_leaf : nE .leaf = .leaf := rfl
theorem nE_mk (k : Int) (v : V) (c : Int) (A : Option Addr) (n cap : Nat) (kid : Nat → E) : nE (.mk k v c A n cap kid) = .mk k v c none n 0 (fun i => if i < n then nE (kid i) else .leaf) := rfl
theorem nE_kind (e : E) : (nE e).kind = e.kind := by cases e <;> rfl
theorem nE_v (e : E) : (nE e).v = e.v := by cases e <;> rfl
theorem nP_k (p : PL) : (nP p).k = p.k := by cases p <;> rfl
theorem typKids_congr {f g : Nat → Int → Int × Int × Int} : ∀ (r i : Nat) (m : Int) (ts : List Int), (∀ j m, i ≤ j → j < i + r → f j m = g j m) → typKids f r i m ts = typKids g r i m ts
  | 0, i, m, ts, _ => rfl
  | r + 1, i, m, ts, h => by
    unfold typKids
    rw [h i m (Nat.le_refl _) (by omega)]
    split
    · exact typKids_congr r (i + 1) _ _ (fun j m h1 h2 => h j m (by omega) (by omega))
    · rfl
theorem kidsGo_congr {α : Type} {f g : Nat → Int → α × Int × Int} : ∀ (r i : Nat) (m : Int) (ts : List α), (∀ j m, i ≤ j → j < i + r → f j m = g j m) → kidsGo f r i m ts = kidsGo g r i m ts
  | 0, i, m, ts, _ => rfl
  | r + 1, i, m, ts, h => by
    unfold kidsGo
    rw [h i m (Nat.le_refl _) (by omega)]
    split
    · exact kidsGo_congr r (i + 1) _ _ (fun j m h1 h2 => h j m (by omega) (by omega))
    · rfl
theorem typE_nE (cols : List Int) (e : E) : ∀ deep m, typE cols (nE e) deep m = typE cols e deep m := by
  induction e with
  | leaf => intro deep m; rfl
  | mk k v c A n cap kid ih =>
    intro deep m
    rw [nE_mk]
    unfold typE
    rw [typKids_congr (f := fun i m' => typE cols (if i < n then nE (kid i) else .leaf) (deep + 1) m') (g := fun i m' => typE cols (kid i) (deep + 1) m') n 0 (m + 1) [] (fun j m h1 h2 => by
      rw [if_pos (by omega)]
      exact ih j _ _)]
theorem typeE_nE (cols : List Int) (e : E) : typeE cols (nE e) = typeE cols e := by unfold typeE; rw [typE_nE]
theorem condE_nE (cols : List Int) (e : E) : condE cols (nE e) = condE cols e := by unfold condE; rw [typeE_nE]
theorem typesE_nE (cols : List Int) (xs : List E) : typesE cols (xs.map nE) = typesE cols xs := by
  have h : ∀ l : List E, typesGo cols (l.map nE) = typesGo cols l := fun l => by
    induction l with
    | nil => rfl
    | cons x l ih => simp only [List.map_cons, typesGo, typeE_nE, ih]
  unfold typesE
  rw [List.length_map, h]
theorem agTy_nA (cols : List Int) (a : Ag) : agTy cols (nA a) = agTy cols a := by unfold agTy nA; simp only [typeE_nE]
theorem aggE_nA (cols : List Int) : ∀ l : List Ag, aggE cols (l.map nA) = aggE cols l
  | [] => rfl
  | a :: l => by
    have h : agT cols (nA a) = agT cols a := by unfold agT nA; simp only [typeE_nE]
    simp only [List.map_cons, aggE, h, aggE_nA cols l]
theorem colT_n (ts : List (List Int)) (k n : Int) (x : E) (xs : List E) (ag : List Ag) (cs : List (List Int)) : colT ts k n (nE x) (xs.map nE) (ag.map nA) cs = colT ts k n x xs ag cs := by
  have e : (ag.map nA).map (agTy (cs.getD 0 [])) = ag.map (agTy (cs.getD 0 [])) := by
    rw [List.map_map]; exact List.map_congr_left (fun a _ => agTy_nA _ a)
  unfold colT groupedE
  rw [condE_nE, condE_nE, typesE_nE, aggE_nA, e, List.length_map, List.length_map]
theorem colP_nP (ts : List (List Int)) (p : PL) : ∀ deep m, colP ts (nP p) deep m = colP ts p deep m := by
  induction p with
  | leaf => intro deep m; rfl
  | mk k n x xs ag A mm cap kid ih =>
    intro deep m
    unfold nP mkP
    unfold colP
    rw [kidsGo_congr (f := fun i m' => colP ts (if i < mm then nP (kid i) else .leaf) (deep + 1) m') (g := fun i m' => colP ts (kid i) (deep + 1) m') mm 0 (m + 1) [] (fun j m h1 h2 => by
      rw [if_pos (by omega)]
      exact ih j _ _)]
    simp only [colT_n]
theorem colsE_nP (ts : List (List Int)) (p : PL) : colsE ts (nP p) = colsE ts p := by unfold colsE; rw [colP_nP]
def andE (x y : E) : E := .mk 4 ⟨0, 0, es⟩ 0 none 2 0 (fun i => if i = 0 then x else if i = 1 then y else .leaf)
def litT (x : E) : Bool := decide (x.kind = 1) && decide (x.v.k = 2) && decide (x.v.n = 1)
def colsAll (f : Int → Bool) : E → Bool
  | .leaf => true
  | .mk k _ c _ n _ kid => (if k = 2 then f c else true) && (List.range n).all (fun i => colsAll f (kid i))
def movE (by' : Int) : E → E
  | .leaf => .leaf
  | .mk k v c _ n _ kid => .mk k v (if k = 2 then c + by' else c) none n 0 (fun i => if i < n then movE by' (kid i) else .leaf)
def fltP (x : E) (p : PL) : PL := mkP 2 0 x [] [] 1 (fun _ => p)
def pushP (ts : List (List Int)) : PL → E → PL
  | .leaf, x => if litT x then .leaf else fltP x .leaf
  | .mk k n y xs ag A m cap kid, x =>
    if litT x then .mk k n y xs ag A m cap kid
    else if k = 2 then (if (typeE (colsE ts (kid 0)).1 (andE y x)).2 = 0 then fltP (andE y x) (kid 0) else fltP x (.mk k n y xs ag A m cap kid))
    else if k = 8 ∨ k = 9 then mkP k 0 .leaf [] [] 2 (fun i => if i = 0 then pushP ts (kid 0) x else pushP ts (kid 1) x)
    else if k = 10 ∨ k = 11 then mkP k 0 .leaf [] [] 1 (fun _ => pushP ts (kid 0) x)
    else if k = 5 ∨ k = 6 then mkP k n y xs.l ag.l 2 (fun i => if i = 0 then pushP ts (kid 0) x else kid 1)
    else if k = 4 then
      if colsAll (fun c => decide (c < ((colsE ts (kid 0)).1.length : Int))) x then mkP k n y xs.l ag.l 2 (fun i => if i = 0 then pushP ts (kid 0) x else kid 1)
      else if colsAll (fun c => decide (((colsE ts (kid 0)).1.length : Int) ≤ c)) x then mkP k n y xs.l ag.l 2 (fun i => if i = 0 then kid 0 else pushP ts (kid 1) (movE (-((colsE ts (kid 0)).1.length : Int)) x))
      else if (typeE (colsE ts (.mk k n y xs ag A m cap kid)).1 (andE y x)).2 = 0 then mkP k n (andE y x) xs.l ag.l m kid
      else fltP x (.mk k n y xs ag A m cap kid)
    else fltP x (.mk k n y xs ag A m cap kid)
def planP (ts : List (List Int)) : PL → PL
  | .leaf => .leaf
  | .mk k n y xs ag _ m _ kid =>
    if k = 2 then pushP ts (planP ts (kid 0)) y
    else if k = 10 ∨ k = 11 then
      if (planP ts (kid 0)).k = 11 ∨ (planP ts (kid 0)).k = k then planP ts (kid 0)
      else if (planP ts (kid 0)).k = 10 then mkP k 0 .leaf [] [] 1 (fun _ => (planP ts (kid 0)).kid 0)
      else mkP k n y xs.l ag.l m (fun i => planP ts (kid i))
    else mkP k n y xs.l ag.l m (fun i => planP ts (kid i))
end Go.Proofs.Ytpgpecdiajmgmaa

namespace Go.Proofs.Ytpgpecdiajmgmaa
open Go.RowKit Go.Calm
set_option linter.unusedSimpArgs false
set_option linter.unusedVariables false

abbrev pC (p : PL) : Array Value := #[.int .i64 p.k, .int .i64 p.n, .int .i64 p.x.kind, .int .i64 p.x.v.k, .int .i64 p.x.v.n, .string p.x.v.s, .int .i64 p.x.col, .slice p.x.A p.x.n p.x.cap, .slice p.xs.A p.xs.l.length p.xs.c, .slice p.ag.A p.ag.l.length p.ag.c, .slice p.A p.m p.cap]
abbrev pC2 (p q : PL) : Array Value := #[.int .i64 p.k, .int .i64 p.n, .int .i64 p.x.kind, .int .i64 p.x.v.k, .int .i64 p.x.v.n, .string p.x.v.s, .int .i64 p.x.col, .slice p.x.A p.x.n p.x.cap, .slice p.xs.A p.xs.l.length p.xs.c, .slice p.ag.A p.ag.l.length p.ag.c, .slice p.A p.m p.cap,
  .int .i64 q.k, .int .i64 q.n, .int .i64 q.x.kind, .int .i64 q.x.v.k, .int .i64 q.x.v.n, .string q.x.v.s, .int .i64 q.x.col, .slice q.x.A q.x.n q.x.cap, .slice q.xs.A q.xs.l.length q.xs.c, .slice q.ag.A q.ag.l.length q.ag.c, .slice q.A q.m q.cap]
theorem pc_one {w : World} {g : Nat} {t : TypeId} {p : PL} (h : Blk w g t (pC p)) : PCells w g 0 p := ⟨h.cells rfl, h.cells rfl, h.cells rfl, h.cells rfl, h.cells rfl, h.cells rfl, h.cells rfl, h.cells rfl, h.cells rfl, h.cells rfl, h.cells rfl⟩
theorem pc_two {w : World} {g : Nat} {t : TypeId} {p q : PL} (h : Blk w g t (pC2 p q)) : PCells w g 0 p ∧ PCells w g 11 q := ⟨⟨h.cells rfl, h.cells rfl, h.cells rfl, h.cells rfl, h.cells rfl, h.cells rfl, h.cells rfl, h.cells rfl, h.cells rfl, h.cells rfl, h.cells rfl⟩, ⟨h.cells rfl, h.cells rfl, h.cells rfl, h.cells rfl, h.cells rfl, h.cells rfl, h.cells rfl, h.cells rfl, h.cells rfl, h.cells rfl, h.cells rfl⟩⟩
structure NX (w : World) (k n : Int) (x : E) (xs : XsS) (ag : AgS) : Prop where
  hx : EX w x
  hs : ESl w xs.A xs.l
  ha : AgSl w ag.A ag.l
  hl : xs.l.length ≤ reachN ∧ ag.l.length ≤ reachN
  hi : inI64 k ∧ inI64 n
theorem NX.grow {w w' : World} (hg : Grow w w') {k n : Int} {x : E} {xs : XsS} {ag : AgS} (h : NX w k n x xs ag) : NX w' k n x xs ag := ⟨h.hx.grow hg, h.hs.grow hg, h.ha.grow hg, h.hl, h.hi⟩
abbrev nilX : XsS := ⟨none, [], 0⟩
abbrev nilG : AgS := ⟨none, [], 0⟩
theorem nx_zero {w : World} {k : Int} (hk : inI64 k) : NX w k 0 .leaf nilX nilG := ⟨.leaf, fun i x h => by simp at h, fun i x h => by simp at h, by decide, hk, by decide, by decide⟩
theorem PX.nx {w : World} {k n : Int} {x : E} {xs : XsS} {ag : AgS} {A : Option Addr} {m cap : Nat} {kid : Nat → PL} (h : PX w (.mk k n x xs ag A m cap kid)) : NX w k n x xs ag := by
  cases h with
  | mk hm hc hk hx hs ha hl hi => exact ⟨hx, hs, ha, hl, hi⟩
def one1 (k n : Int) (x : E) (xs : XsS) (ag : AgS) (g cap : Nat) (p : PL) : PL := .mk k n x xs ag (some ⟨g, 0, none⟩) 1 cap (fun _ => p)
def two2 (k n : Int) (x : E) (xs : XsS) (ag : AgS) (g cap : Nat) (p q : PL) : PL := .mk k n x xs ag (some ⟨g, 0, none⟩) 2 cap (fun i => if i = 0 then p else q)
theorem px_one {w : World} {k n : Int} {x : E} {xs : XsS} {ag : AgS} {g : Nat} {t : TypeId} {p : PL} (cap : Nat) (h : Blk w g t (pC p)) (hn : NX w k n x xs ag) (hp : PX w p) : PX w (one1 k n x xs ag g cap p) :=
  .mk (by decide) (fun i hi => ⟨g, 0, rfl, by obtain rfl : i = 0 := by omega
                                              simpa using pc_one h⟩) (fun i hi => hp) hn.hx hn.hs hn.ha hn.hl hn.hi
theorem px_two {w : World} {k n : Int} {x : E} {xs : XsS} {ag : AgS} {g : Nat} {t : TypeId} {p q : PL} (cap : Nat) (h : Blk w g t (pC2 p q)) (hn : NX w k n x xs ag) (hp : PX w p) (hq : PX w q) : PX w (two2 k n x xs ag g cap p q) :=
  .mk (by decide) (fun i hi => by
    match i, hi with
    | 0, _ => exact ⟨g, 0, rfl, by simpa using (pc_two h).1⟩
    | 1, _ => exact ⟨g, 0, rfl, by simpa using (pc_two h).2⟩) (fun i hi => by
    match i, hi with
    | 0, _ => exact hp
    | 1, _ => exact hq) hn.hx hn.hs hn.ha hn.hl hn.hi
theorem nP_one (k n : Int) (x : E) (xs : XsS) (ag : AgS) (g cap : Nat) (p : PL) : nP (one1 k n x xs ag g cap p) = mkP k n (nE x) (xs.l.map nE) (ag.l.map nA) 1 (fun _ => nP p) := rfl
theorem mkP_congr {k n : Int} {x : E} {xs : List E} {ag : List Ag} {m : Nat} {f g : Nat → PL} (h : ∀ i, i < m → f i = g i) : mkP k n x xs ag m f = mkP k n x xs ag m g := by
  unfold mkP
  congr 1
  funext i
  by_cases hi : i < m
  · simp only [if_pos hi]; exact h i hi
  · simp only [if_neg hi]
theorem nP_two (k n : Int) (x : E) (xs : XsS) (ag : AgS) (g cap : Nat) (p q : PL) : nP (two2 k n x xs ag g cap p q) = mkP k n (nE x) (xs.l.map nE) (ag.l.map nA) 2 (fun i => if i = 0 then nP p else nP q) :=
  mkP_congr (fun i _ => by by_cases h : i = 0 <;> simp [h])
set_option maxRecDepth 100000 in
theorem filterp_any (x : E) (p : PL) (w : World) (hx : EX w x) (hp : PX w p) :
    Calls Try.prog 93 #[x.val, p.val] w fun en w' => ∃ g : Nat, en = .returned (one1 2 0 x nilX nilG g 1 p).val ∧ w.heap.size ≤ g ∧ Blk w' g 31 (pC p) ∧ Grow w w' := by
  have HX := Lib.hid hx
  have HP := Lib.hid hp
  clear hx hp
  unfold E.val PL.val
  go_enter Try.func93, Try.ntmps93
  go_wp2
  refine bodyPost_ret (by simp [results, Try.results93, go_sem] <;> rfl) rfl ?_
  exact ⟨w.heap.size + 1 + 1 + 1, rfl, by omega, Blk.new' _ _ _ (by simp), (by repeat (first | (with_reducible exact Grow.refl _) | (with_reducible assumption) | (with_reducible refine Grow.set ?_ (by first | (simp; done) | (simp; omega)) _) | (with_reducible refine Grow.al ?_ _) | (with_reducible refine Grow.drew ?_) | (with_reducible refine Grow.drewN ?_ _) | (with_reducible refine Grow.trans ?_ (by assumption))))⟩
set_option maxRecDepth 100000 in
theorem node_any (k : Int) (A : Option Addr) (m cap : Nat) (kid : Nat → PL) (w : World) :
    Calls Try.prog 55 #[.int .i64 k, .slice A m cap] w fun en w' => en = .returned (PL.mk k 0 .leaf nilX nilG A m cap kid).val ∧ Grow w w' := by
  go_enter Try.func55, Try.ntmps55
  go_wp2
  refine bodyPost_ret (by simp [results, Try.results55, go_sem] <;> rfl) rfl ?_
  exact ⟨rfl, (by repeat (first | (with_reducible exact Grow.refl _) | (with_reducible assumption) | (with_reducible refine Grow.set ?_ (by first | (simp; done) | (simp; omega)) _) | (with_reducible refine Grow.al ?_ _) | (with_reducible refine Grow.drew ?_) | (with_reducible refine Grow.drewN ?_ _) | (with_reducible refine Grow.trans ?_ (by assumption))))⟩
theorem Blk.other {w : World} {g q : Nat} {t : TypeId} {cs : Array Value} (h : Blk w g t cs) (hne : q ≠ g) (j : Nat) (v : Value) : Blk (w.setCell ⟨q, j, none⟩ v) g t cs := by
  unfold Blk at h ⊢
  rw [Below.heap_setCell w ⟨q, j, none⟩ v g (Ne.symm hne)]
  exact h
structure WrS (w : World) (gw : Nat) (ts : List (L2 Int)) (At : Option Addr) (nt : Nat) : Prop where
  c : w.cell? ⟨gw, 0, none⟩ = some (.slice At ts.length nt)
  t : TSl w At ts
  l : ts.length ≤ reachN
  b : ∀ t ∈ ts, t.xs.length ≤ reachN
theorem WrS.grow {w w' : World} (hg : Grow w w') {gw : Nat} {ts : List (L2 Int)} {At : Option Addr} {nt : Nat} (h : WrS w gw ts At nt) : WrS w' gw ts At nt := ⟨hg.cell h.c, h.t.grow hg, h.l, h.b⟩
set_option maxRecDepth 100000 in
theorem wcols_any (ts : List (L2 Int)) (At : Option Addr) (nt gw : Nat) (p : PL) (w : World) (hw : WrS w gw ts At nt) (hp : PX w p) :
    Calls Try.prog 92 #[.pointer (some ⟨gw, 0, none⟩), p.val] w fun en w' => ∃ (B : Option Addr) (cap : Nat), en = .returned (.slice B (colsE (tabs ts) p).1.length cap) ∧ ISl w' B (colsE (tabs ts) p).1 ∧ Grow w w' := by
  have ct := fun W (h : Grow w W) => qcols_any ts At nt p W hw.l hw.b (hw.t.grow h) (hp.grow h)
  have c0 := hw.c
  unfold PL.val at ct ⊢
  clear hw hp
  go_enter Try.func92, Try.ntmps92
  go_upto_region 1 with fail
  refine wp_forget (fun X => Blk X w.heap.size 31 (pC p) ∧ Grow w X) ⟨Blk.new _ _ _, (by repeat (first | (with_reducible exact Grow.refl _) | (with_reducible assumption) | (with_reducible refine Grow.set ?_ (by first | (simp; done) | (simp; omega)) _) | (with_reducible refine Grow.al ?_ _) | (with_reducible refine Grow.drew ?_) | (with_reducible refine Grow.drewN ?_ _) | (with_reducible refine Grow.trans ?_ (by assumption))))⟩ ?_
  rintro X ⟨BX, G⟩
  have c1 := G.cell c0
  obtain ⟨R, hR⟩ : ∃ R, colsE (tabs ts) p = R := ⟨_, rfl⟩
  rw [hR] at ct
  have HR := Lib.hid hR
  apply wp_region_calm 11 (by kernel_rfl) (by kernel_rfl)
  case h' =>
    intro Q0 hQ0
    simp only [List.take_succ_cons, List.take_zero]
    repeat (
      first
        | (apply calm_p rfl; case h1 => (intro w1 hw1 hF K hK; have c2 := hw1.cell c1; obtain ⟨bx, fx⟩ := (BX.grow hw1).rules; go_simp; first | exact hK _ (Grow.refl _) | fail))
        | (apply calm_y rfl rfl rfl; case h1 => (intro w1 hw1 hF K hK; have c2 := hw1.cell c1; obtain ⟨bx, fx⟩ := (BX.grow hw1).rules; go_simp; first | exact hK _ (Grow.refl _) | fail))
        | apply calm_n rfl rfl rfl rfl
      intro K hK
      go_simp
      apply hK
      clear hK K)
    apply calm_fp (PT X R) rfl
    case h1 =>
      intro w1 hw1 hF K hK
      have c2 := hw1.cell c1
      obtain ⟨bx, fx⟩ := (BX.grow hw1).rules
      go_simp
      go_at_call 13
      refine (ct w1 (G.trans hw1)).mono ?_
      rintro en w' ⟨B, cap, rfl, hi, hn, hg'⟩
      exact ⟨_, rfl, hK _ _ hg' ⟨B, cap, rfl, hi, hn.of hw1⟩⟩
    intro v13 K hK
    go_simp
    apply hK
    clear hK K
    apply calm_fp (PT X R) rfl
    case h1 =>
      intro w1 hw1 hF K hK
      obtain ⟨B, cap, hv, hi, hn⟩ := hF _ (List.mem_cons_self ..) ⟨_, rfl, by decide⟩
      subst hv
      go_simp
      exact hK _ _ (Grow.refl _) ⟨B, cap, rfl, hi, hn⟩
    intro v7 K hK
    go_simp
    apply hK
    clear hK K
    apply calm_fp (PS X R.1) rfl
    case h1 =>
      intro w1 hw1 hF K hK
      obtain ⟨B, cap, hv, hi, hn⟩ := hF _ (List.mem_cons_self ..) ⟨_, rfl, by decide⟩
      subst hv
      go_simp
      exact hK _ _ (Grow.refl _) ⟨B, cap, rfl, hi, hn⟩
    intro v14 K hK
    go_simp
    apply hK
    clear hK K
    apply calm_p rfl
    case h1 =>
      intro w1 hw1 hF K hK
      obtain ⟨B, cap, hv, hi, hn⟩ := hF _ (List.mem_cons_of_mem _ (List.mem_cons_self ..)) ⟨_, rfl, by decide⟩
      subst hv
      go_simp
      exact hK _ (Grow.refl _)
    intro K hK
    go_simp
    apply hK
    clear hK K
    apply calm_fp (PS X R.1) rfl
    case h1 =>
      intro w1 hw1 hF K hK
      obtain ⟨B, cap, hv, hi, hn⟩ := hF _ (List.mem_cons_self ..) ⟨_, rfl, by decide⟩
      subst hv
      go_simp
      exact hK _ _ (Grow.refl _) ⟨B, cap, rfl, hi, hn⟩
    intro v5 K hK
    go_simp
    apply hK
    clear hK K
    repeat (
      first
        | (apply calm_p rfl; case h1 => (intro w1 hw1 hF K hK; skip; go_simp; first | exact hK _ (Grow.refl _) | fail))
        | (apply calm_y rfl rfl rfl; case h1 => (intro w1 hw1 hF K hK; skip; go_simp; first | exact hK _ (Grow.refl _) | fail))
        | apply calm_n rfl rfl rfl rfl
      intro K hK
      go_simp
      apply hK
      clear hK K)
    refine calm_nil ?_
    intro w1 hw1 hF
    apply hQ0
    clear hQ0
    simp only [List.drop_succ_cons, List.drop_zero]
    obtain ⟨B, cap, hv, hi, hn⟩ := hF _ (List.mem_cons_self ..)
    subst hv
    have Hi := Lib.hid hi
    clear hF hi hn
    go_wp2
    refine bodyPost_ret (by simp [results, Try.results92, go_sem] <;> rfl) rfl ?_
    rw [HR.out]
    exact ⟨B, cap, rfl, Hi.out, G.trans hw1⟩
  case hp' => exact ⟨PT.pers _ _, PT.pers _ _, PS.pers _ _, PS.pers _ _, trivial⟩
theorem nE_twoK (k : Int) (x y : E) (A : Option Addr) : nE (twoK k x y A) = .mk k zV 0 none 2 0 (fun i => if i = 0 then nE x else if i = 1 then nE y else .leaf) := by
  unfold twoK
  rw [nE_mk]
  congr 1
  funext i
  match i with
  | 0 => rfl
  | 1 => rfl
  | i + 2 => rw [if_neg (by omega)]; rfl
set_option maxRecDepth 100000 in
theorem both_anyE (cols : List Int) (Ac : Option Addr) (cc : Nat) (x y : E) (w : World) (hlen : cols.length ≤ 9223372036854775807) (hc : ISl w Ac cols) (hx : EX w x) (hy : EX w y) :
    Calls Try.prog 91 #[.slice Ac cols.length cc, x.val, y.val] w fun en w' => ∃ g : Nat, en = .returned (.tuple #[(twoK 4 x y (some ⟨g, 0, none⟩)).val, .bool (decide ((typeE cols (andE (nE x) (nE y))).2 = 0))]) ∧ w.heap.size ≤ g ∧ Blk w' g 27 #[.int .i64 x.kind, .int .i64 x.v.k, .int .i64 x.v.n, .string x.v.s, .int .i64 x.col, .slice x.A x.n x.cap, .int .i64 y.kind, .int .i64 y.v.k, .int .i64 y.v.n, .string y.v.s, .int .i64 y.col, .slice y.A y.n y.cap] ∧ Grow w w' := by
  have HX := Lib.hid hx
  have HY := Lib.hid hy
  have HC := Lib.hid hc
  clear hx hy hc
  unfold E.val
  have ez : ∀ A, typeE cols (twoK 4 x y A) = typeE cols (andE (nE x) (nE y)) := fun A => by rw [← typeE_nE cols (twoK 4 x y A), nE_twoK]; rfl
  obtain ⟨T, e, hT⟩ : ∃ T e, typeE cols (andE (nE x) (nE y)) = (T, e) := ⟨_, _, rfl⟩
  rw [hT]
  have ct := fun (g : Nat) W (hg : Grow w W) (hb : Blk W g 27 #[.int .i64 x.kind, .int .i64 x.v.k, .int .i64 x.v.n, .string x.v.s, .int .i64 x.col, .slice x.A x.n x.cap, .int .i64 y.kind, .int .i64 y.v.k, .int .i64 y.v.n, .string y.v.s, .int .i64 y.col, .slice y.A y.n y.cap]) => type_any cols Ac cc (twoK 4 x y (some ⟨g, 0, none⟩)) W hlen (HC.out.grow hg) (ex_two x y hb (HX.out.grow hg) (HY.out.grow hg) ⟨by decide, by decide⟩)
  simp only [ez, hT] at ct
  have ez2 : ∀ A, (twoK 4 x y A).val = .agg #[.int .i64 4, .int .i64 0, .int .i64 0, .string es, .int .i64 0, .slice A 2 2] := fun A => rfl
  simp only [ez2] at ct
  have CT := Lib.hid ct
  clear ct ez hT
  go_enter Try.func91, Try.ntmps91
  go_upto_region 2 with fail
  refine wp_forget (fun X => Blk X (w.heap.size + 1 + 1 + 1) 27 #[.int .i64 x.kind, .int .i64 x.v.k, .int .i64 x.v.n, .string x.v.s, .int .i64 x.col, .slice x.A x.n x.cap, .int .i64 y.kind, .int .i64 y.v.k, .int .i64 y.v.n, .string y.v.s, .int .i64 y.col, .slice y.A y.n y.cap] ∧
    Blk X (w.heap.size + 1 + 1 + 1 + 1) 27 #[.int .i64 4, .int .i64 0, .int .i64 0, .string ⟨#[]⟩, .int .i64 0, .slice (some ⟨w.heap.size + 1 + 1 + 1, 0, none⟩) 2 2] ∧ Blk X (w.heap.size + 1 + 1) 27 #[.int .i64 0, .int .i64 0, .int .i64 0, .string ⟨#[]⟩, .int .i64 0, .slice none 0 0] ∧ Grow w X)
    ⟨(Blk.new' _ _ _ (by simp)).al _, Blk.new' _ _ _ (by simp), ((Blk.new' _ _ _ (by simp)).al _).al _, (by repeat (first | (with_reducible exact Grow.refl _) | (with_reducible assumption) | (with_reducible refine Grow.set ?_ (by first | (simp; done) | (simp; omega)) _) | (with_reducible refine Grow.al ?_ _) | (with_reducible refine Grow.drew ?_) | (with_reducible refine Grow.drewN ?_ _) | (with_reducible refine Grow.trans ?_ (by assumption))))⟩ ?_
  rintro X ⟨Bk, Bz, Br, G⟩
  obtain ⟨gr, hgr⟩ : ∃ gr, w.heap.size + 1 + 1 = gr := ⟨_, rfl⟩
  have hge : w.heap.size ≤ gr := by omega
  rw [hgr] at Bk Bz Br ⊢
  have n1 : gr ≠ gr + 1 := by omega
  have n2 : gr ≠ gr + 1 + 1 := by omega
  have n3 : gr + 1 ≠ gr + 1 + 1 := by omega
  obtain ⟨bz, fz⟩ := Bz.rules
  have lr := Br.lt
  have lz := Bz.lt
  go_upto_region 3 with (go_at_call 63; ((with_reducible refine (CT.out _ X G Bk).mono ?_); rintro en w2 ⟨rfl, hg2⟩))
  have Bk2 := Bk.grow hg2
  have Bz2 := Bz.grow hg2
  have Br2 := Br.grow hg2
  obtain ⟨bz2, fz2⟩ := Bz2.rules
  obtain ⟨br2, fr2⟩ := Br2.rules
  have lr2 := Br2.lt
  clear bz fz
  go_wp2
  have B3 := (((((Br2.set 0 (.int .i64 4)).set 1 (.int .i64 0)).set 2 (.int .i64 0)).set 3 (.string ⟨#[]⟩)).set 4 (.int .i64 0)).set 5 (.slice (some ⟨gr + 1, 0, none⟩) 2 2)
  have G3 : Grow w ((((((w2.setCell ⟨gr, 0, none⟩ (.int .i64 4)).setCell ⟨gr, 1, none⟩ (.int .i64 0)).setCell ⟨gr, 2, none⟩ (.int .i64 0)).setCell ⟨gr, 3, none⟩ (.string ⟨#[]⟩)).setCell ⟨gr, 4, none⟩ (.int .i64 0)).setCell ⟨gr, 5, none⟩ (.slice (some ⟨gr + 1, 0, none⟩) 2 2)) := Grow.set (Grow.set (Grow.set (Grow.set (Grow.set (Grow.set (G.trans hg2) hge _) hge _) hge _) hge _) hge _) hge _
  have K3 := Blk.other (Blk.other (Blk.other (Blk.other (Blk.other (Blk.other Bk2 n1 0 (.int .i64 4)) n1 1 (.int .i64 0)) n1 2 (.int .i64 0)) n1 3 (.string ⟨#[]⟩)) n1 4 (.int .i64 0)) n1 5 (.slice (some ⟨gr + 1, 0, none⟩) 2 2)
  simp only [List.setIfInBounds_toArray, List.set_cons_zero, List.set_cons_succ] at B3
  obtain ⟨b3, f3⟩ := B3.rules
  refine bodyPost_ret (v := .tuple #[(twoK 4 x y (some ⟨gr + 1, 0, none⟩)).val, .bool (e == 0)]) (by simp [results, Try.results91, go_sem, b3, ez2]) rfl ⟨gr + 1, ?_, by omega, K3, G3⟩
  by_cases he : e = 0 <;> simp [he]
end Go.Proofs.Ytpgpecdiajmgmaa

namespace Go.Proofs.Ytpgpecdiajmgmaa
open Go.RowKit Go.Calm
set_option linter.unusedSimpArgs false
set_option linter.unusedVariables false

structure LRn (w0 w : World) (gl gn gr : Nat) (n : Int) (l r : Bool) : Prop where
  bl : Blk w gl 4 #[.bool l]
  br : Blk w gr 4 #[.bool r]
  cn : w0.cell? ⟨gn, 0, none⟩ = some (.int .i64 n)
  hl : w0.heap.size ≤ gl
  hr : w0.heap.size ≤ gr
  ne : gl ≠ gr
  g : Grow w0 w
theorem LRn.grow {w0 w w' : World} {gl gn gr : Nat} {n : Int} {l r : Bool} (h : LRn w0 w gl gn gr n l r) (hg : Grow w w') : LRn w0 w' gl gn gr n l r := ⟨h.bl.grow hg, h.br.grow hg, h.cn, h.hl, h.hr, h.ne, h.g.trans hg⟩
set_option maxRecDepth 100000 in
theorem lr_any (w0 : World) (gl gn gr : Nat) (n k : Int) (l r : Bool) (w : World) (h : LRn w0 w gl gn gr n l r) :
    Calls Try.prog 125 #[.int .i64 k, .pointer (some ⟨gl, 0, none⟩), .pointer (some ⟨gn, 0, none⟩), .pointer (some ⟨gr, 0, none⟩)] w fun en w' => en = .returned (.tuple #[]) ∧ LRn w0 w' gl gn gr n (l && decide (k < n)) (r && decide (n ≤ k)) := by
  obtain ⟨bl, br, cn, hl, hr, hne, hg⟩ := h
  have c2 := hg.cell cn
  have ln : gn < w0.heap.size := Grow.lt cn
  obtain ⟨b1, f1⟩ := bl.rules
  obtain ⟨b2, f2⟩ := br.rules
  have mixed : Try.prog.follows .mixedOrders = true := by kernel_rfl
  have l1 := bl.lt
  have l2 := br.lt
  have fin : ∀ (x y : Bool), LRn w0 ((w.setCell ⟨gl, 0, none⟩ (.bool x)).setCell ⟨gr, 0, none⟩ (.bool y)) gl gn gr n x y := fun x y => ⟨(Blk.other (bl.set 0 (.bool x)) (Ne.symm hne) 0 (.bool y)), (Blk.other br hne 0 (.bool x)).set 0 (.bool y), cn, hl, hr, hne, Grow.set (Grow.set hg hl _) hr _⟩
  have Fin := Lib.hid fin
  clear fin
  cases l <;> cases r
  all_goals
    go_enter Try.func125, Try.ntmps125
    go_wp2
    go_big_region
  all_goals
    go_wp2
    go_end0
    refine ⟨rfl, ?_⟩
    simp only [Bool.false_and, Bool.true_and]
    exact (Fin.out _ _).grow (Grow.drew (Grow.refl _))
def ColsC (w0 : World) (gl gn gr : Nat) (n : Int) (e : E) : Prop := ∀ (gx ox : Nat) (l r : Bool) (w : World), EX w0 e → ECells w0 gx ox e → LRn w0 w gl gn gr n l r →
  Calls Try.prog 124 #[.pointer (some ⟨gx, ox, none⟩), .func (.func 125) #[] #[.pointer (some ⟨gl, 0, none⟩), .pointer (some ⟨gn, 0, none⟩), .pointer (some ⟨gr, 0, none⟩)]] w fun en w' =>
    en = .returned (.tuple #[]) ∧ LRn w0 w' gl gn gr n (l && colsAll (fun c => decide (c < n)) e) (r && colsAll (fun c => decide (n ≤ c)) e)
theorem colsAll_mk (f : Int → Bool) (k : Int) (v : V) (c : Int) (A : Option Addr) (n cap : Nat) (kid : Nat → E) : colsAll f (.mk k v c A n cap kid) = ((if k = 2 then f c else true) && (List.range n).all (fun i => colsAll f (kid i))) := rfl
theorem range_all {f : Nat → Bool} (n : Nat) : (List.range (n + 1)).all f = ((List.range n).all f && f n) := by
  rw [List.range_succ, List.all_append]; simp
set_option maxRecDepth 100000 in
set_option maxHeartbeats 4000000 in
theorem columns_any (w0 : World) (gl gn gr : Nat) (n : Int) (e : E) : ColsC w0 gl gn gr n e := by
  induction e with
  | leaf =>
    intro gx ox l r w hE hx h
    obtain ⟨c0, c1, c2, c3, c4, c5⟩ := hx.grow h.g
    have hf : ∀ f, colsAll f .leaf = true := fun f => rfl
    rw [hf, hf, Bool.and_true, Bool.and_true]
    simp only [E.kind, E.v, E.col, E.A, E.n, E.cap] at c0 c1 c2 c3 c4 c5
    have H := Lib.hid h
    clear h
    go_enter Try.func124, Try.ntmps124
    go_wp2
    refine wp_loop_rounds 1 ?_
    rw [rounds_succ]
    go_wp2
    go_end0
    exact ⟨rfl, H.out⟩
  | mk k v c A m cap kid ih =>
    intro gx ox l r w hE hx h
    have Hx := Lib.hid hx
    have HE := Lib.hid hE
    have H := Lib.hid h
    have hm : m ≤ 9223372036854775807 := by cases hE with | mk hm => unfold maxLen at hm; omega
    obtain ⟨c0, c1, c2, c3, c4, c5⟩ := hx.grow h.g
    simp only [E.kind, E.v, E.col, E.A, E.n, E.cap] at c0 c1 c2 c3 c4 c5
    rw [colsAll_mk, colsAll_mk]
    clear h hx hE
    go_enter Try.func124, Try.ntmps124
    by_cases hk : k = 2
    · have dk : (k == 2) = true := by simpa using hk
      obtain ⟨l', hl'⟩ : ∃ l', (l && (if k = 2 then decide (c < n) else true)) = l' := ⟨_, rfl⟩
      obtain ⟨r', hr'⟩ : ∃ r', (r && (if k = 2 then decide (n ≤ c) else true)) = r' := ⟨_, rfl⟩
      go_upto_region 2 with (go_at_call 125; ((with_reducible refine (lr_any w0 gl gn gr n c l r _ H.out).mono ?_); rintro en w4 ⟨rfl, h4⟩))
      have H2 := Lib.hid (show LRn w0 w4 gl gn gr n l' r' by rw [← hl', ← hr', if_pos hk, if_pos hk]; exact h4)
      have FL := Lib.hid hl'
      have FR := Lib.hid hr'
      obtain ⟨c0, c1, c2, c3, c4, c5⟩ := Hx.out.grow h4.g
      simp only [E.kind, E.v, E.col, E.A, E.n, E.cap] at c0 c1 c2 c3 c4 c5
      clear h4 hl' hr' H
      go_wp2
      go_loopw [21] (fun i wr => ∃ j : Nat, j ≤ m ∧ i = .int .i64 j ∧ LRn w0 wr gl gn gr n (l' && (List.range j).all (fun i => colsAll (fun c => decide (c < n)) (kid i))) (r' && (List.range j).all (fun i => colsAll (fun c => decide (n ≤ c)) (kid i)))) (fun i _ => m - (intOf i).toNat)
      case atStart => exact ⟨0, Nat.zero_le _, rfl, by simpa using H2.out⟩
      case round =>
        obtain ⟨j, hj, rfl, hr⟩ := hrel
        obtain ⟨c0, c1, c2, c3, c4, c5⟩ := Hx.out.grow hr.g
        simp only [E.kind, E.v, E.col, E.A, E.n, E.cap] at c0 c1 c2 c3 c4 c5
        have HR := Lib.hid hr
        clear hr
        by_cases hlt : j < m
        · obtain ⟨gk, ok, hA, hck, hEk⟩ : ∃ gk ok, A = some ⟨gk, ok, none⟩ ∧ ECells w0 gk (ok + j * 6) (kid j) ∧ EX w0 (kid j) := by
            cases HE.out with
            | mk hn' hc hk hv hi =>
              obtain ⟨gk, ok, h1, h2⟩ := hc j hlt
              exact ⟨gk, ok, h1, h2, hk j hlt⟩
          subst hA
          have ihj := ih j gk (ok + j * 6) _ _ wr hEk hck HR.out
          rw [Bool.and_assoc, Bool.and_assoc, ← range_all, ← range_all] at ihj
          clear hck hEk
          go_wp2_with (go_at_call 124; ((with_reducible refine ihj.mono ?_); rintro en w5 ⟨rfl, h5⟩; have H5 := Lib.hid h5; clear h5))
          go_roundw
          case rel => exact ⟨j + 1, by omega, by go_num, H5.out⟩
          case measure => simp [intOf]; omega
        · obtain rfl : j = m := by omega
          have fin := HR.out
          rw [← FL.out, ← FR.out, Bool.and_assoc, Bool.and_assoc] at fin
          have Fin := Lib.hid fin
          clear fin
          go_wp2
          go_end0
          first
            | exact ⟨rfl, Fin.out⟩
            | (refine ⟨rfl, ?_⟩; simpa [hk] using Fin.out)
    · have dk : (k == 2) = false := by simpa using hk
      obtain ⟨l', hl'⟩ : ∃ l', (l && (if k = 2 then decide (c < n) else true)) = l' := ⟨_, rfl⟩
      obtain ⟨r', hr'⟩ : ∃ r', (r && (if k = 2 then decide (n ≤ c) else true)) = r' := ⟨_, rfl⟩
      have H2 := Lib.hid (show LRn w0 w gl gn gr n l' r' by rw [← hl', ← hr', if_neg hk, if_neg hk, Bool.and_true, Bool.and_true]; exact H.out)
      have FL := Lib.hid hl'
      have FR := Lib.hid hr'
      clear hl' hr' H
      go_wp2
      go_loopw [21] (fun i wr => ∃ j : Nat, j ≤ m ∧ i = .int .i64 j ∧ LRn w0 wr gl gn gr n (l' && (List.range j).all (fun i => colsAll (fun c => decide (c < n)) (kid i))) (r' && (List.range j).all (fun i => colsAll (fun c => decide (n ≤ c)) (kid i)))) (fun i _ => m - (intOf i).toNat)
      case atStart => exact ⟨0, Nat.zero_le _, rfl, by simpa using H2.out⟩
      case round =>
        obtain ⟨j, hj, rfl, hr⟩ := hrel
        obtain ⟨c0, c1, c2, c3, c4, c5⟩ := Hx.out.grow hr.g
        simp only [E.kind, E.v, E.col, E.A, E.n, E.cap] at c0 c1 c2 c3 c4 c5
        have HR := Lib.hid hr
        clear hr
        by_cases hlt : j < m
        · obtain ⟨gk, ok, hA, hck, hEk⟩ : ∃ gk ok, A = some ⟨gk, ok, none⟩ ∧ ECells w0 gk (ok + j * 6) (kid j) ∧ EX w0 (kid j) := by
            cases HE.out with
            | mk hn' hc hk hv hi =>
              obtain ⟨gk, ok, h1, h2⟩ := hc j hlt
              exact ⟨gk, ok, h1, h2, hk j hlt⟩
          subst hA
          have ihj := ih j gk (ok + j * 6) _ _ wr hEk hck HR.out
          rw [Bool.and_assoc, Bool.and_assoc, ← range_all, ← range_all] at ihj
          clear hck hEk
          go_wp2_with (go_at_call 124; ((with_reducible refine ihj.mono ?_); rintro en w5 ⟨rfl, h5⟩; have H5 := Lib.hid h5; clear h5))
          go_roundw
          case rel => exact ⟨j + 1, by omega, by go_num, H5.out⟩
          case measure => simp [intOf]; omega
        · obtain rfl : j = m := by omega
          have fin := HR.out
          rw [← FL.out, ← FR.out, Bool.and_assoc, Bool.and_assoc] at fin
          have Fin := Lib.hid fin
          clear fin
          go_wp2
          go_end0
          first
            | exact ⟨rfl, Fin.out⟩
            | (refine ⟨rfl, ?_⟩; simpa [hk] using Fin.out)
end Go.Proofs.Ytpgpecdiajmgmaa

namespace Go.Proofs.Ytpgpecdiajmgmaa
open Go.RowKit Go.Calm
set_option linter.unusedSimpArgs false
set_option linter.unusedVariables false

structure ElT (tr te : TypeId) (sz bytes : Nat) (z : Value) : Prop where
  hu : Try.prog.underlying tr = some (.slice te)
  hi : ∃ ti, Try.prog.info? te = some ti ∧ ti.zero = some z ∧ ti.size = sz ∧ ti.bytes = bytes
  hz : z.cells.size = sz
  hp : 0 < sz
def SrcG (w : World) (sz : Nat) (src : Value) (m : Nat) (news : List Value) : Prop := news.length = m * sz ∧ (∀ u ∈ news, u.oneCell' = true) ∧ ((∃ c, src = .slice none 0 c ∧ m = 0) ∨ ∃ ad c, src = .slice (some ad) m c ∧ ∀ j u, news[j]? = some u → w.cell? (ad.add j) = some u)
theorem wpList_append_gen {tr te : TypeId} {sz bytes : Nat} {z : Value} (T : ElT tr te sz bytes z) {w : World} {ops : Array Oper} {rest : List Oper} {o : Oper} {a : Act} {Q : Exit → Act → World → Prop} (hgd : o.guard = none) (s x : Operand)
    (ho : o.op = .call { callee := .builtin .append, args := #[s, x], argTypes := #[tr, tr] })
    (base : Nat) (v : Value) (n : Nat) (vs : List Value) (hs : a.eval s = v) (hown : w.ownsRow base te sz v n vs) (src : Value) (m : Nat) (news : List Value) (hx : a.eval x = src) (hsrc : SrcG w sz src m news) (h63 : n + m ≤ maxLen) (hB : (n + m) * bytes ≤ 140737488355328) (hbase : base ≤ w.heap.size)
    (h : ∀ v' w', w'.ownsRow base te sz v' (n + m) (vs ++ news) → w.grownBy w' v.ownBlock → wpList Try.prog ops Q rest (a.put o.dst v') w') : wpList Try.prog ops Q (o :: rest) a w := by
  obtain ⟨ti, hti, hz0, hz1, hz2⟩ := T.hi
  obtain ⟨hl, h1, h2⟩ := hsrc
  rcases h2 with ⟨c, rfl, rfl⟩ | ⟨ad, c, rfl, hc⟩
  · have e : news = [] := List.length_eq_zero_iff.1 (by omega)
    subst e
    refine wpList_append_none_c hgd s x _ ho base te ti sz T.hu hti v n vs hs hown c hx ?_
    exact h v w (by simpa using hown) ⟨rfl, rfl, rfl, Nat.le_refl _, fun _ _ _ => rfl⟩
  · refine wpList_append_own _ hgd s x _ ho base te ti z sz bytes T.hu hti hz0 hz1 hz2 T.hz T.hp v n vs hs hown ad m c news hx hl hc h1 h63 hB hbase ?_
    intro v' w' h1 h2 _
    exact h v' w' h1 h2
theorem own_emptyG (te : TypeId) (sz : Nat) (w : World) : (w.alloc (.cells #[] te)).ownsRow w.heap.size te sz (.slice (some ⟨w.heap.size, 0, none⟩) 0 0) 0 [] := ⟨by simp, .inr ⟨w.heap.size, 0, #[], rfl, Nat.le_refl _, heap_alloc_new w _, Nat.le_refl _, by unfold maxLen; omega, by simp, by simp⟩⟩
theorem elT_expr : ElT 25 27 6 72 (.agg #[.int .i64 0, .int .i64 0, .int .i64 0, .string ⟨#[]⟩, .int .i64 0, .slice none 0 0]) := ⟨Try.underlying25, by
  have h : (Try.prog.info? 27).map (fun i => (i.zero, i.size, i.bytes)) = some (some (.agg #[.int .i64 0, .int .i64 0, .int .i64 0, .string ⟨#[]⟩, .int .i64 0, .slice none 0 0]), 6, 72) := by kernel_rfl
  cases hi : Try.prog.info? 27 with
  | none => rw [hi] at h; simp at h
  | some i => rw [hi] at h; simp at h; exact ⟨i, rfl, h⟩, rfl, by decide⟩
theorem elT_plan : ElT 29 31 11 160 (.agg #[.int .i64 0, .int .i64 0, .int .i64 0, .int .i64 0, .int .i64 0, .string ⟨#[]⟩, .int .i64 0, .slice none 0 0, .slice none 0 0, .slice none 0 0, .slice none 0 0]) := ⟨Try.underlying29, by
  have h : (Try.prog.info? 31).map (fun i => (i.zero, i.size, i.bytes)) = some (some (.agg #[.int .i64 0, .int .i64 0, .int .i64 0, .int .i64 0, .int .i64 0, .string ⟨#[]⟩, .int .i64 0, .slice none 0 0, .slice none 0 0, .slice none 0 0, .slice none 0 0]), 11, 160) := by kernel_rfl
  cases hi : Try.prog.info? 31 with
  | none => rw [hi] at h; simp at h
  | some i => rw [hi] at h; simp at h; exact ⟨i, rfl, h⟩, rfl, by decide⟩
def flatG (cells : Nat → List Value) (n : Nat) : List Value := (List.range n).flatMap cells
theorem flatG_len {cells : Nat → List Value} {sz : Nat} (h : ∀ i, (cells i).length = sz) : ∀ n, (flatG cells n).length = n * sz
  | 0 => by simp [flatG]
  | n + 1 => by
    have ih := flatG_len h n
    unfold flatG at ih ⊢
    rw [List.range_succ, List.flatMap_append, List.length_append, ih]
    simp [h, Nat.succ_mul]
theorem flatG_get {cells : Nat → List Value} {sz : Nat} (h : ∀ i, (cells i).length = sz) (hsz : 0 < sz) : ∀ (n j : Nat) (u : Value), (flatG cells n)[j]? = some u → j / sz < n ∧ (cells (j / sz))[j % sz]? = some u
  | 0, j, u, hj => by simp [flatG] at hj
  | n + 1, j, u, hj => by
    have ih := flatG_get h hsz n
    have hl := flatG_len h n
    unfold flatG at hj ih hl
    rw [List.range_succ, List.flatMap_append] at hj
    simp only [List.flatMap_cons, List.flatMap_nil, List.append_nil] at hj
    rcases Nat.lt_or_ge j (n * sz) with hlt | hge
    · rw [List.getElem?_append_left (by rw [hl]; exact hlt)] at hj
      obtain ⟨a, b⟩ := ih j u hj
      exact ⟨by omega, b⟩
    · rw [List.getElem?_append_right (by rw [hl]; exact hge), hl] at hj
      have h1 : j - n * sz < sz := by
        have := (List.getElem?_eq_some_iff.1 hj).1
        rw [h] at this; exact this
      have e : j = sz * n + (j - n * sz) := by rw [Nat.mul_comm]; omega
      have e1 : j / sz = n := by rw [e, Nat.mul_add_div hsz, Nat.div_eq_of_lt h1]; rfl
      have e2 : j % sz = j - n * sz := by
        conv => lhs; rw [e]
        rw [Nat.mul_add_mod, Nat.mod_eq_of_lt h1]
      rw [e1, e2]
      exact ⟨by omega, hj⟩
theorem flatG_at {cells : Nat → List Value} {sz : Nat} (h : ∀ i, (cells i).length = sz) : ∀ (n i k : Nat) (u : Value), i < n → (cells i)[k]? = some u → (flatG cells n)[i * sz + k]? = some u
  | 0, i, k, u, hi, _ => by omega
  | n + 1, i, k, u, hi, hk => by
    have ih := flatG_at h n i k u
    have hl := flatG_len h n
    have hk1 : k < sz := by rw [← h i]; exact (List.getElem?_eq_some_iff.1 hk).1
    unfold flatG at ih hl ⊢
    rw [List.range_succ, List.flatMap_append]
    simp only [List.flatMap_cons, List.flatMap_nil, List.append_nil]
    rcases Nat.lt_or_ge i n with hlt | hge
    · have : i * sz + k < n * sz := by
        have := Nat.mul_le_mul_right sz (show i + 1 ≤ n from hlt)
        rw [Nat.succ_mul] at this; omega
      rw [List.getElem?_append_left (by rw [hl]; exact this)]
      exact ih hlt hk
    · obtain rfl : i = n := by omega
      rw [List.getElem?_append_right (by rw [hl]; omega), hl, Nat.add_sub_cancel_left]
      exact hk
theorem E.cells_len (e : E) : e.cells.length = 6 := rfl
theorem PL.cells_len (p : PL) : p.cells.length = 11 := rfl
theorem ECells.at {w : World} {g o : Nat} {e : E} (h : ECells w g o e) : ∀ k u, e.cells[k]? = some u → w.cell? ⟨g, o + k, none⟩ = some u := fun k u hk => by
  match k, hk with
  | 0, hk => simp [E.cells] at hk; subst hk; exact h.c0
  | 1, hk => simp [E.cells] at hk; subst hk; exact h.c1
  | 2, hk => simp [E.cells] at hk; subst hk; exact h.c2
  | 3, hk => simp [E.cells] at hk; subst hk; exact h.c3
  | 4, hk => simp [E.cells] at hk; subst hk; exact h.c4
  | 5, hk => simp [E.cells] at hk; subst hk; exact h.c5
theorem PCells.at {w : World} {g o : Nat} {e : PL} (h : PCells w g o e) : ∀ k u, e.cells[k]? = some u → w.cell? ⟨g, o + k, none⟩ = some u := fun k u hk => by
  match k, hk with
  | 0, hk => simp [PL.cells] at hk; subst hk; exact h.c0
  | 1, hk => simp [PL.cells] at hk; subst hk; exact h.c1
  | 2, hk => simp [PL.cells] at hk; subst hk; exact h.c2
  | 3, hk => simp [PL.cells] at hk; subst hk; exact h.c3
  | 4, hk => simp [PL.cells] at hk; subst hk; exact h.c4
  | 5, hk => simp [PL.cells] at hk; subst hk; exact h.c5
  | 6, hk => simp [PL.cells] at hk; subst hk; exact h.c6
  | 7, hk => simp [PL.cells] at hk; subst hk; exact h.c7
  | 8, hk => simp [PL.cells] at hk; subst hk; exact h.c8
  | 9, hk => simp [PL.cells] at hk; subst hk; exact h.c9
  | 10, hk => simp [PL.cells] at hk; subst hk; exact h.c10
theorem srcG_of {w : World} {sz : Nat} {A : Option Addr} {m c : Nat} {cells : Nat → List Value} (hl : ∀ i, (cells i).length = sz) (hsz : 0 < sz) (h1 : ∀ i, ∀ u ∈ cells i, u.oneCell' = true)
    (h : ∀ i, i < m → ∃ g o, A = some ⟨g, o, none⟩ ∧ ∀ k u, (cells i)[k]? = some u → w.cell? ⟨g, o + i * sz + k, none⟩ = some u) : SrcG w sz (.slice A m c) m (flatG cells m) := by
  refine ⟨flatG_len hl m, fun u hu => ?_, ?_⟩
  · obtain ⟨i, _, hi⟩ := List.mem_flatMap.1 hu
    exact h1 i u hi
  · cases A with
    | none =>
      rcases Nat.eq_zero_or_pos m with rfl | hp
      · exact .inl ⟨c, rfl, rfl⟩
      · obtain ⟨g, o, e, _⟩ := h 0 hp
        cases e
    | some ad =>
      refine .inr ⟨ad, c, rfl, fun j u hj => ?_⟩
      obtain ⟨a, b⟩ := flatG_get hl hsz m j u hj
      obtain ⟨g, o, e, hc⟩ := h _ a
      cases e
      have := hc _ _ b
      rw [addr_add]
      have e2 : o + j / sz * sz + j % sz = o + j := by
        have := Nat.div_add_mod j sz
        rw [Nat.mul_comm] at this
        omega
      rw [e2] at this
      exact this
theorem E.ones (e : E) : ∀ u ∈ e.cells, u.oneCell' = true := fun u hu => by
  simp [E.cells] at hu
  rcases hu with rfl | rfl | rfl | rfl | rfl | rfl <;> rfl
theorem PL.ones (e : PL) : ∀ u ∈ e.cells, u.oneCell' = true := fun u hu => by
  simp [PL.cells] at hu
  rcases hu with rfl | rfl | rfl | rfl | rfl | rfl | rfl | rfl | rfl | rfl | rfl <;> rfl
def RowE (w : World) (base : Nat) (B : Option Addr) (n : Nat) (f : Nat → E) : Prop := (n = 0 ∧ B = none) ∨ ∃ g cur, B = some ⟨g, 0, none⟩ ∧ base ≤ g ∧ Blk w g 27 cur ∧ n * 6 ≤ cur.size ∧ ∀ i, i < n → ECells w g (i * 6) (f i)
def RowP (w : World) (base : Nat) (B : Option Addr) (n : Nat) (f : Nat → PL) : Prop := (n = 0 ∧ B = none) ∨ ∃ g cur, B = some ⟨g, 0, none⟩ ∧ base ≤ g ∧ Blk w g 31 cur ∧ n * 11 ≤ cur.size ∧ ∀ i, i < n → PCells w g (i * 11) (f i)
theorem own_rowE {w : World} {base n cap : Nat} {B : Option Addr} {f : Nat → E} (h : w.ownsRow base 27 6 (.slice B n cap) n (flatG (fun i => (f i).cells) n)) : RowE w base B n f := by
  rcases h.2 with ⟨e, h0⟩ | ⟨g, cap', cur, e, hB, hg, hle, hmx, hcs, htk⟩
  · simp at e; exact .inl ⟨h0, e.1⟩
  · simp at e
    obtain ⟨rfl, rfl⟩ := e
    refine .inr ⟨g, cur, rfl, hB, hg, by rw [hcs]; exact Nat.mul_le_mul_right 6 hle, fun i hi => ?_⟩
    have hc : ∀ k u, (f i).cells[k]? = some u → w.cell? ⟨g, i * 6 + k, none⟩ = some u := fun k u hk => by
      have := h.cells (g := g) rfl _ _ (flatG_at (fun i => E.cells_len (f i)) n i k u hi hk)
      rw [addr_add] at this
      simpa using this
    exact ⟨hc 0 _ rfl, hc 1 _ rfl, hc 2 _ rfl, hc 3 _ rfl, hc 4 _ rfl, hc 5 _ rfl⟩
theorem own_rowP {w : World} {base n cap : Nat} {B : Option Addr} {f : Nat → PL} (h : w.ownsRow base 31 11 (.slice B n cap) n (flatG (fun i => (f i).cells) n)) : RowP w base B n f := by
  rcases h.2 with ⟨e, h0⟩ | ⟨g, cap', cur, e, hB, hg, hle, hmx, hcs, htk⟩
  · simp at e; exact .inl ⟨h0, e.1⟩
  · simp at e
    obtain ⟨rfl, rfl⟩ := e
    refine .inr ⟨g, cur, rfl, hB, hg, by rw [hcs]; exact Nat.mul_le_mul_right 11 hle, fun i hi => ?_⟩
    have hc : ∀ k u, (f i).cells[k]? = some u → w.cell? ⟨g, i * 11 + k, none⟩ = some u := fun k u hk => by
      have := h.cells (g := g) rfl _ _ (flatG_at (fun i => PL.cells_len (f i)) n i k u hi hk)
      rw [addr_add] at this
      simpa using this
    exact ⟨hc 0 _ rfl, hc 1 _ rfl, hc 2 _ rfl, hc 3 _ rfl, hc 4 _ rfl, hc 5 _ rfl, hc 6 _ rfl, hc 7 _ rfl, hc 8 _ rfl, hc 9 _ rfl, hc 10 _ rfl⟩
def ClE (n : Nat) (f : Nat → E) (w w' : World) (en : Ending) : Prop := ∃ (B : Option Addr) (cap : Nat), en = .returned (.slice B n cap) ∧ RowE w' w.heap.size B n f ∧ Grow w w'
def ClP (n : Nat) (f : Nat → PL) (w w' : World) (en : Ending) : Prop := ∃ (B : Option Addr) (cap : Nat), en = .returned (.slice B n cap) ∧ RowP w' w.heap.size B n f ∧ Grow w w'
set_option maxRecDepth 100000 in
set_option maxHeartbeats 2000000 in
theorem cloneE_any (n : Nat) (f : Nat → E) (A : Option Addr) (c : Nat) (w : World) (hl : n ≤ 10000) (hv : ∀ i, i < n → ∃ g o, A = some ⟨g, o, none⟩ ∧ ECells w g (o + i * 6) (f i)) :
    Calls Try.prog 138 #[.slice A n c] w fun en w' => ClE n f w w' en := by
  have hsrc := fun W (h : Grow w W) => srcG_of (w := W) (sz := 6) (A := A) (m := n) (c := c) (cells := fun i => (f i).cells) (fun i => E.cells_len (f i)) (by decide) (fun i => E.ones (f i)) (fun i hi => by
    obtain ⟨g, o, e, hc⟩ := hv i hi
    exact ⟨g, o, e, fun k u hk => (hc.grow h).at k u hk⟩)
  have Src := Lib.hid hsrc
  have hn0 : A = none → n = 0 := fun h => by
    rcases Nat.eq_zero_or_pos n with h0 | hp
    · exact h0
    · obtain ⟨g, o, e, _⟩ := hv 0 hp
      rw [h] at e; cases e
  have HN := Lib.hid hn0
  clear hv hsrc hn0
  have eqn := fun W (B : Option Addr) n c => Lib.run_eql_slice_nil W 25 27 B n c 0 0 Try.underlying25
  go_enter Try.func138, Try.ntmps138
  cases A with
  | none =>
    obtain rfl := HN.out rfl
    go_wp2
    go_ret
    exact ⟨none, 0, rfl, .inl ⟨rfl, rfl⟩, Grow.refl _⟩
  | some ad =>
    have Own := Lib.hid (own_emptyG 27 6 w)
    go_wp2_with (at_builtin; refine wpList_append_gen elT_expr rfl _ _ rfl w.heap.size _ _ _ rfl Own.out _ n _ rfl (Src.out _ ((Grow.refl w).al _)) (by unfold maxLen; omega) (by omega) (by simp) ?_; intro v7 w7 own7 gr7; obtain ⟨g7, cap7, rfl⟩ : ∃ (B : Option Addr) (cap7 : Nat), v7 = .slice B (0 + n) cap7 := (by rcases own7.2 with ⟨e, h0⟩ | ⟨g', cap', cur', e, _⟩; exact ⟨none, 0, by rw [h0]; exact e⟩; exact ⟨_, _, e⟩))
    have G7 : Grow w w7 := Grow.own ((Grow.refl w).al _) gr7 (fun i hi => by
      rcases Nat.lt_or_ge i w.heap.size with h | h
      · exact absurd hi.symm (own_ge Own.out h)
      · exact h)
    have Own7 := Lib.hid own7
    clear own7 gr7
    go_ret
    exact ⟨g7, cap7, by simp, own_rowE (by simpa using Own7.out), G7⟩
set_option maxRecDepth 100000 in
set_option maxHeartbeats 2000000 in
theorem cloneP_any (n : Nat) (f : Nat → PL) (A : Option Addr) (c : Nat) (w : World) (hl : n ≤ 10000) (hv : ∀ i, i < n → ∃ g o, A = some ⟨g, o, none⟩ ∧ PCells w g (o + i * 11) (f i)) :
    Calls Try.prog 53 #[.slice A n c] w fun en w' => ClP n f w w' en := by
  have hsrc := fun W (h : Grow w W) => srcG_of (w := W) (sz := 11) (A := A) (m := n) (c := c) (cells := fun i => (f i).cells) (fun i => PL.cells_len (f i)) (by decide) (fun i => PL.ones (f i)) (fun i hi => by
    obtain ⟨g, o, e, hc⟩ := hv i hi
    exact ⟨g, o, e, fun k u hk => (hc.grow h).at k u hk⟩)
  have Src := Lib.hid hsrc
  have hn0 : A = none → n = 0 := fun h => by
    rcases Nat.eq_zero_or_pos n with h0 | hp
    · exact h0
    · obtain ⟨g, o, e, _⟩ := hv 0 hp
      rw [h] at e; cases e
  have HN := Lib.hid hn0
  clear hv hsrc hn0
  have eqn := fun W (B : Option Addr) n c => Lib.run_eql_slice_nil W 29 31 B n c 0 0 Try.underlying29
  go_enter Try.func53, Try.ntmps53
  cases A with
  | none =>
    obtain rfl := HN.out rfl
    go_wp2
    go_ret
    exact ⟨none, 0, rfl, .inl ⟨rfl, rfl⟩, Grow.refl _⟩
  | some ad =>
    have Own := Lib.hid (own_emptyG 31 11 w)
    go_wp2_with (at_builtin; refine wpList_append_gen elT_plan rfl _ _ rfl w.heap.size _ _ _ rfl Own.out _ n _ rfl (Src.out _ ((Grow.refl w).al _)) (by unfold maxLen; omega) (by omega) (by simp) ?_; intro v7 w7 own7 gr7; obtain ⟨g7, cap7, rfl⟩ : ∃ (B : Option Addr) (cap7 : Nat), v7 = .slice B (0 + n) cap7 := (by rcases own7.2 with ⟨e, h0⟩ | ⟨g', cap', cur', e, _⟩; exact ⟨none, 0, by rw [h0]; exact e⟩; exact ⟨_, _, e⟩))
    have G7 : Grow w w7 := Grow.own ((Grow.refl w).al _) gr7 (fun i hi => by
      rcases Nat.lt_or_ge i w.heap.size with h | h
      · exact absurd hi.symm (own_ge Own.out h)
      · exact h)
    have Own7 := Lib.hid own7
    clear own7 gr7
    go_ret
    exact ⟨g7, cap7, by simp, own_rowP (by simpa using Own7.out), G7⟩
end Go.Proofs.Ytpgpecdiajmgmaa

namespace Go.Proofs.Ytpgpecdiajmgmaa
open Go.RowKit Go.Calm
set_option linter.unusedSimpArgs false
set_option linter.unusedVariables false

def Agr (S : Nat → Prop) (w W : World) : Prop := ∀ q, S q → q < w.heap.size → W.heap[q]? = w.heap[q]?
theorem Agr.cell {S : Nat → Prop} {w W : World} (h : Agr S w W) {g o : Nat} {v : Value} (hs : S g) (hc : w.cell? ⟨g, o, none⟩ = some v) : W.cell? ⟨g, o, none⟩ = some v :=
  (World.cell?_of_block (h g hs (Grow.lt hc))).trans hc
def EXs (S : Nat → Prop) (w : World) (e : E) : Prop := ∀ W, Agr S w W → EX W e
def PXs (S : Nat → Prop) (w : World) (p : PL) : Prop := ∀ W, Agr S w W → PX W p
def NXs (S : Nat → Prop) (w : World) (k n : Int) (x : E) (xs : XsS) (ag : AgS) : Prop := ∀ W, Agr S w W → NX W k n x xs ag
theorem Agr.refl (S : Nat → Prop) (w : World) : Agr S w w := fun _ _ _ => rfl
theorem Agr.mono {S T : Nat → Prop} {w W : World} (h : Agr T w W) (hs : ∀ q, q < w.heap.size → S q → T q) : Agr S w W := fun q a b => h q (hs q b a) b
theorem Agr.trans {S : Nat → Prop} {w w' W : World} (h : Agr S w' W) (h1 : Agr S w w') (hl : w.heap.size ≤ w'.heap.size) : Agr S w W := fun q a b => (h q a (by omega)).trans (h1 q a b)
theorem grow_agr {S : Nat → Prop} {w w' : World} (h : Grow w w') : Agr S w w' := fun q _ hq => h.below.block q hq
theorem EXs.ex {S : Nat → Prop} {w : World} {e : E} (h : EXs S w e) : EX w e := h w (Agr.refl S w)
theorem PXs.px {S : Nat → Prop} {w : World} {p : PL} (h : PXs S w p) : PX w p := h w (Agr.refl S w)
theorem EXs.mono {S T : Nat → Prop} {w : World} {e : E} (h : EXs S w e) (hs : ∀ q, q < w.heap.size → S q → T q) : EXs T w e := fun W a => h W (a.mono hs)
theorem PXs.mono {S T : Nat → Prop} {w : World} {p : PL} (h : PXs S w p) (hs : ∀ q, q < w.heap.size → S q → T q) : PXs T w p := fun W a => h W (a.mono hs)
theorem NXs.mono {S T : Nat → Prop} {w : World} {k n : Int} {x : E} {xs : XsS} {ag : AgS} (h : NXs S w k n x xs ag) (hs : ∀ q, q < w.heap.size → S q → T q) : NXs T w k n x xs ag := fun W a => h W (a.mono hs)
theorem EXs.move {S : Nat → Prop} {w w' : World} {e : E} (h : EXs S w e) (ha : Agr S w w') (hl : w.heap.size ≤ w'.heap.size) : EXs S w' e := fun W a => h W (a.trans ha hl)
theorem PXs.move {S : Nat → Prop} {w w' : World} {p : PL} (h : PXs S w p) (ha : Agr S w w') (hl : w.heap.size ≤ w'.heap.size) : PXs S w' p := fun W a => h W (a.trans ha hl)
theorem NXs.move {S : Nat → Prop} {w w' : World} {k n : Int} {x : E} {xs : XsS} {ag : AgS} (h : NXs S w k n x xs ag) (ha : Agr S w w') (hl : w.heap.size ≤ w'.heap.size) : NXs S w' k n x xs ag := fun W a => h W (a.trans ha hl)
theorem EXs.grow {S : Nat → Prop} {w w' : World} {e : E} (h : EXs S w e) (hg : Grow w w') : EXs S w' e := h.move (grow_agr hg) hg.size
theorem PXs.grow {S : Nat → Prop} {w w' : World} {p : PL} (h : PXs S w p) (hg : Grow w w') : PXs S w' p := h.move (grow_agr hg) hg.size
theorem NXs.grow {S : Nat → Prop} {w w' : World} {k n : Int} {x : E} {xs : XsS} {ag : AgS} (h : NXs S w k n x xs ag) (hg : Grow w w') : NXs S w' k n x xs ag := h.move (grow_agr hg) hg.size
theorem ECells.agr {S : Nat → Prop} {w W : World} (h : Agr S w W) {g o : Nat} {e : E} (hs : S g) (hc : ECells w g o e) : ECells W g o e := ⟨h.cell hs hc.c0, h.cell hs hc.c1, h.cell hs hc.c2, h.cell hs hc.c3, h.cell hs hc.c4, h.cell hs hc.c5⟩
theorem PCells.agr {S : Nat → Prop} {w W : World} (h : Agr S w W) {g o : Nat} {e : PL} (hs : S g) (hc : PCells w g o e) : PCells W g o e := ⟨h.cell hs hc.c0, h.cell hs hc.c1, h.cell hs hc.c2, h.cell hs hc.c3, h.cell hs hc.c4, h.cell hs hc.c5, h.cell hs hc.c6, h.cell hs hc.c7, h.cell hs hc.c8, h.cell hs hc.c9, h.cell hs hc.c10⟩
abbrev Sall : Nat → Prop := fun _ => True
theorem EX.all {w : World} {e : E} (h : EX w e) : EXs Sall w e := fun W a => by
  induction h with
  | leaf => exact .leaf
  | mk hn hc hk hv hi ih => exact .mk hn (fun i hi => by obtain ⟨g, o, h1, h2⟩ := hc i hi; exact ⟨g, o, h1, h2.agr a trivial⟩) (fun i hi => ih i hi) hv hi
theorem ESl.agr {w W : World} (a : Agr Sall w W) {A : Option Addr} {xs : List E} (h : ESl w A xs) : ESl W A xs := fun i x hx => by
  obtain ⟨g, o, e, c, d⟩ := h i x hx
  exact ⟨g, o, e, c.agr a trivial, d.all W a⟩
theorem AgSl.agr {w W : World} (a : Agr Sall w W) {A : Option Addr} {xs : List Ag} (h : AgSl w A xs) : AgSl W A xs := fun i x hx => by
  obtain ⟨g, o, e, c, d⟩ := h i x hx
  exact ⟨g, o, e, ⟨a.cell trivial c.k, a.cell trivial c.c0, a.cell trivial c.c1, a.cell trivial c.c2, a.cell trivial c.c3, a.cell trivial c.c4, a.cell trivial c.c5⟩, d.all W a⟩
theorem NX.all {w : World} {k n : Int} {x : E} {xs : XsS} {ag : AgS} (h : NX w k n x xs ag) : NXs Sall w k n x xs ag := fun W a => ⟨h.hx.all W a, h.hs.agr a, h.ha.agr a, h.hl, h.hi⟩
theorem PX.all {w : World} {p : PL} (h : PX w p) : PXs Sall w p := fun W a => by
  induction h with
  | leaf => exact .leaf
  | mk hm hc hk hx hs ha hl hi ih => exact .mk hm (fun i hi => by obtain ⟨g, o, h1, h2⟩ := hc i hi; exact ⟨g, o, h1, h2.agr a trivial⟩) (fun i hi => ih i hi) (hx.all W a) (hs.agr a) (ha.agr a) hl hi
theorem EXs.kid {S : Nat → Prop} {w : World} {k : Int} {v : V} {c : Int} {A : Option Addr} {n cap : Nat} {kid : Nat → E} (h : EXs S w (.mk k v c A n cap kid)) {i : Nat} (hi : i < n) : EXs S w (kid i) := fun W a => by
  cases h W a with
  | mk hn hc hk hv h9 => exact hk i hi
theorem PXs.kid {S : Nat → Prop} {w : World} {k n : Int} {x : E} {xs : XsS} {ag : AgS} {A : Option Addr} {m cap : Nat} {kid : Nat → PL} (h : PXs S w (.mk k n x xs ag A m cap kid)) {i : Nat} (hi : i < m) : PXs S w (kid i) := fun W a => by
  cases h W a with
  | mk hm hc hk => exact hk i hi
theorem PXs.nx {S : Nat → Prop} {w : World} {k n : Int} {x : E} {xs : XsS} {ag : AgS} {A : Option Addr} {m cap : Nat} {kid : Nat → PL} (h : PXs S w (.mk k n x xs ag A m cap kid)) : NXs S w k n x xs ag := fun W a => (h W a).nx
theorem NXs.x {S : Nat → Prop} {w : World} {k n : Int} {x : E} {xs : XsS} {ag : AgS} (h : NXs S w k n x xs ag) : EXs S w x := fun W a => (h W a).hx
abbrev Snew (S : Nat → Prop) (b : Nat) : Nat → Prop := fun q => S q ∨ b ≤ q
def WfE : E → Prop
  | .leaf => False
  | .mk k _ c _ n _ kid => n ≤ 3 ∧ (k = 2 → n = 0 ∧ 0 ≤ c ∧ c ≤ 16) ∧ ∀ i, i < n → WfE (kid i)
def ME (S : Nat → Prop) (by' : Int) (e : E) (w w' : World) (en : Ending) : Prop := ∃ r : E, en = .returned r.val ∧ EXs (Snew S w.heap.size) w' r ∧ nE r = movE by' e ∧ Grow w w'
def MovC (by' : Int) (e : E) : Prop := ∀ (S : Nat → Prop) (w : World), WfE e → EXs S w e → colsAll (fun c => decide (-by' ≤ c)) e = true →
  Calls Try.prog 126 #[e.val, .int .i64 by'] w fun en w' => ME S by' e w w' en
structure Mv (S : Nat → Prop) (w wr : World) (gx gr : Nat) (B : Option Addr) (n j : Nat) (by' : Int) (kid F : Nat → E) : Prop where
  row : (n = 0 ∧ B = none) ∨ ∃ g cur, B = some ⟨g, 0, none⟩ ∧ w.heap.size ≤ g ∧ g ≠ gx ∧ g ≠ gr ∧ Blk wr g 27 cur ∧ n * 6 ≤ cur.size ∧ (∀ i, i < n → ECells wr g (i * 6) (F i)) ∧ ∀ i, i < j → EXs (fun q => (S q ∧ q < w.heap.size) ∨ (w.heap.size ≤ q ∧ q ≠ g ∧ q ≠ gx ∧ q ≠ gr)) wr (F i)
  done : ∀ i, i < j → nE (F i) = movE by' (kid i)
  todo : ∀ i, j ≤ i → F i = kid i
theorem Mv.grow {S : Nat → Prop} {w wr w' : World} {gx gr : Nat} {B : Option Addr} {n j : Nat} {by' : Int} {kid F : Nat → E} (h : Mv S w wr gx gr B n j by' kid F) (hg : Grow wr w') : Mv S w w' gx gr B n j by' kid F := by
  refine ⟨?_, h.done, h.todo⟩
  rcases h.row with h | ⟨g, cur, a, b, c, d, e, f, i, k⟩
  · exact .inl h
  · exact .inr ⟨g, cur, a, b, c, d, e.grow hg, f, fun q hq => (i q hq).grow hg, fun q hq => (k q hq).grow hg⟩
abbrev st6 (w : World) (g o : Nat) (r : E) : World := (((((w.setCell ⟨g, o, none⟩ (.int .i64 r.kind)).setCell ⟨g, o + 1, none⟩ (.int .i64 r.v.k)).setCell ⟨g, o + 2, none⟩ (.int .i64 r.v.n)).setCell ⟨g, o + 3, none⟩ (.string r.v.s)).setCell ⟨g, o + 4, none⟩ (.int .i64 r.col)).setCell ⟨g, o + 5, none⟩ (.slice r.A r.n r.cap)
theorem arr6 (cur : Array Value) (o : Nat) (a0 a1 a2 a3 a4 a5 : Value) (h : o + 6 ≤ cur.size) : ∃ c : Array Value, c = (((((cur.setIfInBounds o a0).setIfInBounds (o + 1) a1).setIfInBounds (o + 2) a2).setIfInBounds (o + 3) a3).setIfInBounds (o + 4) a4).setIfInBounds (o + 5) a5 ∧ c.size = cur.size ∧ c[o]? = some a0 ∧ c[o + 1]? = some a1 ∧ c[o + 2]? = some a2 ∧ c[o + 3]? = some a3 ∧ c[o + 4]? = some a4 ∧ c[o + 5]? = some a5 ∧ ∀ p, (p < o ∨ o + 6 ≤ p) → c[p]? = cur[p]? := by
  refine ⟨_, rfl, by simp, ?_, ?_, ?_, ?_, ?_, ?_, fun p hp => ?_⟩
  · simp [Array.getElem?_setIfInBounds]; omega
  · simp [Array.getElem?_setIfInBounds]; omega
  · simp [Array.getElem?_setIfInBounds]; omega
  · simp [Array.getElem?_setIfInBounds]; omega
  · simp [Array.getElem?_setIfInBounds]; omega
  · simp [Array.getElem?_setIfInBounds]; omega
  · simp only [Array.getElem?_setIfInBounds]
    rw [if_neg (by omega), if_neg (by omega), if_neg (by omega), if_neg (by omega), if_neg (by omega), if_neg (by omega)]
theorem st6_heap (w : World) (g o : Nat) (r : E) {q : Nat} (hq : q ≠ g) : (st6 w g o r).heap[q]? = w.heap[q]? := by
  unfold st6
  rw [Below.heap_setCell _ ⟨g, _, none⟩ _ q hq, Below.heap_setCell _ ⟨g, _, none⟩ _ q hq, Below.heap_setCell _ ⟨g, _, none⟩ _ q hq, Below.heap_setCell _ ⟨g, _, none⟩ _ q hq, Below.heap_setCell _ ⟨g, _, none⟩ _ q hq, Below.heap_setCell _ ⟨g, _, none⟩ _ q hq]
theorem st6_blk {w : World} {g o : Nat} {r : E} {t : TypeId} {cur : Array Value} (h : Blk w g t cur) (ho : o + 6 ≤ cur.size) : ∃ c, Blk (st6 w g o r) g t c ∧ c.size = cur.size ∧ ECells (st6 w g o r) g o r ∧ ∀ p, (p < o ∨ o + 6 ≤ p) → c[p]? = cur[p]? := by
  obtain ⟨c, hc, hs, h0, h1, h2, h3, h4, h5, h6⟩ := arr6 cur o (.int .i64 r.kind) (.int .i64 r.v.k) (.int .i64 r.v.n) (.string r.v.s) (.int .i64 r.col) (.slice r.A r.n r.cap) ho
  have hb : Blk (st6 w g o r) g t c := by
    rw [hc]
    exact (((((h.set o _).set (o + 1) _).set (o + 2) _).set (o + 3) _).set (o + 4) _).set (o + 5) _
  exact ⟨c, hb, hs, ⟨by rw [hb.cell]; exact h0, by rw [hb.cell]; exact h1, by rw [hb.cell]; exact h2, by rw [hb.cell]; exact h3, by rw [hb.cell]; exact h4, by rw [hb.cell]; exact h5⟩, h6⟩
theorem st6_size (w : World) (g o : Nat) (r : E) : (st6 w g o r).heap.size = w.heap.size := by simp [st6]
theorem st6_grow {w0 w : World} {g : Nat} (hg : Grow w0 w) (h : w0.heap.size ≤ g) (o : Nat) (r : E) : Grow w0 (st6 w g o r) := Grow.set (Grow.set (Grow.set (Grow.set (Grow.set (Grow.set hg h _) h _) h _) h _) h _) h _
theorem Mv.put {S : Nat → Prop} {w wr : World} {gx gr g : Nat} {n j : Nat} {by' : Int} {kid F : Nat → E} (h : Mv S w wr gx gr (some ⟨g, 0, none⟩) n j by' kid F) (hj : j < n) {r : E} (hr : EXs (fun q => (S q ∧ q < w.heap.size) ∨ (w.heap.size ≤ q ∧ q ≠ g ∧ q ≠ gx ∧ q ≠ gr)) wr r) (hn : nE r = movE by' (kid j)) :
    Mv S w (st6 wr g (j * 6) r) gx gr (some ⟨g, 0, none⟩) n (j + 1) by' kid (fun i => if i = j then r else F i) := by
  refine ⟨?_, fun i hi => ?_, fun i hi => ?_⟩
  · rcases h.row with ⟨h0, _⟩ | ⟨g', cur, e, b, c, d, hb, f, hc, hk⟩
    · omega
    · cases e
      obtain ⟨c', hb', hs, hec, ho⟩ := st6_blk (r := r) (o := j * 6) hb (by omega)
      have agr : Agr (fun q => (S q ∧ q < w.heap.size) ∨ (w.heap.size ≤ q ∧ q ≠ g ∧ q ≠ gx ∧ q ≠ gr)) wr (st6 wr g (j * 6) r) := fun q hq _ => st6_heap wr g (j * 6) r (by rcases hq with ⟨_, h⟩ | h; omega; exact h.2.1)
      refine .inr ⟨g, c', rfl, b, c, d, hb', by omega, fun i hi => ?_, fun i hi => ?_⟩
      · by_cases hij : i = j
        · subst hij; rw [if_pos rfl]; exact hec
        · rw [if_neg hij]
          have hc := hc i hi
          have tr : ∀ k u, k < 6 → wr.cell? ⟨g, i * 6 + k, none⟩ = some u → (st6 wr g (j * 6) r).cell? ⟨g, i * 6 + k, none⟩ = some u := fun k u hk hu => by
            rw [hb.cell] at hu
            rw [hb'.cell, ho _ (by omega)]; exact hu
          exact ⟨tr 0 _ (by omega) hc.c0, tr 1 _ (by omega) hc.c1, tr 2 _ (by omega) hc.c2, tr 3 _ (by omega) hc.c3, tr 4 _ (by omega) hc.c4, tr 5 _ (by omega) hc.c5⟩
      · by_cases hij : i = j
        · subst hij; simp only [if_pos]; exact hr.move agr (by rw [st6_size]; exact Nat.le_refl _)
        · simp only [if_neg hij]; exact (hk i (by omega)).move agr (by rw [st6_size]; exact Nat.le_refl _)
  · by_cases hij : i = j
    · subst hij; simp only [if_pos]; exact hn
    · simp only [if_neg hij]; exact h.done i (by omega)
  · simp only [if_neg (show ¬ i = j by omega)]; exact h.todo i (by omega)
theorem Mv.fin {S : Nat → Prop} {w wr : World} {gx gr : Nat} {B : Option Addr} {n cap cap' : Nat} {by' : Int} {kid F : Nat → E} {k : Int} {v : V} {c c' : Int} {A : Option Addr} (h : Mv S w wr gx gr B n n by' kid F) (he : EXs S w (.mk k v c A n cap kid)) (hc : inI64 c') (hcc : c' = if k = 2 then c + by' else c) :
    EXs (fun q => (S q ∧ q < w.heap.size) ∨ (w.heap.size ≤ q ∧ q ≠ gx ∧ q ≠ gr)) wr (.mk k v c' B n cap' F) ∧ nE (.mk k v c' B n cap' F) = movE by' (.mk k v c A n cap kid) := by
  constructor
  · intro W a
    have e0 := he.ex
    cases e0 with
    | mk hn hc0 hk0 hv hi =>
      rcases h.row with ⟨h0, rfl⟩ | ⟨g, cur, rfl, b, c1, d, hb, f, hcs, hk⟩
      · subst h0
        exact .mk hn (fun i hi => absurd hi (Nat.not_lt_zero _)) (fun i hi => absurd hi (Nat.not_lt_zero _)) hv ⟨hi.1, hc⟩
      · refine .mk hn (fun i hi => ⟨g, 0, rfl, ?_⟩) (fun i hi => hk i hi W (a.mono (fun q _ hq => ?_))) hv ⟨hi.1, hc⟩
        · rw [Nat.zero_add]; exact (hcs i hi).agr a (.inr ⟨b, c1, d⟩)
        · rcases hq with hq | hq
          · exact .inl hq
          · exact .inr ⟨hq.1, hq.2.2⟩
  · rw [nE_mk]
    unfold movE
    rw [hcc]
    congr 1
    funext i
    by_cases hi : i < n
    · rw [if_pos hi, if_pos hi]; exact h.done i hi
    · rw [if_neg hi, if_neg hi]
end Go.Proofs.Ytpgpecdiajmgmaa

namespace Go.Proofs.Ytpgpecdiajmgmaa
open Go.RowKit Go.Calm
set_option linter.unusedSimpArgs false
set_option linter.unusedVariables false

theorem Blk.far9 {w : World} {g q : Nat} {t : TypeId} {cs : Array Value} (h : Blk w g t cs) (hne : q ≠ g) (o : Nat) (r : E) : Blk (st6 w q o r) g t cs := by
  unfold Blk at h ⊢
  rw [st6_heap w q o r (Ne.symm hne)]
  exact h
theorem colsAll_kid {f : Int → Bool} {k : Int} {v : V} {c : Int} {A : Option Addr} {n cap : Nat} {kid : Nat → E} (h : colsAll f (.mk k v c A n cap kid) = true) {i : Nat} (hi : i < n) : colsAll f (kid i) = true := by
  rw [colsAll_mk, Bool.and_eq_true] at h
  exact List.all_eq_true.1 h.2 i (List.mem_range.2 hi)
def PM (S : Nat → Prop) (Z : World) (by' : Int) (e : E) (v : Value) (W : World) : Prop := ∃ r : E, v = .agg #[.int .i64 r.kind, .int .i64 r.v.k, .int .i64 r.v.n, .string r.v.s, .int .i64 r.col, .slice r.A r.n r.cap] ∧ EXs (Snew S Z.heap.size) W r ∧ nE r = movE by' e
theorem PM.pers (S : Nat → Prop) (Z : World) (by' : Int) (e : E) : Pers (PM S Z by' e) := fun v w w' hg ⟨r, a, b, c⟩ => ⟨r, a, b.grow hg, c⟩
theorem cur6 {w : World} {g o : Nat} {t : TypeId} {cur : Array Value} (h : Blk w g t cur) (ho : o + 6 ≤ cur.size) : ∃ u0 u1 u2 u3 u4 u5, w.cell? ⟨g, o, none⟩ = some u0 ∧ w.cell? ⟨g, o + 1, none⟩ = some u1 ∧ w.cell? ⟨g, o + 2, none⟩ = some u2 ∧ w.cell? ⟨g, o + 3, none⟩ = some u3 ∧ w.cell? ⟨g, o + 4, none⟩ = some u4 ∧ w.cell? ⟨g, o + 5, none⟩ = some u5 := by
  have f : ∀ i, i < cur.size → w.cell? ⟨g, i, none⟩ = some (cur.getD i undef) := fun i hi => by rw [h.cell]; simp [hi]
  exact ⟨_, _, _, _, _, _, f _ (by omega), f _ (by omega), f _ (by omega), f _ (by omega), f _ (by omega), f _ (by omega)⟩
set_option maxRecDepth 100000 in
set_option maxHeartbeats 1000000 in
theorem moved_mk (by' : Int) (hb0 : -100 ≤ by') (hb1 : by' ≤ 0) (k : Int) (v : V) (c : Int) (A : Option Addr) (n cap : Nat) (kid : Nat → E) (ih : ∀ i, MovC by' (kid i)) : MovC by' (.mk k v c A n cap kid) := by
  intro S w hw hE hcol
  have HE := Lib.hid hE
  have HW := Lib.hid hw
  have HCol := Lib.hid hcol
  have hn3 : n ≤ 3 := hw.1
  obtain ⟨hci, hck⟩ : inI64 c ∧ ∀ i, i < n → ∃ g o, A = some ⟨g, o, none⟩ ∧ ECells w g (o + i * 6) (kid i) := by
    cases hE.ex with
    | mk hn hc hk hv hi => exact ⟨hi.2, hc⟩
  have cl := fun W (h : Grow w W) => cloneE_any n kid A cap W (by omega) (fun i hi => by obtain ⟨g, o, a, b⟩ := hck i hi; exact ⟨g, o, a, b.grow h⟩)
  have IH := Lib.hid ih
  unfold E.val
  simp only [E.kind, E.v, E.col, E.A, E.n, E.cap]
  clear hw hE hcol hck ih
  go_enter Try.func126, Try.ntmps126
  have hW2 := HW.out.2.1
  have hcc2 : k = 2 → -by' ≤ c := fun h => by
    have := HCol.out
    rw [colsAll_mk, if_pos h, Bool.and_eq_true] at this
    exact of_decide_eq_true this.1
  by_cases hk : k = 2
  · have dk : (k == 2) = true := by simpa using hk
    obtain ⟨hn0, hc0, hc16⟩ := hW2 hk
    have hc2 := hcc2 hk
    have hwp : IntKind.i64.wrap (c + by') = c + by' := by rw [IntKind.wrap_i64]; omega
    have HCI := Lib.hid (show inI64 (c + by') by constructor <;> omega)
    have HCC := Lib.hid (show c + by' = if k = 2 then c + by' else c by rw [if_pos hk])
    clear hk hci hc0 hc16 hc2 hn0 hcc2 hW2
    go_upto_region 3 with fail
    clear hwp
    refine wp_forget (fun X => Blk X w.heap.size 27 #[.int .i64 k, .int .i64 v.k, .int .i64 v.n, .string v.s, .int .i64 (c + by'), .slice A n cap] ∧ Blk X (w.heap.size + 1) 27 #[.int .i64 0, .int .i64 0, .int .i64 0, .string ⟨#[]⟩, .int .i64 0, .slice none 0 0] ∧ Grow w X) ⟨(Blk.new _ _ _).al _, Blk.new' _ _ _ (by simp), (by repeat (first | (with_reducible exact Grow.refl _) | (with_reducible assumption) | (with_reducible refine Grow.set ?_ (by first | (simp; done) | (simp; omega)) _) | (with_reducible refine Grow.al ?_ _) | (with_reducible refine Grow.drew ?_) | (with_reducible refine Grow.drewN ?_ _) | (with_reducible refine Grow.trans ?_ (by assumption))))⟩ ?_
    rintro X ⟨Bx, Br, G⟩
    obtain ⟨gx, hgx⟩ : ∃ gx, w.heap.size = gx := ⟨_, rfl⟩
    have hge : w.heap.size ≤ gx := by omega
    rw [hgx] at Bx Br ⊢
    have n1 : gx ≠ gx + 1 := by omega
    have n1' : gx + 1 ≠ gx := by omega
    have lx := Bx.lt
    have lr := Br.lt
    obtain ⟨bx, fx⟩ := Bx.rules
    go_upto_region 4 with (go_at_call 138; ((with_reducible refine (cl _ G).mono ?_); rintro en w3 ⟨B, cap3, rfl, hrow, hg3⟩; have Bx3 := Bx.grow hg3; have Br3 := Br.grow hg3; clear bx fx; obtain ⟨bx, fx⟩ := Bx3.rules; have lx3 := Bx3.lt))
    have Bx4 := Bx3.set 5 (.slice B n cap3)
    simp only [List.setIfInBounds_toArray, List.set_cons_zero, List.set_cons_succ] at Bx4
    have mv0 : Mv S w (w3.setCell ⟨gx, 5, none⟩ (.slice B n cap3)) gx (gx + 1) B n 0 by' kid kid := by
      refine ⟨?_, fun i hi => absurd hi (Nat.not_lt_zero _), fun i _ => rfl⟩
      rcases hrow with h | ⟨g, cur, e, b, hb, f, hc⟩
      · exact .inl h
      · have lg := G.size
        refine .inr ⟨g, cur, e, by omega, by omega, by omega, Blk.other hb (by omega) 5 _, f, fun i hi => ?_, fun i hi => absurd hi (Nat.not_lt_zero _)⟩
        have hh : ∀ q, q ≠ gx → (w3.setCell ⟨gx, 5, none⟩ (.slice B n cap3)).heap[q]? = w3.heap[q]? := fun q hq => Below.heap_setCell w3 ⟨gx, 5, none⟩ _ q hq
        exact (hc i hi).agr (S := fun q => q ≠ gx) (fun q hq _ => hh q hq) (by omega)
    refine wp_forget (fun Y => Blk Y gx 27 #[.int .i64 k, .int .i64 v.k, .int .i64 v.n, .string v.s, .int .i64 (c + by'), .slice B n cap3] ∧ Blk Y (gx + 1) 27 #[.int .i64 0, .int .i64 0, .int .i64 0, .string ⟨#[]⟩, .int .i64 0, .slice none 0 0] ∧ Mv S w Y gx (gx + 1) B n 0 by' kid kid ∧ Grow w Y) ⟨Bx4, Blk.other Br3 n1 5 _, mv0, Grow.set (G.trans hg3) hge _⟩ ?_
    clear mv0 hrow hg3 Bx3 Br3 Bx4 lx lr bx fx lx3 Bx Br cl
    rintro Y ⟨Bx, Br, mv, GY⟩
    have BX := Lib.hid Bx
    have MV := Lib.hid mv
    obtain ⟨bx, fx⟩ := Bx.rules
    have lx := Bx.lt
    clear mv
    go_wp2
    clear bx fx lx Bx
    go_loopw [22] (fun i wr => ∃ (j : Nat) (F : Nat → E), j ≤ n ∧ i = .int .i64 j ∧ Blk wr gx 27 #[.int .i64 k, .int .i64 v.k, .int .i64 v.n, .string v.s, .int .i64 (c + by'), .slice B n cap3] ∧ Blk wr (gx + 1) 27 #[.int .i64 0, .int .i64 0, .int .i64 0, .string ⟨#[]⟩, .int .i64 0, .slice none 0 0] ∧ Mv S w wr gx (gx + 1) B n j by' kid F ∧ Grow w wr) (fun i _ => n - (intOf i).toNat)
    case atStart => exact ⟨0, kid, Nat.zero_le _, rfl, BX.out, Br, MV.out, GY⟩
    case round =>
      clear MV BX Br
      obtain ⟨j, F, hj, rfl, Bx, Br, mv, Gr⟩ := hrel
      have BX := Lib.hid Bx
      have BR := Lib.hid Br
      have MV := Lib.hid mv
      obtain ⟨bx, fx⟩ := Bx.rules
      have lx := Bx.lt
      have lr := Br.lt
      by_cases hlt : j < n
      · rcases mv.row with ⟨h0, _⟩ | ⟨g, cur, rfl, b1, b2, b3, hb, hsz, hcs, hks⟩
        · omega
        · have hcj := hcs j hlt
          rw [mv.todo j (Nat.le_refl _)] at hcj
          obtain ⟨c0, c1, c2, c3, c4, c5⟩ := hcj
          have HB := Lib.hid hb
          have HSZ := Lib.hid hsz
          clear hcs hks hb hsz mv Bx Br
          go_upto_region 7 with fail
          refine wp_forget (fun Z => Blk Z wr.heap.size 27 #[.int .i64 (kid j).kind, .int .i64 (kid j).v.k, .int .i64 (kid j).v.n, .string (kid j).v.s, .int .i64 (kid j).col, .slice (kid j).A (kid j).n (kid j).cap] ∧ Grow wr Z) ⟨Blk.new _ _ _, (Grow.refl wr).al _⟩ ?_
          rintro Z ⟨BZ, gZ⟩
          have BZ' := Lib.hid BZ
          have S0 : Nat → Prop := fun q => S q ∧ q < w.heap.size
          have cj := fun W (h : Grow Z W) => IH.out j (fun q => S q ∧ q < w.heap.size) W (HW.out.2.2 j hlt) (((HE.out.kid hlt).mono (T := fun q => S q ∧ q < w.heap.size) (fun q hq hs => ⟨hs, hq⟩)).grow (Gr.trans (gZ.trans h))) (colsAll_kid HCol.out hlt)
          unfold E.val ME at cj
          clear c0 c1 c2 c3 c4 c5 bx fx BZ
          generalize wr.heap.size = gz at *
          apply wp_region_calm 7 (by kernel_rfl) (by kernel_rfl)
          case h' =>
            intro Q0 hQ0
            simp only [List.take_succ_cons, List.take_zero]
            repeat (
              first
                | (apply calm_p rfl; case h1 => (intro w1 hw1 hF K hK; obtain ⟨bx, fx⟩ := ((BX.out.grow gZ).grow hw1).rules; obtain ⟨bz, fz⟩ := (BZ'.out.grow hw1).rules; go_simp; first | exact hK _ (Grow.refl _) | fail))
                | (apply calm_y rfl rfl rfl; case h1 => (intro w1 hw1 hF K hK; obtain ⟨bx, fx⟩ := ((BX.out.grow gZ).grow hw1).rules; obtain ⟨bz, fz⟩ := (BZ'.out.grow hw1).rules; go_simp; first | exact hK _ (Grow.refl _) | fail))
                | apply calm_n rfl rfl rfl rfl
              intro K hK
              go_simp
              apply hK
              clear hK K)
            apply calm_fp (PM (fun q => S q ∧ q < w.heap.size) Z by' (kid j)) rfl
            case h1 =>
              intro w1 hw1 hF K hK
              go_simp
              go_at_call 126
              refine (cj w1 hw1).mono ?_
              rintro en w' ⟨r, rfl, hr, hn, hg'⟩
              exact ⟨_, rfl, hK _ _ hg' ⟨r, rfl, hr.mono (fun q _ hq => hq.imp id (fun h => Nat.le_trans hw1.size h)), hn⟩⟩
            intro v32 K hK
            go_simp
            apply hK
            clear hK K
            repeat (
              first
                | (apply calm_p rfl; case h1 => (intro w1 hw1 hF K hK; skip; go_simp; first | exact hK _ (Grow.refl _) | fail))
                | (apply calm_y rfl rfl rfl; case h1 => (intro w1 hw1 hF K hK; skip; go_simp; first | exact hK _ (Grow.refl _) | fail))
                | apply calm_n rfl rfl rfl rfl
              intro K hK
              go_simp
              apply hK
              clear hK K)
            refine calm_nil ?_
            intro w1 hw1 hF
            apply hQ0
            clear hQ0
            simp only [List.drop_succ_cons, List.drop_zero]
            obtain ⟨r, hv, hr, hnr⟩ := hF _ (List.mem_cons_self ..)
            subst hv
            clear hF cj
            have mv1 := (MV.out.grow gZ).grow hw1
            have zs := gZ.size
            have hput := mv1.put hlt (hr.mono (T := fun q => (S q ∧ q < w.heap.size) ∨ (w.heap.size ≤ q ∧ q ≠ g ∧ q ≠ gx ∧ q ≠ gx + 1)) (fun q _ hq => by
              rcases hq with h | h
              · exact .inl h
              · have l1 := (HB.out.grow gZ).lt
                have l2 := (BX.out.grow gZ).lt
                have l3 := (BR.out.grow gZ).lt
                exact .inr ⟨by omega, by omega, by omega, by omega⟩)) hnr
            have HP := Lib.hid hput
            have GP := Lib.hid (st6_grow (Gr.trans (gZ.trans hw1)) b1 (j * 6) r)
            have BXP := Lib.hid (Blk.far9 ((BX.out.grow gZ).grow hw1) b2 (j * 6) r)
            have BRP := Lib.hid (Blk.far9 ((BR.out.grow gZ).grow hw1) b3 (j * 6) r)
            have hb1 := (HB.out.grow gZ).grow hw1
            obtain ⟨bg, fg⟩ := hb1.rules
            have szj : j * 6 + 6 ≤ cur.size := by have := HSZ.out; omega
            have gl := hb1.lt
            have cc := cur6 hb1 szj
            obtain ⟨u0, u1, u2, u3, u4, u5, k0, k1, k2, k3, k4, k5⟩ := cc
            clear mv1 hput bg hb1 hr hnr hge zs szj b1 b2 b3 n1 n1'

            go_wp2
            go_roundw
            case rel => exact ⟨j + 1, _, by omega, by go_num, BXP.out, BRP.out, HP.out, GP.out⟩
            case measure => simp [intOf]; omega
          case hp' => exact ⟨PM.pers _ _ _ _, trivial⟩
      · obtain rfl : j = n := by omega
        have fin := mv.fin (cap' := cap3) (c' := (c + by')) (k := k) (v := v) (c := c) (cap := cap) (A := A) HE.out HCI.out HCC.out
        have Fin := Lib.hid fin
        clear fin mv
        obtain ⟨br, fr⟩ := Br.rules
        clear hge n1 n1'
        go_wp2
        have B3 := (((((BR.out.set 0 (.int .i64 k)).set 1 (.int .i64 v.k)).set 2 (.int .i64 v.n)).set 3 (.string v.s)).set 4 (.int .i64 (c + by'))).set 5 (.slice B j cap3)
        simp only [List.setIfInBounds_toArray, List.set_cons_zero, List.set_cons_succ] at B3
        obtain ⟨b3, f3⟩ := B3.rules
        have G3 := st6_grow (g := gx + 1) Gr (by omega) 0 (.mk k v (c + by') B j cap3 F)
        refine bodyPost_ret (v := (E.mk k v (c + by') B j cap3 F).val) (by simp [results, Try.results126, go_sem, b3, E.val, E.kind, E.v, E.col, E.A, E.n, E.cap]) rfl ⟨E.mk k v (c + by') B j cap3 F, rfl, ?_, Fin.out.2, G3⟩
        have h1 := Fin.out.1.move (w' := st6 wr (gx + 1) 0 (.mk k v (c + by') B j cap3 F)) (fun q hq _ => st6_heap wr (gx + 1) 0 _ (by rcases hq with h | h; omega; exact h.2.2)) (by rw [st6_size]; exact Nat.le_refl _)
        exact h1.mono (fun q _ hq => hq.imp And.left And.left)
  · have dk : (k == 2) = false := by simpa using hk
    have HCI := Lib.hid hci
    have HCC := Lib.hid (show c = if k = 2 then c + by' else c by rw [if_neg hk])
    clear hk hci hcc2 hW2
    go_upto_region 3 with fail
    refine wp_forget (fun X => Blk X w.heap.size 27 #[.int .i64 k, .int .i64 v.k, .int .i64 v.n, .string v.s, .int .i64 c, .slice A n cap] ∧ Blk X (w.heap.size + 1) 27 #[.int .i64 0, .int .i64 0, .int .i64 0, .string ⟨#[]⟩, .int .i64 0, .slice none 0 0] ∧ Grow w X) ⟨(Blk.new _ _ _).al _, Blk.new' _ _ _ (by simp), (by repeat (first | (with_reducible exact Grow.refl _) | (with_reducible assumption) | (with_reducible refine Grow.set ?_ (by first | (simp; done) | (simp; omega)) _) | (with_reducible refine Grow.al ?_ _) | (with_reducible refine Grow.drew ?_) | (with_reducible refine Grow.drewN ?_ _) | (with_reducible refine Grow.trans ?_ (by assumption))))⟩ ?_
    rintro X ⟨Bx, Br, G⟩
    obtain ⟨gx, hgx⟩ : ∃ gx, w.heap.size = gx := ⟨_, rfl⟩
    have hge : w.heap.size ≤ gx := by omega
    rw [hgx] at Bx Br ⊢
    have n1 : gx ≠ gx + 1 := by omega
    have n1' : gx + 1 ≠ gx := by omega
    have lx := Bx.lt
    have lr := Br.lt
    obtain ⟨bx, fx⟩ := Bx.rules
    go_upto_region 4 with (go_at_call 138; ((with_reducible refine (cl _ G).mono ?_); rintro en w3 ⟨B, cap3, rfl, hrow, hg3⟩; have Bx3 := Bx.grow hg3; have Br3 := Br.grow hg3; clear bx fx; obtain ⟨bx, fx⟩ := Bx3.rules; have lx3 := Bx3.lt))
    have Bx4 := Bx3.set 5 (.slice B n cap3)
    simp only [List.setIfInBounds_toArray, List.set_cons_zero, List.set_cons_succ] at Bx4
    have mv0 : Mv S w (w3.setCell ⟨gx, 5, none⟩ (.slice B n cap3)) gx (gx + 1) B n 0 by' kid kid := by
      refine ⟨?_, fun i hi => absurd hi (Nat.not_lt_zero _), fun i _ => rfl⟩
      rcases hrow with h | ⟨g, cur, e, b, hb, f, hc⟩
      · exact .inl h
      · have lg := G.size
        refine .inr ⟨g, cur, e, by omega, by omega, by omega, Blk.other hb (by omega) 5 _, f, fun i hi => ?_, fun i hi => absurd hi (Nat.not_lt_zero _)⟩
        have hh : ∀ q, q ≠ gx → (w3.setCell ⟨gx, 5, none⟩ (.slice B n cap3)).heap[q]? = w3.heap[q]? := fun q hq => Below.heap_setCell w3 ⟨gx, 5, none⟩ _ q hq
        exact (hc i hi).agr (S := fun q => q ≠ gx) (fun q hq _ => hh q hq) (by omega)
    refine wp_forget (fun Y => Blk Y gx 27 #[.int .i64 k, .int .i64 v.k, .int .i64 v.n, .string v.s, .int .i64 c, .slice B n cap3] ∧ Blk Y (gx + 1) 27 #[.int .i64 0, .int .i64 0, .int .i64 0, .string ⟨#[]⟩, .int .i64 0, .slice none 0 0] ∧ Mv S w Y gx (gx + 1) B n 0 by' kid kid ∧ Grow w Y) ⟨Bx4, Blk.other Br3 n1 5 _, mv0, Grow.set (G.trans hg3) hge _⟩ ?_
    clear mv0 hrow hg3 Bx3 Br3 Bx4 lx lr bx fx lx3 Bx Br cl
    rintro Y ⟨Bx, Br, mv, GY⟩
    have BX := Lib.hid Bx
    have MV := Lib.hid mv
    obtain ⟨bx, fx⟩ := Bx.rules
    have lx := Bx.lt
    clear mv
    go_wp2
    clear bx fx lx Bx
    go_loopw [22] (fun i wr => ∃ (j : Nat) (F : Nat → E), j ≤ n ∧ i = .int .i64 j ∧ Blk wr gx 27 #[.int .i64 k, .int .i64 v.k, .int .i64 v.n, .string v.s, .int .i64 c, .slice B n cap3] ∧ Blk wr (gx + 1) 27 #[.int .i64 0, .int .i64 0, .int .i64 0, .string ⟨#[]⟩, .int .i64 0, .slice none 0 0] ∧ Mv S w wr gx (gx + 1) B n j by' kid F ∧ Grow w wr) (fun i _ => n - (intOf i).toNat)
    case atStart => exact ⟨0, kid, Nat.zero_le _, rfl, BX.out, Br, MV.out, GY⟩
    case round =>
      clear MV BX Br
      obtain ⟨j, F, hj, rfl, Bx, Br, mv, Gr⟩ := hrel
      have BX := Lib.hid Bx
      have BR := Lib.hid Br
      have MV := Lib.hid mv
      obtain ⟨bx, fx⟩ := Bx.rules
      have lx := Bx.lt
      have lr := Br.lt
      by_cases hlt : j < n
      · rcases mv.row with ⟨h0, _⟩ | ⟨g, cur, rfl, b1, b2, b3, hb, hsz, hcs, hks⟩
        · omega
        · have hcj := hcs j hlt
          rw [mv.todo j (Nat.le_refl _)] at hcj
          obtain ⟨c0, c1, c2, c3, c4, c5⟩ := hcj
          have HB := Lib.hid hb
          have HSZ := Lib.hid hsz
          clear hcs hks hb hsz mv Bx Br
          go_upto_region 7 with fail
          refine wp_forget (fun Z => Blk Z wr.heap.size 27 #[.int .i64 (kid j).kind, .int .i64 (kid j).v.k, .int .i64 (kid j).v.n, .string (kid j).v.s, .int .i64 (kid j).col, .slice (kid j).A (kid j).n (kid j).cap] ∧ Grow wr Z) ⟨Blk.new _ _ _, (Grow.refl wr).al _⟩ ?_
          rintro Z ⟨BZ, gZ⟩
          have BZ' := Lib.hid BZ
          have S0 : Nat → Prop := fun q => S q ∧ q < w.heap.size
          have cj := fun W (h : Grow Z W) => IH.out j (fun q => S q ∧ q < w.heap.size) W (HW.out.2.2 j hlt) (((HE.out.kid hlt).mono (T := fun q => S q ∧ q < w.heap.size) (fun q hq hs => ⟨hs, hq⟩)).grow (Gr.trans (gZ.trans h))) (colsAll_kid HCol.out hlt)
          unfold E.val ME at cj
          clear c0 c1 c2 c3 c4 c5 bx fx BZ
          generalize wr.heap.size = gz at *
          apply wp_region_calm 7 (by kernel_rfl) (by kernel_rfl)
          case h' =>
            intro Q0 hQ0
            simp only [List.take_succ_cons, List.take_zero]
            repeat (
              first
                | (apply calm_p rfl; case h1 => (intro w1 hw1 hF K hK; obtain ⟨bx, fx⟩ := ((BX.out.grow gZ).grow hw1).rules; obtain ⟨bz, fz⟩ := (BZ'.out.grow hw1).rules; go_simp; first | exact hK _ (Grow.refl _) | fail))
                | (apply calm_y rfl rfl rfl; case h1 => (intro w1 hw1 hF K hK; obtain ⟨bx, fx⟩ := ((BX.out.grow gZ).grow hw1).rules; obtain ⟨bz, fz⟩ := (BZ'.out.grow hw1).rules; go_simp; first | exact hK _ (Grow.refl _) | fail))
                | apply calm_n rfl rfl rfl rfl
              intro K hK
              go_simp
              apply hK
              clear hK K)
            apply calm_fp (PM (fun q => S q ∧ q < w.heap.size) Z by' (kid j)) rfl
            case h1 =>
              intro w1 hw1 hF K hK
              go_simp
              go_at_call 126
              refine (cj w1 hw1).mono ?_
              rintro en w' ⟨r, rfl, hr, hn, hg'⟩
              exact ⟨_, rfl, hK _ _ hg' ⟨r, rfl, hr.mono (fun q _ hq => hq.imp id (fun h => Nat.le_trans hw1.size h)), hn⟩⟩
            intro v32 K hK
            go_simp
            apply hK
            clear hK K
            repeat (
              first
                | (apply calm_p rfl; case h1 => (intro w1 hw1 hF K hK; skip; go_simp; first | exact hK _ (Grow.refl _) | fail))
                | (apply calm_y rfl rfl rfl; case h1 => (intro w1 hw1 hF K hK; skip; go_simp; first | exact hK _ (Grow.refl _) | fail))
                | apply calm_n rfl rfl rfl rfl
              intro K hK
              go_simp
              apply hK
              clear hK K)
            refine calm_nil ?_
            intro w1 hw1 hF
            apply hQ0
            clear hQ0
            simp only [List.drop_succ_cons, List.drop_zero]
            obtain ⟨r, hv, hr, hnr⟩ := hF _ (List.mem_cons_self ..)
            subst hv
            clear hF cj
            have mv1 := (MV.out.grow gZ).grow hw1
            have zs := gZ.size
            have hput := mv1.put hlt (hr.mono (T := fun q => (S q ∧ q < w.heap.size) ∨ (w.heap.size ≤ q ∧ q ≠ g ∧ q ≠ gx ∧ q ≠ gx + 1)) (fun q _ hq => by
              rcases hq with h | h
              · exact .inl h
              · have l1 := (HB.out.grow gZ).lt
                have l2 := (BX.out.grow gZ).lt
                have l3 := (BR.out.grow gZ).lt
                exact .inr ⟨by omega, by omega, by omega, by omega⟩)) hnr
            have HP := Lib.hid hput
            have GP := Lib.hid (st6_grow (Gr.trans (gZ.trans hw1)) b1 (j * 6) r)
            have BXP := Lib.hid (Blk.far9 ((BX.out.grow gZ).grow hw1) b2 (j * 6) r)
            have BRP := Lib.hid (Blk.far9 ((BR.out.grow gZ).grow hw1) b3 (j * 6) r)
            have hb1 := (HB.out.grow gZ).grow hw1
            obtain ⟨bg, fg⟩ := hb1.rules
            have szj : j * 6 + 6 ≤ cur.size := by have := HSZ.out; omega
            have gl := hb1.lt
            have cc := cur6 hb1 szj
            obtain ⟨u0, u1, u2, u3, u4, u5, k0, k1, k2, k3, k4, k5⟩ := cc
            clear mv1 hput bg hb1 hr hnr hge zs szj b1 b2 b3 n1 n1'

            go_wp2
            go_roundw
            case rel => exact ⟨j + 1, _, by omega, by go_num, BXP.out, BRP.out, HP.out, GP.out⟩
            case measure => simp [intOf]; omega
          case hp' => exact ⟨PM.pers _ _ _ _, trivial⟩
      · obtain rfl : j = n := by omega
        have fin := mv.fin (cap' := cap3) (c' := c) (k := k) (v := v) (c := c) (cap := cap) (A := A) HE.out HCI.out HCC.out
        have Fin := Lib.hid fin
        clear fin mv
        obtain ⟨br, fr⟩ := Br.rules
        clear hge n1 n1'
        go_wp2
        have B3 := (((((BR.out.set 0 (.int .i64 k)).set 1 (.int .i64 v.k)).set 2 (.int .i64 v.n)).set 3 (.string v.s)).set 4 (.int .i64 c)).set 5 (.slice B j cap3)
        simp only [List.setIfInBounds_toArray, List.set_cons_zero, List.set_cons_succ] at B3
        obtain ⟨b3, f3⟩ := B3.rules
        have G3 := st6_grow (g := gx + 1) Gr (by omega) 0 (.mk k v c B j cap3 F)
        refine bodyPost_ret (v := (E.mk k v c B j cap3 F).val) (by simp [results, Try.results126, go_sem, b3, E.val, E.kind, E.v, E.col, E.A, E.n, E.cap]) rfl ⟨E.mk k v c B j cap3 F, rfl, ?_, Fin.out.2, G3⟩
        have h1 := Fin.out.1.move (w' := st6 wr (gx + 1) 0 (.mk k v c B j cap3 F)) (fun q hq _ => st6_heap wr (gx + 1) 0 _ (by rcases hq with h | h; omega; exact h.2.2)) (by rw [st6_size]; exact Nat.le_refl _)
        exact h1.mono (fun q _ hq => hq.imp And.left And.left)
theorem moved_any (by' : Int) (hb0 : -100 ≤ by') (hb1 : by' ≤ 0) (e : E) : MovC by' e := by
  induction e with
  | leaf => intro S w hw; exact absurd hw id
  | mk k v c A n cap kid ih => exact moved_mk by' hb0 hb1 k v c A n cap kid ih
end Go.Proofs.Ytpgpecdiajmgmaa
