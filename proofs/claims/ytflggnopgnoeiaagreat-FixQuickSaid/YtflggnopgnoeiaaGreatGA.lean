/- Parts of a proof. No condition. -/
import Derived.Lib.Hide
import Derived.WalkKit
import Derived.StillTail
import Derived.Deep.Draws
import Derived.Lib.Bytealg
import Derived.Lib.Strings
import GoSem.Op.String
set_option maxRecDepth 100000
set_option linter.unusedSimpArgs false
set_option linter.unusedVariables false
namespace Go
variable {p : Prop}
theorem qQ_ {α : Type} {l : List α} {i : Nat} (h : i < l.length) : l[i]? = some l[i] := List.getElem?_eq_getElem h
theorem qQ9 {α : Type} {i : Nat} {a : α} {l : List α} : l[i]? = some a ↔ ∃ h, l[i] = a := List.getElem?_eq_some_iff
theorem qZ_ {α : Type} {l : List α} {i : Nat} {a : α} : l[i]? = some a → a ∈ l := List.mem_of_getElem?
theorem qZ9 {α β : Type} {a : α} {l : List α} {f : α → β} (h : a ∈ l) : f a ∈ l.map f := List.mem_map_of_mem h
theorem qX_ {P : Program} {fn : Func} {R : Ending → World → Prop} {a : Act} {w : World} {v : Value} : (results fn a.tmps).run P w = .ok v w → a.defers = [] → R (.returned v) w → bodyPost P fn R .ret a w := bodyPost_ret
theorem hh_ (h : p) : RowKit.Hid p := Lib.hid h
theorem oA_ (h : p := by simp only [getD_replicate_false] at hl; cases hl) : p := h
theorem vu_ (h : p := by simp only [List.length_cons] at hn; omega) : p := h
theorem vv_ (h : p := by rw [getD_replicate_false] at hl; cases hl) : p := h
theorem v3_ (h : p := by rw [<- hoth i hij]; exact hl) : p := h
theorem ub_ (h : p := by rw [jA ho hj hb]; simp) : p := h
theorem uN_ (h : p := by simp; omega) : p := h
theorem uP_ (h : p := by assumption) : p := h
theorem uX_ (h : p := by omega) : p := h
theorem uY_ (h : p := by simp) : p := h
theorem u4_ (h : p := by
 intro t ht; rw [inv.act]
 have e1 : (qK ops a0 (fun i => listed.getD i false) ρ n).tmps[t]? = (qK ops a0 (fun i => listed.getD i false) ρ j).tmps[t]? := by
  have := YV (ops := ops) (a0 := a0) (p := fun i => listed.getD i false) (ρ := ρ) (t := t) (j := j) (n - j) (fun i h1 h2 hd => by
   by_cases hij : i = j
   ·rw [hij]; exact hjf
   ·have h3 := jv hdep (i := i) (j := j) uX_ hjn hij hoj hd ht; rw [if_neg uX_] at h3; obtain ⟨oi, hoi, e, he, hb, hon⟩ := Region.waitsFor_spec h3; cases hl : listed.getD i false with
    | false => rfl
    | true =>
     have := inv.head.closed i oi hoi hl e he hb; rw [hon, hjf] at this
     cases this)
  rwa [show j + (n - j) = n by omega] at this
 rw [e1]; refine YU j fun i hi hd => ?_
 have h3 := jv hdep (i := i) (j := j) uX_ hjn uX_ hoj hd ht; rw [if_pos hi] at h3; obtain ⟨oj', hoj', e, he, hb, hon⟩ := Region.waitsFor_spec h3; obtain rfl : oj' = oj := Option.some.inj (hoj'.symm.trans hoj); rw [<- hon]; exact hall e he hb) : p := h
theorem u5_ (h : p := by
 intro i k oi ok hi hk hne hli hlk hoi hok hali halk
 by_cases hij : i = j
 ·have hkj : k ≠ j := fun h => hne (hij.trans h.symm)
  obtain rfl : oi = oj := Option.some.inj (hoi.symm.trans (by rw [hij]; exact hoj)); obtain ⟨h1, h2⟩ := hnew hali; obtain ⟨g, h3, h4⟩ := inv.alc k ok hk (by rw [<- hoth k hkj]; exact hlk) hok halk; simp only [σ, hij, hkj, if_true, if_false, h1, h3]; intro he; simp at he
  try omega
 ·by_cases hkj : k = j
  ·obtain rfl : ok = oj := Option.some.inj (hok.symm.trans (by rw [hkj]; exact hoj)); obtain ⟨h1, h2⟩ := hnew halk; obtain ⟨g, h3, h4⟩ := inv.alc i oi hi (by rw [<- hoth i hij]; exact hli) hoi hali; simp only [σ, hij, hkj, if_true, if_false, h1, h3]; intro he; simp at he
   try omega
  ·simp only [σ, hij, hkj, if_false]; exact inv.sep i k oi ok hi hk hne ((hoth i hij).symm.trans hli) ((hoth k hkj).symm.trans hlk) hoi hok hali halk) : p := h
theorem wm_ (h : p := by
 rw [mem_ready]; refine ⟨hun0', ?_⟩; have h1 := List.all_eq_true.1 hback i0 (List.mem_range.2 hi0); cases ho : ops[i0]? with
 | none => simp [ho] at h1
 | some o =>
  simp only [ho] at h1; refine ⟨o, rfl, fun e he hb => ?_⟩; have h2 := Array.all_eq_true_iff_forall_mem.1 h1 e he; simp only [hb, Bool.not_true, Bool.false_or, decide_eq_true_eq] at h2; exact hmin e.on h2) : p := h
theorem ww_ (h : p := by
 have : ∀ k, qK l.toArray a (fun i => (Array.replicate l.toArray.size false).getD i false) (fun i => match ss.getD i (.inl undef) with | .inl c => c | .inr _ => undef) k = a := by
  intro k
  induction k with
  | zero => rfl
  | succ k ihk =>
   unfold qK; rw [getD_replicate_false]; exact ihk
 exact (this n).symm) : p := h
theorem wC_ (h : p := by
 have hsz := inv.head.size; apply Array.ext
 ·simp [Xa, hsz]; omega
 ·intro i h1 h2; rcases Nat.lt_or_ge i n with h' | h'
  ·have := hall i h'; simp [h1] at this; simp [Xa, h', this]
  ·have := inv.head.tail i h' uX_; simp [h1] at this; simp [Xa, Array.getElem_append, Nat.not_lt.2 h', this]) : p := h
theorem wF_ (h : p := by
 have e := W9 (ops := ops) (a0 := a0) (p := fun i => listed.getD i false) (q := fun i => (listed.setIfInBounds j true).getD i false) (ρ := ρ) (σ := σ) hdst hjn hjf hset hoth (fun i hi => by simp [σ, hi]) n hjn (Nat.le_refl _); rw [e, inv.act]; simp [σ, hoj]) : p := h
theorem wJ_ (h : p := by
 subst hjk; obtain rfl : oj = o := Option.some.inj (hoj.symm.trans h0); exact here _ h1 hs) : p := h
theorem wK_ (h : p := by
 rcases Nat.lt_or_ge j n with h' | h'
 ·exact h'
 ·unfold Ug at htail; split at htail
  ·omega
  ·simp only [Bool.and_eq_true, decide_eq_true_eq] at htail; exact absurd hj (tail_waits htail.1.2 htail.2 htail.1.1 inv.head _ i0 rfl hi0 hun0' j h')) : p := h
theorem wQ_ (h : p := by
 have hk : k = n := by simpa using hn
 subst hk; refine ⟨fun j o h1 h2 => by omega, fun w hw hD hsep => ?_⟩; unfold zG at h
 exact h w hw (fun p hp => by
  obtain ⟨i, D, hi, hs, rfl⟩ := hF p hp
  exact hD i D hi hs) (hGp hsep)) : p := h
theorem xa_ (h : p := by
 rcases List.mem_cons.1 hv with rfl | hv
 ·exact ⟨k, o, by omega, h0, by assumption, rfl⟩
 ·obtain ⟨i, oi, hi, r⟩ := hG v hv; exact ⟨i, oi, by omega, r⟩) : p := h
theorem xb_ (h : p := by
 refine List.pairwise_cons.2 ⟨fun v hv => ?_, hGp hsep⟩; obtain ⟨i, oi, hi, hoi, hal, rfl⟩ := hG v hv; exact hsep k i o oi hlen uX_ uX_ rfl rfl h0 hoi uP_ hal) : p := h
theorem xf_ (h : p := by
 subst hij; obtain rfl : oi = oj := Option.some.inj (hoi.symm.trans hoj); obtain ⟨h1, h2⟩ := hnew hal; exact ⟨w.heap.size, by simp [σ, h1], by omega⟩) : p := h
theorem xm_ (h : p := by
 show (match ss.getD i (.inl undef) with | .inl c => c | .inr _ => undef) = c; have hs' : ss.getD i (.inl undef) = .inl c := hs; rw [hs']) : p := h
theorem xo_ (h : p := by
 rename_i hw; rw [if_pos hw] at hst; exact .inl (ZQ (Wb hselj hsame) (Zm hst) fun v w' ⟨⟨hg, hv⟩, hn⟩ => next v w' hg hv hn)) : p := h
theorem xq_ (h : p := by
 have := Jg (p := fun i => listed.getD i false) (q := fun i => (listed.setIfInBounds j true).getD i false) hjf hset hoth hjn; omega) : p := h
theorem xw_ (h : p := by
 have h' : ¬ a < b := UInt8.lt_asymm h; have : a ≠ b := fun e => by subst e; exact UInt8.lt_irrefl a h
 simp [h, h', this]) : p := h
theorem xO_ (h : p := by
 intro k
 induction k with
 | zero => rfl
 | succ k ihk => unfold NY; rw [ihk, getD_replicate_false]; simp) : p := h
theorem xP_ (h : p := by
 rcases List.mem_cons.1 hs with rfl | hs
 ·cases e; exact h.1
 ·exact xL.of_mem (ss := ss) h.2 s hs D e) : p := h
theorem x7_ (h : p := by
 have hi' : i < ss.length := by omega
 refine hp (ss.getD i (.inl undef)) ?_ D hs; simp [hi']) : p := h
theorem x8_ (h : p := by
 rcases List.mem_cons.1 hs with rfl | hs
 ·cases e
 ·exact xL.of_mem (ss := ss) h s hs D e) : p := h
theorem yd_ (h : p := by
 have := hos (j + 1) uN_; rw [show k + 1 + j = k + (j + 1) by omega]; simpa using this) : p := h
theorem ye_ (h : p := by
 have := hss (j + 1) uN_; rw [show k + 1 + j = k + (j + 1) by omega]; simpa using this) : p := h
theorem yg_ (h : p := by
 simp only [Z9, Bool.and_eq_true, decide_eq_true_eq] at hB; simpa using hB.1.1.1.1.1.2) : p := h
theorem yn_ (h : p := by
 simp only [σ, if_neg hij]; exact hp i D hi hs _ _ _ hg (inv.free i D hi v3_ hs)) : p := h
theorem yt_ (h : p := by
 have : j < listed.size := by rw [inv.head.size]; exact hjs
 simp [this]) : p := h
theorem yF_ (h : p := by
 subst h; simp [UInt8.lt_irrefl, ih]) : p := h
theorem yK_ (h : p := by
 exact g1 j oj uX_ hjn hoj) : p := h
theorem yM_ (h : p := by
 have : j < ss.length := by simp at hj; omega
 simp [this]) : p := h
theorem yO_ (h : p := by
 subst hij; rw [hs] at hv; simpa [σ, Spec.holds] using hv) : p := h
end Go
namespace Go.Calm
open Go.RowKit
/-! ### A world grows: what was there stays -/
structure za (w w' : World) : Prop where
 below : Below w.heap.size w w'
theorem za.refl (w : World) : za w w := ⟨Below.refl _ _⟩
theorem za.trans {a b c : World} (h : za a b) (k : za b c) : za a c := ⟨Below.trans h.below (Below.mono k.below h.below.size)⟩
theorem za.al {a w : World} (h : za a w) (o : Obj) : za a (w.alloc o) := h.trans ⟨(Below.refl _ _).alloc (Nat.le_refl _) o⟩
theorem za.drew {a w : World} (h : za a w) : za a w.drew := ⟨Below.drew h.below⟩
theorem za.drewN {a w : World} (h : za a w) (n : Nat) : za a (w.drewN n) := ⟨⟨h.below.os, h.below.tape, h.below.output, h.below.size, h.below.block⟩⟩
theorem za.set {a w : World} (h : za a w) {p : Addr} (hp : a.heap.size <= p.block) (u : Value) : za a (w.setCell p u) := ⟨h.below.setCell hp u⟩
theorem ze {a b : World} (h : za a b := by with_reducible repeat (first | exact za.refl _ | assumption | refine za.set ?_ (by simp <;> omega) _ | refine za.al ?_ _ | refine za.drew ?_ | refine za.drewN ?_ _ | refine za.trans ?_ uP_)) : za a b := h
theorem za.lt {w : World} {p : Addr} {v : Value} (h : w.cell? p = some v) : p.block < w.heap.size := by
 unfold World.cell? at h; rcases Nat.lt_or_ge p.block w.heap.size with h' | h'
 ·exact h'
 ·simp [Array.getElem?_eq_none h'] at h
theorem za.cell {w w' : World} (h : za w w') {p : Addr} {v : Value} (hc : w.cell? p = some v) : w'.cell? p = some v :=
 (Below.cell h.below (za.lt hc)).trans hc
theorem za.size {w w' : World} (h : za w w') : w.heap.size <= w'.heap.size := h.below.size
theorem za.heap {w w' : World} (h : za w w') {g : Nat} {o : Obj} (hg : w.heap[g]? = some o) : w'.heap[g]? = some o := by
 rw [h.below.block g ?_]; exact hg; rcases Nat.lt_or_ge g w.heap.size with h' | h'
 ·exact h'
 ·rw [Array.getElem?_eq_none h'] at hg; cases hg
theorem za.rules {w w' : World} (h : za w w') : (∀ b o, b < w.heap.size -> w'.cell? ⟨b, o, none⟩ = w.cell? ⟨b, o, none⟩) /\ (∀ b o, b < w.heap.size -> w'.frozen? ⟨b, o, none⟩ = w.frozen? ⟨b, o, none⟩) /\ w.heap.size <= w'.heap.size :=
 ⟨fun b o hb => h.below.cell (p := ⟨b, o, none⟩) hb, fun b o hb => h.below.frozen (p := ⟨b, o, none⟩) hb, h.size⟩
/-! ### The law -/
abbrev Spec := Value ⊕ (Value -> World -> Prop)
def Spec.holds (s : Spec) (v : Value) (w : World) : Prop :=
 match s with
 | .inl c => v = c
 | .inr D => D v w
def xQ (D : Value -> World -> Prop) : Prop := ∀ v w w', za w w' -> D v w -> D v w'
def xL : List Spec -> Prop
 | [] => True
 | .inl _ :: ss => xL ss
 | .inr D :: ss => xQ D /\ xL ss
theorem xL.of_mem : ∀ {ss : List Spec}, xL ss -> ∀ s ∈ ss, ∀ D, s = .inr D -> xQ D
 | .inl _ :: ss, h, s, hs, D, e => x8_
 | .inr _ :: ss, h, s, hs, D, e => xP_
section
variable {P : Program} {ops : Array Oper} {md : Region.Mode}
def qG (P : Program) (R : Value -> World -> Prop) : Result Next -> Prop
 | .ok (.value u) w' => R u w'
 | .ok .skip w' => R undef w'
 | .ok (.enter f args) w' => Calls P f args w' fun e w'' => ∃ u, e = .returned u /\ R u w''
 | _ => False
theorem K4 {R R' : Value -> World -> Prop} (h : ∀ v w, R v w -> R' v w) {r : Result Next} (hh : qG P R r) : qG P R' r := by
 cases r with
 | ok n w' =>
  cases n <;> simp only [qG] at hh ⊢
  case enter f args => exact hh.mono fun e w'' ⟨u, he, hr⟩ => ⟨u, he, h _ _ hr⟩
  all_goals exact h _ _ hh
 | halt x w' => simp only [qG] at hh
def yX (P : Program) (o : Oper) (a : Act) (w : World) (R : Value -> World -> Prop) : Prop := qG P R ((execOp a.eval o).run P w)
theorem Wo {R R' : Value -> World -> Prop} {o : Oper} {a : Act} {w : World} (h : ∀ v w, R v w -> R' v w) (hh : yX P o a w R) : yX P o a w R' := K4 h hh
theorem ZQ {o : Oper} {a b : Act} {w : World} {R : Value -> World -> Prop} {K : Act -> World -> Prop} {Q : Exit -> Act -> World -> Prop}
  (he : execOp b.eval o = execOp a.eval o) (hh : yX P o a w R) (h : ∀ v w', R v w' -> K (b.put o.dst v) w') : o.wp P b w K Q := by
 unfold Oper.wp; unfold yX at hh; rw [he]; generalize (execOp a.eval o).run P w = r at *; cases r with
 | ok n w' =>
  cases n <;> simp only [qG] at hh <;> simp only [Oper.upon]
  case value u => exact h _ _ hh
  case skip => exact h _ _ hh
  case enter f args => exact hh.mono fun e w'' ⟨u, he, hr⟩ => by subst he; exact h _ _ hr
 | halt x w' => simp only [qG] at hh
def jS (o : Oper) : Bool := match o.op, o.guard with
 | .alloc _, none => true
 | _, _ => false
def Yd (o : Oper) (v : Value) (G : List Value) : List Value := if jS o then v :: G else G
theorem Dx {o : Oper} (h : jS o = true) : ∃ t, o.op = .alloc t := by
 unfold jS at h; split at h
 ·exact ⟨_, by assumption⟩
 ·cases h
theorem zak {P : Program} {o : Oper} {elem : TypeId} (ho : o.op = .alloc elem) (ρ : Operand -> Value) (w : World) {n : Next} {w' : World} (h : (execOp ρ o).run P w = .ok n w') :
  n = .value (.pointer (some ⟨w.heap.size, 0, none⟩)) /\ w'.heap.size = w.heap.size + 1 := by
 unfold execOp at h; rw [ho] at h; simp only [Instr.alloc, zeroValue, newVar, newRow] at h; simp only [Sem.run_bind] at h; cases hi : (typeInfo elem).run P w with
 | halt x w1 => rw [hi] at h; cases h
 | ok i w1 =>
  have hw : w1 = w := by
   simp only [typeInfo, Sem.run_bind] at hi; have hp : Sem.run P program w = .ok P w := rfl; rw [hp] at hi; simp only [Result.andThen] at hi; cases hj : P.info? elem with
   | none => rw [hj] at hi; cases hi
   | some j => rw [hj] at hi; cases hi; rfl
  subst hw; rw [hi] at h; simp only [Result.andThen] at h; cases hz : i.zero with
  | none => rw [hz] at h; cases h
  | some v =>
   rw [hz] at h; simp [go_sem] at h; obtain ⟨rfl, rfl⟩ := h; exact ⟨rfl, by simp⟩
theorem Zm {R : Value -> World -> Prop} {o : Oper} {a : Act} {w : World} (hh : yX P o a w R) : yX P o a w fun v w' => R v w' /\ (jS o = true -> v = .pointer (some ⟨w.heap.size, 0, none⟩) /\ w'.heap.size = w.heap.size + 1) := by
 by_cases h : jS o = true
 ·obtain ⟨t, ht⟩ := Dx h; unfold yX at hh ⊢; cases hr : (execOp a.eval o).run P w with
  | halt x w' => rw [hr] at hh; exact hh
  | ok n w' =>
   obtain ⟨rfl, hs⟩ := zak ht _ _ hr; rw [hr] at hh; exact ⟨hh, fun _ => ⟨rfl, hs⟩⟩
 ·exact Wo (fun v w' hv => ⟨hv, fun h' => absurd h' h⟩) hh
def Xy (P : Program) (ops : Array Oper) (o : Oper) (s : Spec) (a : Act) (w : World) : Prop :=
 if Region.wanted o (yielded ops a.tmps) then yX P o a w (fun v w' => za w w' /\ s.holds v w') else s.holds undef w
def zG (P : Program) (ops : Array Oper) (w0 : World) (Q : Act -> World -> Prop) : List Spec -> List Oper -> Act -> List (Option Tmp × (World -> Prop)) -> List Value -> Prop
 | _, [], a, F, G => ∀ w, za w0 w -> (∀ p ∈ F, p.2 w) -> G.Pairwise (· ≠ ·) -> Q a w
 | [], _ :: _, _, _, _ => False
 | .inl c :: ss, o :: os, a, F, G => (∀ w, za w0 w -> (∀ p ∈ F, (∃ t, p.1 = some t /\ t ∈ o.looksAt ops) -> p.2 w) -> Xy P ops o (.inl c) a w) /\ zG P ops w0 Q ss os (a.put o.dst c) F G
 | .inr D :: ss, o :: os, a, F, G => (∀ w, za w0 w -> (∀ p ∈ F, (∃ t, p.1 = some t /\ t ∈ o.looksAt ops) -> p.2 w) -> Xy P ops o (.inr D) a w) /\ ∀ v, zG P ops w0 Q ss os (a.put o.dst v) ((o.dst, D v) :: F) (Yd o v G)
/-! ### Frames by which operations have come up -/
def qK (ops : Array Oper) (a0 : Act) (p : Nat -> Bool) (ρ : Nat -> Value) : Nat -> Act
 | 0 => a0
 | k + 1 => if p k then (qK ops a0 p ρ k).put ((ops[k]?).bind (·.dst)) (ρ k) else qK ops a0 p ρ k
theorem Ex (a : Act) (d : Option Tmp) (v : Value) : (a.put d v).tmps.size = a.tmps.size := by cases d <;> simp [Act.put]
theorem zag {a b : Act} (hs : a.tmps.size = b.tmps.size) (d : Option Tmp) (v : Value) (t : Tmp) (h : d ≠ some t -> a.tmps[t]? = b.tmps[t]?) : (a.put d v).tmps[t]? = (b.put d v).tmps[t]? := by
 cases d with
 | none => exact h uY_
 | some d =>
  by_cases hd : d = t
  ·subst hd; simp [Act.put, Array.getElem?_setIfInBounds, hs]
  ·have := h (by simpa using hd); simp [Act.put, Array.getElem?_setIfInBounds_ne hd, this]
theorem Zh (a : Act) (d : Option Tmp) (v : Value) (t : Tmp) (h : d ≠ some t) : (a.put d v).tmps[t]? = a.tmps[t]? := by
 cases d with
 | none => rfl
 | some d => simp [Act.put, Array.getElem?_setIfInBounds_ne (show d ≠ t by simpa using h)]
variable {a0 : Act}
theorem Yj (p : Nat -> Bool) (ρ : Nat -> Value) : ∀ k, (qK ops a0 p ρ k).tmps.size = a0.tmps.size
 | 0 => rfl
 | k + 1 => by
  unfold qK; split
  ·rw [Ex]; exact Yj p ρ k
  ·exact Yj p ρ k
theorem YU {p q : Nat -> Bool} {ρ : Nat -> Value} {t : Tmp} : ∀ k, (∀ i, i < k -> (ops[i]?).bind (·.dst) = some t -> p i = q i) -> (qK ops a0 p ρ k).tmps[t]? = (qK ops a0 q ρ k).tmps[t]?
 | 0, _ => rfl
 | k + 1, h => by
  have ih := YU (p := p) (q := q) (ρ := ρ) (t := t) k (fun i hi => h i uX_)
  by_cases hd : (ops[k]?).bind (·.dst) = some t
  ·have hpq := h k uX_ hd; unfold qK; rw [hpq]; split
   ·exact zag (by rw [Yj, Yj]) _ _ _ (fun _ => ih)
   ·exact ih
  ·have e1 : ∀ r : Nat -> Bool, (qK ops a0 r ρ (k + 1)).tmps[t]? = (qK ops a0 r ρ k).tmps[t]? := fun r => by
    conv => lhs; unfold qK
    split
    ·exact Zh _ _ _ _ hd
    ·rfl
   rw [e1, e1, ih]
theorem YV {p : Nat -> Bool} {ρ : Nat -> Value} {t : Tmp} {j : Nat} : ∀ d, (∀ i, j <= i -> i < j + d -> (ops[i]?).bind (·.dst) = some t -> p i = false) -> (qK ops a0 p ρ (j + d)).tmps[t]? = (qK ops a0 p ρ j).tmps[t]?
 | 0, _ => rfl
 | d + 1, h => by
  have ih := YV (p := p) (ρ := ρ) (t := t) (j := j) d (fun i hi hi' => h i hi uX_); rw [<- ih]; show (qK ops a0 p ρ (j + d + 1)).tmps[t]? = _
  conv => lhs; unfold qK
  by_cases hd : (ops[j + d]?).bind (·.dst) = some t
  ·rw [h (j + d) uX_ uX_ hd]; rfl
  ·split
   ·exact Zh _ _ _ _ hd
   ·rfl
theorem Yi {p q : Nat -> Bool} {ρ σ : Nat -> Value} : ∀ k, (∀ i, i < k -> p i = q i) -> (∀ i, i < k -> q i = true -> ρ i = σ i) -> qK ops a0 p ρ k = qK ops a0 q σ k
 | 0, _, _ => rfl
 | k + 1, h, hr => by
  have ih := Yi (p := p) (q := q) (ρ := ρ) (σ := σ) k (fun i hi => h i uX_) (fun i hi => hr i uX_); unfold qK; rw [ih, h k uX_]
  by_cases hq : q k = true
  ·rw [hr k uX_ hq]
  ·simp [hq]
def Tx (ops : Array Oper) (n : Nat) : Bool :=
 (List.range n).all fun i => (List.range n).all fun j => i == j || ((ops[i]?).bind (·.dst)).isNone || (ops[i]?).bind (·.dst) != (ops[j]?).bind (·.dst)
theorem Se {n : Nat} (h : Tx ops n = true) {i j : Nat} (hi : i < n) (hj : j < n) (hne : i ≠ j) : ∀ d, (ops[i]?).bind (·.dst) = some d -> (ops[j]?).bind (·.dst) ≠ some d := by
 intro d hd hd'; have h1 := List.all_eq_true.1 (List.all_eq_true.1 h i (List.mem_range.2 hi)) j (List.mem_range.2 hj); simp [hne, hd, hd'] at h1
theorem W9 {n j : Nat} {p q : Nat -> Bool} {ρ σ : Nat -> Value} (hd : Tx ops n = true) (hj : j < n) (hpj : p j = false) (hqj : q j = true) (hpq : ∀ i, i ≠ j -> q i = p i) (hρ : ∀ i, i ≠ j -> σ i = ρ i) :
  ∀ k, j < k -> k <= n -> qK ops a0 q σ k = (qK ops a0 p ρ k).put ((ops[j]?).bind (·.dst)) (σ j)
 | 0, h, _ => by omega
 | k + 1, hk, hkn => by
  by_cases hjk : j = k
  ·subst hjk; have e : qK ops a0 q σ j = qK ops a0 p ρ j := Yi j (fun i hi => hpq i uX_) (fun i hi _ => hρ i uX_)
   conv => lhs; unfold qK
   conv => rhs; unfold qK
   rw [hqj, hpj, e]; rfl
  ·have ih := W9 hd hj hpj hqj hpq hρ k uX_ uX_
   conv => lhs; unfold qK
   conv => rhs; unfold qK
   rw [hpq k (Ne.symm hjk), hρ k (Ne.symm hjk), ih]; split
   ·exact Act.put_comm _ _ _ (Se hd hj uX_ hjk)
   ·rfl
theorem Pw {a b : Act} {x : Operand} (h : ∀ t, x = .tmp t -> a.tmps[t]? = b.tmps[t]?) : a.eval x = b.eval x := by
 cases x with
 | tmp t => simp only [Act.eval, Array.getD_eq_getD_getElem?]; rw [h t rfl]
 | _ => rfl
theorem Wb {o : Oper} (hs : ∀ cs b, o.op ≠ .select cs b) {a b : Act} (h : ∀ t, t ∈ o.looksAt ops -> a.tmps[t]? = b.tmps[t]?) : execOp a.eval o = execOp b.eval o :=
 execOp_congr o hs fun x hx => Pw fun t ht => h t (by
  subst ht
  exact List.mem_append_left _ (List.mem_filterMap.2 ⟨.tmp t, by simpa using hx, rfl⟩))
theorem Yu {o : Oper} {a b : Act} (h : ∀ t, t ∈ o.looksAt ops -> a.tmps[t]? = b.tmps[t]?) : Region.wanted o (yielded ops a.tmps) = Region.wanted o (yielded ops b.tmps) := by
 unfold Region.wanted; cases hg : o.guard with
 | none => rfl
 | some gw =>
  obtain ⟨g, want⟩ := gw
  have hy : yielded ops a.tmps g = yielded ops b.tmps g := by
   unfold yielded; cases ht : (ops[g]?).bind (·.dst) with
   | none => rfl
   | some t =>
    have := h t (by simp [Oper.looksAt, hg, ht]); simp [this]
  simp only [hy]
/-! ### The checks over a region -/
def za0 (md : Region.Mode) (ops : Array Oper) (n : Nat) : Bool :=
 (List.range n).all fun j => match ops[j]? with
  | none => false
  | some oj => (List.range n).all fun i => i == j || match (ops[i]?).bind (·.dst) with
   | none => true
   | some t => !(oj.looksAt ops).contains t || (if i < j then Region.waitsFor md ops j i else Region.waitsFor md ops i j)
theorem jv {n : Nat} (h : za0 md ops n = true) {i j : Nat} {oj : Oper} (hi : i < n) (hj : j < n) (hne : i ≠ j) (hoj : ops[j]? = some oj) {t : Tmp} (hd : (ops[i]?).bind (·.dst) = some t) (ht : t ∈ oj.looksAt ops) :
  if i < j then Region.waitsFor md ops j i = true else Region.waitsFor md ops i j = true := by
 have h1 := List.all_eq_true.1 h j (List.mem_range.2 hj); simp only [hoj] at h1; have h2 := List.all_eq_true.1 h1 i (List.mem_range.2 hi); simp only [hd, Bool.or_eq_true, beq_iff_eq, hne, false_or, Bool.not_eq_true', List.contains_eq_mem, decide_eq_false_iff_not] at h2; rcases h2 with h2 | h2
 ·exact absurd ht h2
 ·split <;> simp_all
def zaF (md : Region.Mode) (ops : Array Oper) (n : Nat) : Bool :=
 (List.range n).all fun j => match ops[j]? with
  | none => false
  | some oj => oj.after.all fun e => !Region.binds md e || decide (e.on < j)
def Ug (md : Region.Mode) (ops : Array Oper) (n : Nat) : Bool :=
 if n = ops.size then true else decide (n < ops.size) && Region.sinkB md ops n && Region.chainB md ops n
def Xa (n size : Nat) : Array Bool := Array.replicate n true ++ Array.replicate (size - n) false
def Z9 (md : Region.Mode) (ops : Array Oper) (n : Nat) : Bool :=
 Region.noSelect ops && decide (n <= ops.size) && Tx ops n && za0 md ops n && zaF md ops n && Ug md ops n && Region.seqB md ops (ops.size - n) n (Xa n ops.size)
/-! ### Soundness -/
def NY (p : Nat -> Bool) : Nat -> Nat
 | 0 => 0
 | k + 1 => NY p k + if p k then 0 else 1
theorem YB {p : Nat -> Bool} : ∀ {n : Nat}, NY p n = 0 -> ∀ i, i < n -> p i = true
 | n + 1, h, i, hi => by
  unfold NY at h
  by_cases hp : p n = true
  ·rcases Nat.lt_or_ge i n with h' | h'
   ·exact YB (n := n) uX_ i h'
   ·have : i = n := by omega
    subst this; exact hp
  ·simp [hp] at h
theorem Jf {p : Nat -> Bool} : ∀ {n : Nat}, 0 < NY p n -> ∃ i, i < n /\ p i = false /\ ∀ k, k < i -> p k = true
 | n + 1, h => by
  by_cases h0 : NY p n = 0
  ·refine ⟨n, by omega, ?_, YB h0⟩; cases hp : p n with
   | false => rfl
   | true => simp [NY, h0, hp] at h
  ·obtain ⟨i, hi, r⟩ := Jf (p := p) (n := n) (Nat.pos_of_ne_zero h0); exact ⟨i, by omega, r⟩
theorem KF {p q : Nat -> Bool} : ∀ {n : Nat}, (∀ i, i < n -> p i = q i) -> NY p n = NY q n
 | 0, _ => rfl
 | n + 1, h => by
  unfold NY; rw [KF (n := n) (fun i hi => h i uX_), h n uX_]
theorem Jg {p q : Nat -> Bool} {j : Nat} (hp : p j = false) (hq : q j = true) (h : ∀ i, i ≠ j -> q i = p i) : ∀ {n : Nat}, j < n -> NY p n = NY q n + 1
 | n + 1, hj => by
  unfold NY
  by_cases hjn : j = n
  ·subst hjn; rw [hp, hq, KF (p := p) (q := q) (fun i hi => (h i uX_).symm)]; simp
  ·rw [Jg hp hq h (n := n) uX_, h n (Ne.symm hjn)]; omega
def Sep (ops : Array Oper) (n : Nat) (free : Nat -> Bool) (ρ : Nat -> Value) : Prop := ∀ i j oi oj, i < n -> j < n -> i ≠ j -> free i = true -> free j = true -> ops[i]? = some oi -> ops[j]? = some oj -> jS oi = true -> jS oj = true -> ρ i ≠ ρ j
structure Jj (P : Program) (ops : Array Oper) (w0 : World) (a0 : Act) (n : Nat) (sp : Nat -> Spec) (Q : Act -> World -> Prop) : Prop where
 op : ∀ ρ : Nat -> Value, (∀ i c, i < n -> sp i = .inl c -> ρ i = c) -> ∀ j o, j < n -> ops[j]? = some o -> ∀ w, za w0 w ->
  (∀ i D t, i < j -> sp i = .inr D -> (ops[i]?).bind (·.dst) = some t -> t ∈ o.looksAt ops -> D (ρ i) w) -> Xy P ops o (sp j) (qK ops a0 (fun _ => true) ρ j) w
 fin : ∀ ρ : Nat -> Value, (∀ i c, i < n -> sp i = .inl c -> ρ i = c) -> ∀ w, za w0 w -> (∀ i D, i < n -> sp i = .inr D -> D (ρ i) w) -> Sep ops n (fun _ => true) ρ -> Q (qK ops a0 (fun _ => true) ρ n) w
theorem qS {w0 : World} {Q : Act -> World -> Prop} {n : Nat} {sp : Nat -> Spec} {ρ : Nat -> Value} (hfix : ∀ i c, i < n -> sp i = .inl c -> ρ i = c) :
  ∀ (os : List Oper) (ss : List Spec) (k : Nat) (F : List (Option Tmp × (World -> Prop))) (G : List Value), k + os.length = n -> (∀ j, j < os.length -> os[j]? = ops[k + j]?) -> (∀ j, j < os.length -> ss[j]? = some (sp (k + j))) ->
   (∀ p ∈ F, ∃ i D, i < k /\ sp i = .inr D /\ p = ((ops[i]?).bind (·.dst), D (ρ i))) ->
   (∀ v ∈ G, ∃ i oi, i < k /\ ops[i]? = some oi /\ jS oi = true /\ v = ρ i) -> (Sep ops n (fun _ => true) ρ -> G.Pairwise (· ≠ ·)) ->
   zG P ops w0 Q ss os (qK ops a0 (fun _ => true) ρ k) F G ->
   (∀ j o, k <= j -> j < n -> ops[j]? = some o -> ∀ w, za w0 w -> (∀ i D t, i < j -> sp i = .inr D -> (ops[i]?).bind (·.dst) = some t -> t ∈ o.looksAt ops -> D (ρ i) w) -> Xy P ops o (sp j) (qK ops a0 (fun _ => true) ρ j) w) /\
   (∀ w, za w0 w -> (∀ i D, i < n -> sp i = .inr D -> D (ρ i) w) -> Sep ops n (fun _ => true) ρ -> Q (qK ops a0 (fun _ => true) ρ n) w)
 | [], ss, k, F, G, hn, _, _, hF, hG, hGp, h => wQ_
 | o :: os, ss, k, F, G, hn, hos, hss, hF, hG, hGp, h => by
  have hlen : k < n := by simp only [List.length_cons] at hn; omega
  have h0 : ops[k]? = some o := by simpa using (hos 0 uY_).symm
  have hs0 : ss[0]? = some (sp k) := by simpa using hss 0 uY_
  cases ss with
  | nil => simp at hs0
  | cons s ss =>
   have hs : s = sp k := by simpa using hs0
   have hfr : qK ops a0 (fun _ => true) ρ (k + 1) = (qK ops a0 (fun _ => true) ρ k).put o.dst (ρ k) := by
    conv => lhs; unfold qK
    simp [h0]
   have hos' : ∀ j, j < os.length -> os[j]? = ops[(k + 1) + j]? := fun j hj => yd_
   have hss' : ∀ j, j < os.length -> ss[j]? = some (sp ((k + 1) + j)) := fun j hj => ye_
   have here : ∀ (s' : Spec), (∀ w, za w0 w -> (∀ p ∈ F, (∃ t, p.1 = some t /\ t ∈ o.looksAt ops) -> p.2 w) -> Xy P ops o s' (qK ops a0 (fun _ => true) ρ k) w) -> s' = sp k ->
     ∀ w, za w0 w -> (∀ i D t, i < k -> sp i = .inr D -> (ops[i]?).bind (·.dst) = some t -> t ∈ o.looksAt ops -> D (ρ i) w) -> Xy P ops o (sp k) (qK ops a0 (fun _ => true) ρ k) w := by
    intro s' h1 h2 w hw hD; rw [<- h2]; refine h1 w hw fun p hp ⟨t, ht, hl⟩ => ?_
    obtain ⟨i, D, hi, hsi, rfl⟩ := hF p hp; exact hD i D t hi hsi ht hl
   cases s with
   | inl c =>
    unfold zG at h; obtain ⟨h1, h2⟩ := h; have hc : ρ k = c := hfix k c hlen hs.symm; have h2' : zG P ops w0 Q ss os (qK ops a0 (fun _ => true) ρ (k + 1)) F G := by rw [hfr, hc]; exact h2
    obtain ⟨g1, g2⟩ := qS hfix os ss (k + 1) F G vu_ hos' hss' (fun p hp => by
     obtain ⟨i, D, hi, r⟩ := hF p hp
     exact ⟨i, D, by omega, r⟩) (fun v hv => by
     obtain ⟨i, oi, hi, r⟩ := hG v hv
     exact ⟨i, oi, by omega, r⟩) hGp h2'
    refine ⟨fun j oj hkj hjn hoj => ?_, g2⟩
    by_cases hjk : j = k
    ·exact wJ_
    ·exact yK_
   | inr D =>
    unfold zG at h; obtain ⟨h1, h2⟩ := h; have h2' : zG P ops w0 Q ss os (qK ops a0 (fun _ => true) ρ (k + 1)) ((o.dst, D (ρ k)) :: F) (Yd o (ρ k) G) := by rw [hfr]; exact h2 (ρ k)
    obtain ⟨g1, g2⟩ := qS hfix os ss (k + 1) _ (Yd o (ρ k) G) vu_ hos' hss' (fun p hp => by
     rcases List.mem_cons.1 hp with rfl | hp
     ·exact ⟨k, D, by omega, hs.symm, by simp [h0]⟩
     ·obtain ⟨i, D, hi, r⟩ := hF p hp
      exact ⟨i, D, by omega, r⟩) (fun v hv => by
     unfold Yd at hv; split at hv
     ·exact xa_
     ·obtain ⟨i, oi, hi, r⟩ := hG v hv
      exact ⟨i, oi, by omega, r⟩) (fun hsep => by
     unfold Yd; split
     ·exact xb_
     ·exact hGp hsep) h2'
    refine ⟨fun j oj hkj hjn hoj => ?_, g2⟩
    by_cases hjk : j = k
    ·exact wJ_
    ·exact yK_
structure xt (md : Region.Mode) (ops : Array Oper) (w0 : World) (a0 : Act) (n : Nat) (sp : Nat -> Spec) (listed : Array Bool) (ρ : Nat -> Value) (a : Act) (w : World) : Prop where
 head : HeadInv md ops n listed
 grow : za w0 w
 fix : ∀ i c, i < n -> sp i = .inl c -> ρ i = c
 free : ∀ i D, i < n -> listed.getD i false = true -> sp i = .inr D -> D (ρ i) w
 act : a = qK ops a0 (fun i => listed.getD i false) ρ n
 alc : ∀ i oi, i < n -> listed.getD i false = true -> ops[i]? = some oi -> jS oi = true -> ∃ g, ρ i = .pointer (some ⟨g, 0, none⟩) /\ g < w.heap.size
 sep : Sep ops n (fun i => listed.getD i false) ρ
theorem Jp {Q' : Exit -> Act -> World -> Prop} {w0 : World} {n : Nat} {sp : Nat -> Spec} {tl : List Oper}
  (hB : Z9 md ops n = true) (htl : tl = ops.toList.drop n) (hp : ∀ i D, i < n -> sp i = .inr D -> xQ D)
  (H : Jj P ops w0 a0 n sp (fun a w => wpList P ops Q' tl a w)) :
  ∀ (m : Nat) (listed : Array Bool) (ρ : Nat -> Value) (a : Act) (w : World), NY (fun i => listed.getD i false) n = m -> xt md ops w0 a0 n sp listed ρ a w -> wpAny P md ops Q' (m + tl.length) listed a w := by
 simp only [Z9, Bool.and_eq_true, decide_eq_true_eq] at hB; obtain ⟨⟨⟨⟨⟨⟨hsel, hn⟩, hdst⟩, hdep⟩, hback⟩, htail⟩, hseq⟩ := hB; have hlen : tl.length = ops.size - n := by rw [htl]; simp
 have hget : ∀ j, tl[j]? = ops[n + j]? := fun j => by rw [htl]; simp [List.getElem?_drop]
 intro m
 induction m with
 | zero =>
  intro listed ρ a w hm inv; have hall := YB hm
  have hl : listed = Xa n ops.size := wC_
  rw [Nat.zero_add]; refine wpAny_of_seq tl n listed a w hget (by rw [hlen, hl]; exact hseq) ?_
  have hfr : a = qK ops a0 (fun _ => true) ρ n := by
   rw [inv.act]; exact Yi n hall (fun _ _ _ => rfl)
  rw [hfr]; exact H.fin ρ inv.fix w inv.grow (fun i D hi hs => inv.free i D hi (hall i hi) hs) fun i j oi oj hi hj hne _ _ => inv.sep i j oi oj hi hj hne (hall i hi) (hall j hj)
 | succ m ih =>
  intro listed ρ a w hm inv; obtain ⟨i0, hi0, hun0, hmin⟩ := Jf (n := n) (p := fun i => listed.getD i false) uX_; have hun0' : listed.getD i0 true = false := getD_in (by rw [inv.head.size]; omega) hun0
  have hr0 : i0 ∈ Region.ready md ops listed := wm_
  rw [show m + 1 + tl.length = (m + tl.length) + 1 by omega]; refine ⟨fun h => (by rw [h] at hr0; cases hr0), fun j hj => ?_⟩; obtain ⟨hjun, oj, hoj, hall⟩ := mem_ready.1 hj; have hjs : j < ops.size := (Array.getElem?_eq_some_iff.1 hoj).1
  have hjn : j < n := wK_
  have hjf : listed.getD j false = false := getD_both hjun
  -- the frame that stands, and the walk's own
  have hsame : ∀ t, t ∈ oj.looksAt ops -> a.tmps[t]? = (qK ops a0 (fun _ => true) ρ j).tmps[t]? := u4_
  have hst := H.op ρ inv.fix j oj hjn hoj w inv.grow (fun i D t hi hs hd ht => inv.free i D uX_ (by
   have h3 := jv hdep (i := i) (j := j) uX_ hjn uX_ hoj hd ht; rw [if_pos hi] at h3; obtain ⟨oj', hoj', e, he, hb, hon⟩ := Region.waitsFor_spec h3; obtain rfl : oj' = oj := Option.some.inj (hoj'.symm.trans hoj); rw [<- hon]
   exact hall e he hb) hs)
  have hselj : ∀ cs b, oj.op ≠ .select cs b := fun cs b => Region.noSelect_spec hsel j oj cs b hoj
  -- what follows, once it has yielded v in w'
  have next : ∀ v w', za w w' -> (sp j).holds v w' -> (jS oj = true -> v = .pointer (some ⟨w.heap.size, 0, none⟩) /\ w'.heap.size = w.heap.size + 1) -> wpAny P md ops Q' (m + tl.length) (listed.setIfInBounds j true) (a.put oj.dst v) w' := by
   intro v w' hg hv hnew
   let σ : Nat -> Value := fun i => if i = j then v else ρ i
   have hset : (listed.setIfInBounds j true).getD j false = true := yt_
   have hoth : ∀ i, i ≠ j -> (listed.setIfInBounds j true).getD i false = listed.getD i false := fun i hi => getD_set_ne false (Ne.symm hi)
   refine ih (listed.setIfInBounds j true) σ (a.put oj.dst v) w' ?_ ⟨inv.head.set hj hjn, inv.grow.trans hg, ?_, ?_, ?_, ?_, ?_⟩
   ·exact xq_
   ·intro i c hi hs
    by_cases hij : i = j
    ·exact yO_
    ·simp only [σ, if_neg hij]; exact inv.fix i c hi hs
   ·intro i D hi hl hs
    by_cases hij : i = j
    ·exact yO_
    ·exact yn_
   ·exact wF_
   ·intro i oi hi hl hoi hal
    by_cases hij : i = j
    ·exact xf_
    ·obtain ⟨g, h1, h2⟩ := inv.alc i oi hi v3_ hoi hal; exact ⟨g, by simp [σ, hij, h1], Nat.lt_of_lt_of_le h2 hg.size⟩
   ·exact u5_
  unfold wpOp; simp only [hoj]; unfold Xy at hst; rw [Yu hsame]; split
  ·exact xo_
  ·rename_i hw; rw [if_neg hw] at hst; refine next undef w (za.refl _) hst fun hal => ?_
   exfalso; apply hw; unfold Region.wanted; unfold jS at hal; split at hal
   ·rename_i hg; rw [hg]
   ·cases hal
theorem qT {w0 : World} {Q : Act -> World -> Prop} : ∀ {os : List Oper} {ss : List Spec} {a : Act} {F : List (Option Tmp × (World -> Prop))} {G : List Value}, zG P ops w0 Q ss os a F G -> os.length <= ss.length
 | [], _, _, _, _, _ => Nat.zero_le _
 | _ :: _, [], _, _, _, h => h.elim
 | _ :: os, .inl _ :: ss, _, _, _, h => Nat.succ_le_succ (qT (os := os) (ss := ss) h.2)
 | _ :: os, .inr _ :: ss, _, _, _, h => Nat.succ_le_succ (qT (os := os) (ss := ss) (h.2 undef))
theorem qm {w0 w0' : World} {Q : Act -> World -> Prop} (hg : za w0 w0') : ∀ {os : List Oper} {ss : List Spec} {a : Act} {F : List (Option Tmp × (World -> Prop))} {G : List Value}, zG P ops w0 Q ss os a F G -> zG P ops w0' Q ss os a F G
 | [], _, _, _, _, h => by
  unfold zG at h ⊢; exact fun w hw => h w (hg.trans hw)
 | _ :: _, [], _, _, _, h => h.elim
 | _ :: os, .inl _ :: ss, _, _, _, h => ⟨fun w hw => h.1 w (hg.trans hw), qm hg (os := os) (ss := ss) h.2⟩
 | _ :: os, .inr _ :: ss, _, _, _, h => ⟨fun w hw => h.1 w (hg.trans hw), fun v => qm hg (os := os) (ss := ss) (h.2 v)⟩
theorem wp_region_calm {id : Nat} {Q : Exit -> Act -> World -> Prop} {a : Act} {w : World} {l : List Oper} (n : Nat) {ss : List Spec} (hm : P.follows .mixedOrders = true) (hB : Z9 .any l.toArray n = true) (hp' : xL ss)
  (h' : ∀ Q0 : Act -> World -> Prop, (∀ a' w', wpList P l.toArray Q (l.drop n) a' w' -> Q0 a' w') -> zG P l.toArray w Q0 ss (l.take n) a [] []) : (Code.region id l.toArray true).wp P Q a w := by
 have h := qm (w0' := w.drew) (za.drew (za.refl w)) (h' _ fun _ _ h => h)
 have hn : n <= l.length := yg_
 have hss : n <= ss.length := by
  have := qT h; rw [List.length_take] at this; omega
 have hp := hp'.of_mem; refine wp_region_any hm ?_
 have hsp : ∀ j, j < (l.take n).length -> ss[j]? = some ((fun i => ss.getD i (.inl undef)) (0 + j)) := fun j hj => yM_
 have W : Jj P l.toArray w.drew a n (fun i => ss.getD i (.inl undef)) (fun a w => wpList P l.toArray Q (l.drop n) a w) := by
  have key : ∀ ρ : Nat -> Value, (∀ i c, i < n -> (fun i => ss.getD i (.inl undef)) i = .inl c -> ρ i = c) -> _ := fun ρ hfix =>
   qS (P := P) (ops := l.toArray) (a0 := a) (w0 := w.drew) (Q := fun a w => wpList P l.toArray Q (l.drop n) a w) (n := n) (sp := fun i => ss.getD i (.inl undef)) (ρ := ρ) hfix (l.take n) ss 0 [] [] uN_ (fun j hj => by
    have : j < n := by simp at hj; omega
    simp [this]) hsp (fun p hp => by cases hp) (fun v hv => by cases hv) (fun _ => List.Pairwise.nil) h
  exact ⟨fun ρ hfix j o hj ho w hw hD => (key ρ hfix).1 j o (Nat.zero_le _) hj ho w hw hD, fun ρ hfix w hw hD hsep => (key ρ hfix).2 w hw hD hsep⟩
 have hps : ∀ i D, i < n -> (fun i => ss.getD i (.inl undef)) i = .inr D -> xQ D := fun i D hi hs => x7_
 have inv0 : xt .any l.toArray w.drew a n (fun i => ss.getD i (.inl undef)) (Array.replicate l.toArray.size false) (fun i => match ss.getD i (.inl undef) with | .inl c => c | .inr _ => undef) a w.drew := by
  refine ⟨⟨by simp, fun j oj _ hl => vv_, fun t _ ht => getD_in (by simpa using ht) (getD_replicate_false _ _)⟩, za.refl _, fun i c _ hs => ?_, fun i D _ hl => vv_, ?_, fun i oi _ hl => vv_, fun i j oi oj _ _ _ hl => oA_⟩
  ·exact xm_
  ·exact ww_
 have hu : ∀ k, NY (fun i => (Array.replicate l.toArray.size false).getD i false) k = k := xO_
 have := Jp (P := P) (Q' := Q) (tl := l.drop n) hB uY_ hps W n _ _ a w.drew (hu n) inv0
 rwa [show n + (l.drop n).length = l.toArray.size by simp; omega] at this
/-! ### The walk's steps -/
theorem calm_nil {w0 : World} {Q : Act -> World -> Prop} {a : Act} {F : List (Option Tmp × (World -> Prop))} {G : List Value} (h : ∀ w, za w0 w -> (∀ p ∈ F, p.2 w) -> Q a w) : zG P ops w0 Q [] [] a F G := fun w h1 h2 _ => h w h1 h2
theorem qd {w0 : World} {Q : Act -> World -> Prop} {ss : List Spec} {a : Act} {F : List (Option Tmp × (World -> Prop))} {G : List Value} {o : Oper} {os : List Oper} {c : Value}
  (h1 : ∀ w, za w0 w -> (∀ p ∈ F, (∃ t, p.1 = some t /\ t ∈ o.looksAt ops) -> p.2 w) -> ∀ K : Value -> World -> Prop, (∀ w', za w w' -> K c w') ->
   if Region.wanted o (yielded ops a.tmps) then yX P o a w K else undef = c)
  (h2 : ∀ K : Act -> Prop, (∀ a, zG P ops w0 Q ss os a F G -> K a) -> K (a.put o.dst c)) : zG P ops w0 Q (.inl c :: ss) (o :: os) a F G :=
 ⟨fun w hw hF => by
  have := h1 w hw hF (fun v w' => za w w' /\ v = c) (fun w' hg => ⟨hg, rfl⟩); unfold Xy
  exact this, h2 _ fun _ h => h⟩
theorem j5 {w0 : World} {Q : Act -> World -> Prop} {ss : List Spec} {a : Act} {F : List (Option Tmp × (World -> Prop))} {G : List Value} {o : Oper} {os : List Oper} (D : Value -> World -> Prop)
  (h1 : ∀ w, za w0 w -> (∀ p ∈ F, (∃ t, p.1 = some t /\ t ∈ o.looksAt ops) -> p.2 w) -> ∀ K : Value -> World -> Prop, (∀ v w', za w w' -> D v w' -> K v w') ->
   if Region.wanted o (yielded ops a.tmps) then yX P o a w K else D undef w)
  (h2 : ∀ v, ∀ K : Act -> Prop, (∀ a, zG P ops w0 Q ss os a ((o.dst, D v) :: F) (Yd o v G) -> K a) -> K (a.put o.dst v)) : zG P ops w0 Q (.inr D :: ss) (o :: os) a F G :=
 ⟨fun w hw hF => by
  have := h1 w hw hF (fun v w' => za w w' /\ D v w') (fun v w' hg hd => ⟨hg, hd⟩); unfold Xy
  exact this, fun v => h2 v _ fun _ h => h⟩
/-! The same steps, the guard looked up by evaluation. -/
section
variable {w0 : World} {Q : Act -> World -> Prop} {ss : List Spec} {a : Act} {F : List (Option Tmp × (World -> Prop))} {G : List Value} {o : Oper} {os : List Oper} {c : Value}
theorem jJ (ho : o.guard = none) (y : Nat -> Option Bool) : Region.wanted o y = true := by unfold Region.wanted; rw [ho]
theorem jA {j : Nat} {b want : Bool} {t : Tmp} (ho : o.guard = some (j, want)) (hj : (ops[j]?).bind (·.dst) = some t) (hb : a.tmps[t]? = some (.bool b)) : Region.wanted o (yielded ops a.tmps) = (b == want) := by
 unfold Region.wanted yielded; rw [ho]; simp only; rw [hj]; simp only [Option.bind_some, hb]; cases b <;> cases want <;> rfl
theorem calm_p (ho : o.guard = none)
  (h1 : ∀ w, za w0 w -> (∀ p ∈ F, (∃ t, p.1 = some t /\ t ∈ o.looksAt ops) -> p.2 w) -> ∀ K : Value -> World -> Prop, (∀ w', za w w' -> K c w') -> yX P o a w K)
  (h2 : ∀ K : Act -> Prop, (∀ a, zG P ops w0 Q ss os a F G -> K a) -> K (a.put o.dst c)) : zG P ops w0 Q (.inl c :: ss) (o :: os) a F G :=
 qd (fun w hw hF K hK => by rw [if_pos (jJ ho _)]; exact h1 w hw hF K hK) h2
theorem zu {j : Nat} {want : Bool} {t : Tmp} (ho : o.guard = some (j, want)) (hj : (ops[j]?).bind (·.dst) = some t) (hb : a.tmps[t]? = some (.bool want))
  (h1 : ∀ w, za w0 w -> (∀ p ∈ F, (∃ t, p.1 = some t /\ t ∈ o.looksAt ops) -> p.2 w) -> ∀ K : Value -> World -> Prop, (∀ w', za w w' -> K c w') -> yX P o a w K)
  (h2 : ∀ K : Act -> Prop, (∀ a, zG P ops w0 Q ss os a F G -> K a) -> K (a.put o.dst c)) : zG P ops w0 Q (.inl c :: ss) (o :: os) a F G :=
 qd (fun w hw hF K hK => by rw [if_pos ub_]; exact h1 w hw hF K hK) h2
theorem zw {j : Nat} {b want : Bool} {t : Tmp} (ho : o.guard = some (j, want)) (hj : (ops[j]?).bind (·.dst) = some t) (hb : a.tmps[t]? = some (.bool b)) (hne : (b == want) = false)
  (h2 : ∀ K : Act -> Prop, (∀ a, zG P ops w0 Q ss os a F G -> K a) -> K (a.put o.dst undef)) : zG P ops w0 Q (.inl undef :: ss) (o :: os) a F G :=
 qd (fun w hw hF K hK => by rw [if_neg (by rw [jA ho hj hb, hne]; simp)]) h2
theorem calm_fp (D : Value -> World -> Prop) (ho : o.guard = none)
  (h1 : ∀ w, za w0 w -> (∀ p ∈ F, (∃ t, p.1 = some t /\ t ∈ o.looksAt ops) -> p.2 w) -> ∀ K : Value -> World -> Prop, (∀ v w', za w w' -> D v w' -> K v w') -> yX P o a w K)
  (h2 : ∀ v, ∀ K : Act -> Prop, (∀ a, zG P ops w0 Q ss os a ((o.dst, D v) :: F) (Yd o v G) -> K a) -> K (a.put o.dst v)) : zG P ops w0 Q (.inr D :: ss) (o :: os) a F G :=
 j5 D (fun w hw hF K hK => by rw [if_pos (jJ ho _)]; exact h1 w hw hF K hK) h2
theorem M5 (D : Value -> World -> Prop) {j : Nat} {want : Bool} {t : Tmp} (ho : o.guard = some (j, want)) (hj : (ops[j]?).bind (·.dst) = some t) (hb : a.tmps[t]? = some (.bool want))
  (h1 : ∀ w, za w0 w -> (∀ p ∈ F, (∃ t, p.1 = some t /\ t ∈ o.looksAt ops) -> p.2 w) -> ∀ K : Value -> World -> Prop, (∀ v w', za w w' -> D v w' -> K v w') -> yX P o a w K)
  (h2 : ∀ v, ∀ K : Act -> Prop, (∀ a, zG P ops w0 Q ss os a ((o.dst, D v) :: F) (Yd o v G) -> K a) -> K (a.put o.dst v)) : zG P ops w0 Q (.inr D :: ss) (o :: os) a F G :=
 j5 D (fun w hw hF K hK => by rw [if_pos ub_]; exact h1 w hw hF K hK) h2
end
end
attribute [go_sem] yX qG
/-! ### A block that is known whole -/
def zb (w : World) (g : Nat) (t : TypeId) (cs : Array Value) : Prop := w.heap[g]? = some (.cells cs t (0, 0))
section
variable {w w' : World} {g : Nat} {t : TypeId} {cs : Array Value}
theorem zb.lt (h : zb w g t cs) : g < w.heap.size := by
 rcases Nat.lt_or_ge g w.heap.size with hlt | hge
 ·exact hlt
 ·unfold zb at h; rw [Array.getElem?_eq_none hge] at h; cases h
theorem zb.cell (h : zb w g t cs) (i : Nat) : w.cell? ⟨g, i, none⟩ = cs[i]? := cell_of_row w g i cs t (0, 0) h
theorem zb.frozen (h : zb w g t cs) (i : Nat) : w.frozen? ⟨g, i, none⟩ = false := by
 unfold zb at h; simp [World.frozen?, h]
theorem zb.grow (h : zb w g t cs) (hg : za w w') : zb w' g t cs := hg.heap h
theorem zb.rules (h : zb w g t cs) : (∀ i, w.cell? ⟨g, i, none⟩ = cs[i]?) /\ (∀ i, w.frozen? ⟨g, i, none⟩ = false) := ⟨h.cell, h.frozen⟩
theorem zb.new (w : World) (t : TypeId) (cs : Array Value) : zb (w.alloc (.cells cs t)) w.heap.size t cs := heap_alloc_new w _
theorem zb.new' (w : World) (t : TypeId) (cs : Array Value) (hg : g = w.heap.size) : zb (w.alloc (.cells cs t)) g t cs := by subst hg; exact heap_alloc_new w _
theorem zb.al (h : zb w g t cs) (o : Obj) : zb (w.alloc o) g t cs := (Below.heap_alloc w o g h.lt).trans h
theorem zb.drew (h : zb w g t cs) : zb w.drew g t cs := h
theorem zb.set (h : zb w g t cs) (i : Nat) (u : Value) : zb (w.setCell ⟨g, i, none⟩ u) g t (cs.setIfInBounds i u) := by
 unfold zb at h ⊢; simp [World.setCell, Array.getElem?_modify, h]
theorem zb.far (h : zb w g t cs) {p : Addr} (hp : g ≠ p.block) (u : Value) : zb (w.setCell p u) g t cs := (Below.heap_setCell w p u g hp).trans h
theorem zb.cells (h : zb w g t cs) {i : Nat} {v : Value} (hi : cs[i]? = some v) : w.cell? ⟨g, i, none⟩ = some v := (h.cell i).trans hi
end
theorem zc {P : Program} {c : Code} {Q : Exit -> Act -> World -> Prop} {a : Act} {X : World} (F : World -> Prop) (h : F X) (k : ∀ W, F W -> Code.wp P c Q a W) : Code.wp P c Q a X := k X h
end Go.Calm
namespace Go.Proofs.YtflggnopgnoeiaaGreat
open Go.Lib
theorem Pi : ∀ l m : List UInt8, compareBytes l m = -1 \/ compareBytes l m = 0 \/ compareBytes l m = 1
 | [], [] => by simp [compareBytes]
 | [], _ :: _ => by simp [compareBytes]
 | _ :: _, [] => by simp [compareBytes]
 | a :: l, b :: m => by
  unfold compareBytes; split
  ·simp
  ·split
   ·simp
   ·exact Pi l m
theorem Wi (a b : UInt8) : a < b \/ a = b \/ b < a := by
 simp only [UInt8.lt_iff_toNat_lt, <- UInt8.toNat_inj]; omega
theorem Ts : ∀ l m : List UInt8, compareBytes m l = - compareBytes l m
 | [], [] => by simp [compareBytes]
 | [], _ :: _ => by simp [compareBytes]
 | _ :: _, [] => by simp [compareBytes]
 | a :: l, b :: m => by
  have ih := Ts l m; unfold compareBytes; rcases Wi a b with h | h | h
  ·have h' : ¬ b < a := UInt8.lt_asymm h; simp [h, h']
  ·exact yF_
  ·have h' : ¬ a < b := UInt8.lt_asymm h; simp [h, h']
theorem Tr : ∀ l : List UInt8, compareBytes l l = 0
 | [] => rfl
 | a :: l => by unfold compareBytes; simp [UInt8.lt_irrefl, Tr l]
theorem CH : ∀ l m : List UInt8, compareBytes l m = 0 ↔ l = m
 | [], [] => by simp [compareBytes]
 | [], _ :: _ => by simp [compareBytes]
 | _ :: _, [] => by simp [compareBytes]
 | a :: l, b :: m => by
  have ih := CH l m; unfold compareBytes; rcases Wi a b with h | h | h
  ·have : a ≠ b := fun e => by subst e; exact UInt8.lt_irrefl a h
   simp [h, this]
  ·exact yF_
  ·exact xw_
theorem Tq : ∀ l m : List UInt8, Op.bytesLess l m = decide (compareBytes l m < 0)
 | [], [] => by simp [compareBytes, Op.bytesLess]
 | [], _ :: _ => by simp [compareBytes, Op.bytesLess]
 | _ :: _, [] => by simp [compareBytes, Op.bytesLess]
 | a :: l, b :: m => by
  have ih := Tq l m; unfold compareBytes Op.bytesLess; rcases Wi a b with h | h | h
  ·simp [h]
  ·exact yF_
  ·exact xw_
theorem Pj : ∀ l m r : List UInt8, compareBytes l m <= 0 -> compareBytes m r <= 0 -> compareBytes l r <= 0
 | [], _, [] => by simp [compareBytes]
 | [], _, _ :: _ => by simp [compareBytes]
 | _ :: _, [], _ => by simp [compareBytes]
 | _ :: _, _ :: _, [] => by simp [compareBytes]
 | a :: l, b :: m, c :: r => by
  have ih := Pj l m r; unfold compareBytes; rcases Wi a b with h | h | h
  ·rcases Wi b c with k | k | k
   ·have := UInt8.lt_trans h k; simp [this]
   ·subst k; simp [h]
   ·have k' : ¬ b < c := UInt8.lt_asymm k; simp [k, k']
  ·subst h; rcases Wi a c with k | k | k
   ·simp [k]
   ·subst k; simpa [UInt8.lt_irrefl] using ih
   ·have k' : ¬ a < c := UInt8.lt_asymm k; simp [k, k']
  ·have h' : ¬ a < b := UInt8.lt_asymm h; simp [h, h']
def kL (a b : ByteArray) : Int := Lib.compareBytes a.data.toList b.data.toList
theorem Jr (a b : ByteArray) : kL a b = -1 \/ kL a b = 0 \/ kL a b = 1 := Pi _ _
theorem UJ (a b : ByteArray) : kL b a = - kL a b := Ts _ _
theorem Lt (a : ByteArray) : kL a a = 0 := Tr _
theorem Tt (a b : ByteArray) : kL a b = 0 ↔ a = b := by
 obtain ⟨⟨la⟩⟩ := a; obtain ⟨⟨lb⟩⟩ := b; unfold kL; rw [CH]
 constructor
 ·intro h; simp at h; subst h; rfl
 ·intro h; injection h with h; injection h
theorem UI (a b : ByteArray) : Op.bytesLess a.toList b.toList = decide (kL a b < 0) := by
 rw [Lib.toList_data, Lib.toList_data, Tq]; rfl
theorem Pn (a b : ByteArray) : (a.toList == b.toList) = decide (kL a b = 0) := by
 rw [Lib.toList_data, Lib.toList_data, Bool.eq_iff_iff]; unfold kL; rw [decide_eq_true_eq, CH, beq_iff_eq]
theorem R6 (a b c : ByteArray) : kL a b <= 0 -> kL b c <= 0 -> kL a c <= 0 := Pj _ _ _
end Go.Proofs.YtflggnopgnoeiaaGreat
namespace Go.Proofs.YtflggnopgnoeiaaGreat
open Go.RowKit Go.Calm
abbrev GX (g : Nat) (w w' : World) : Prop := w.grownBy w' (some g)
theorem GX.refl (g : Nat) (w : World) : GX g w w := ⟨rfl, rfl, rfl, Nat.le_refl _, fun _ _ _ => rfl⟩
theorem GX.trans {g : Nat} {a b c : World} (h : GX g a b) (k : GX g b c) : GX g a c :=
 ⟨k.os.trans h.os, k.tape.trans h.tape, k.output.trans h.output, Nat.le_trans h.size k.size, fun i hi hne => (k.block i (Nat.lt_of_lt_of_le hi h.size) hne).trans (h.block i hi hne)⟩
theorem GX.own {g : Nat} {a b c : World} {row : Option Nat} (h : GX g a b) (k : b.grownBy c row) (hr : ∀ i, row = some i -> a.heap.size <= i) : GX g a c :=
 ⟨k.os.trans h.os, k.tape.trans h.tape, k.output.trans h.output, Nat.le_trans h.size k.size, fun i hi hne =>
  (k.block i (Nat.lt_of_lt_of_le hi h.size) (fun e => by have := hr i e.symm; omega)).trans (h.block i hi hne)⟩
theorem GX.grow {g : Nat} {a b c : World} (h : GX g a b) (k : za b c) : GX g a c :=
 ⟨k.below.os.trans h.os, k.below.tape.trans h.tape, k.below.output.trans h.output, Nat.le_trans h.size k.size, fun i hi hne => (k.below.block i (Nat.lt_of_lt_of_le hi h.size)).trans (h.block i hi hne)⟩
theorem GX.al {g : Nat} {a b : World} (h : GX g a b) (o : Obj) : GX g a (b.alloc o) := h.grow ((za.refl _).al o)
theorem GX.drew {g : Nat} {a b : World} (h : GX g a b) : GX g a b.drew := h.grow (za.refl _).drew
theorem GX.drewN {g : Nat} {a b : World} (h : GX g a b) (n : Nat) : GX g a (b.drewN n) := h.grow ((za.refl _).drewN n)
theorem GX.set {g : Nat} {a b : World} (h : GX g a b) (o : Nat) (u : Value) : GX g a (b.setCell ⟨g, o, none⟩ u) :=
 h.trans ⟨rfl, rfl, rfl, by simp [World.setCell], fun i _ hne => Below.heap_setCell _ _ _ _ (fun e => hne (by rw [e]))⟩
theorem GX.base {g : Nat} {w0 a b : World} (h0 : za w0 a) (hg : w0.heap.size <= g) (h : GX g a b) : za w0 b :=
 ⟨⟨h.os.trans h0.below.os, h.tape.trans h0.below.tape, h.output.trans h0.below.output, Nat.le_trans h0.size h.size, fun i hi => (h.block i (Nat.lt_of_lt_of_le hi h0.size) uN_).trans (h0.below.block i hi)⟩⟩
theorem GX.blk {g k : Nat} {a b : World} {t : TypeId} {cs : Array Value} (h : GX g a b) (hk : k ≠ g) (hb : zb a k t cs) : zb b k t cs := by
 have hl := hb.lt; unfold zb at *; rw [h.block k hl (by simpa using hk)]; exact hb
