/-
 Joined texts of this claim: Hang, Rw9. What each proves its own head says; no condition beside those that each theorem names.
-/
import Derived.Test.YtcaedcpjdmlilaaGreatGA
import Derived.Test.YtcaedcpjdmlilaaGreatGWc8
import Derived.Deep.DeepCutAuto
set_option maxRecDepth 100000
set_option maxHeartbeats 16000000
namespace Go.Calm
open Go.RowKit
set_option linter.unusedSimpArgs false
set_option linter.unusedVariables false
section
variable {P : Program} {ops : Array Oper} {md : Region.Mode} {a0 : Act}

def S9 (P : Program) (ops : Array Oper) (p : Nat) : Prop := ∀ o, ops[p]? = some o -> o.guard = none /\ qt o = false /\ ∀ (b : Act) (w : World) (R : Value -> World -> Prop), yT P o b w R -> ∃ v, (∀ w2, (execOp b.eval o).run P w2 = .ok (.value v) w2) /\ R v w
def zbX (md : Region.Mode) (ops : Array Oper) (n p : Nat) : Bool := (List.range n).all fun i => i == p || Region.waitsFor md ops n i
def NL (md : Region.Mode) (ops : Array Oper) (n p : Nat) : Bool :=
 Region.noSelect ops && decide (n <= ops.size) && N7 ops n && EV md ops n && VW md ops n && decide (n < ops.size) && zbX md ops n p && Region.chainB md ops n && Region.seqB md ops (ops.size - n) n (yX n ops.size) && decide (p < n) && Region.free md ops ((yX n ops.size).setIfInBounds p false) p
theorem Uj {Q' : Exit -> Act -> World -> Prop} {w0 : World} {n p : Nat} {sp : Nat -> Spec} {tl : List Oper}
  (hB : NL md ops n p = true) (hpure : S9 P ops p) (hQ : ∀ t c a v w, Q' (.panic c) (Act.put a t v) w -> Q' (.panic c) a w) (htl : tl = ops.toList.drop n) (hp : ∀ i D, i < n -> sp i = .inr D -> xx D)
  (H : Zn P ops w0 a0 n sp (fun a w => wpList P ops Q' tl a w)) :
  ∀ (m : Nat) (listed : Array Bool) (ρ : Nat -> Value) (a : Act) (w : World), KH (fun i => listed.getD i false) n = m -> jd md ops w0 a0 n sp listed ρ a w -> wpAny P md ops Q' (m + tl.length) listed a w := by
 simp only [NL, Bool.and_eq_true, decide_eq_true_eq] at hB; obtain ⟨⟨⟨⟨⟨⟨⟨⟨⟨⟨hsel, hn⟩, hdst⟩, hdep⟩, hback⟩, hnl⟩, hsink⟩, hchain⟩, hseq⟩, hpn⟩, hfree⟩ := hB; have hlen : tl.length = ops.size - n := by rw [htl]; simp
 have hget : ∀ j, tl[j]? = ops[n + j]? := fun j => by rw [htl]; simp [List.getElem?_drop]
 intro m
 induction m with
 | zero =>
  intro listed ρ a w hm inv; have hall := Xf hm
  have hl : listed = yX n ops.size := by
   have hsz := inv.head.size; apply Array.ext
   ·simp [yX, hsz]; omega
   ·intro i h1 h2; rcases Nat.lt_or_ge i n with h' | h'
    ·have := hall i h'; simp [h1] at this; simp [yX, h', this]
    ·have := inv.head.tail i h' (by omega); simp [h1] at this; simp [yX, Array.getElem_append, Nat.not_lt.2 h', this]
  rw [Nat.zero_add]; refine wpAny_of_seq tl n listed a w hget (by rw [hlen, hl]; exact hseq) ?_
  have hfr : a = x6 ops a0 (fun _ => true) ρ n := by
   rw [inv.act]; exact kT n hall (fun _ _ _ => rfl)
  rw [hfr]; exact H.fin ρ inv.fix w inv.grow (fun i D hi hs => inv.free i D hi (hall i hi) hs) fun i j oi oj hi hj hne _ _ => inv.sep i j oi oj hi hj hne (hall i hi) (hall j hj)
 | succ m ih =>
  intro listed ρ a w hm inv; obtain ⟨i0, hi0, hun0, hmin⟩ := QO (n := n) (p := fun i => listed.getD i false) (by omega); have hun0' : listed.getD i0 true = false := getD_in (by rw [inv.head.size]; omega) hun0
  have hr0 : i0 ∈ Region.ready md ops listed := by
   rw [mem_ready]; refine ⟨hun0', ?_⟩; have h1 := List.all_eq_true.1 hback i0 (List.mem_range.2 hi0); cases ho : ops[i0]? with
   | none => simp [ho] at h1
   | some o =>
    simp only [ho] at h1; refine ⟨o, rfl, fun e he hb => ?_⟩; have h2 := Array.all_eq_true_iff_forall_mem.1 h1 e he; simp only [hb, Bool.not_true, Bool.false_or, decide_eq_true_eq] at h2; exact hmin e.on h2
  rw [show m + 1 + tl.length = (m + tl.length) + 1 by omega]
  have main : ∀ j oj, j < n -> ops[j]? = some oj -> j ∈ Region.ready md ops listed -> ∃ b : Act, execOp a.eval oj = execOp b.eval oj /\ Region.wanted oj (yielded ops a.tmps) = Region.wanted oj (yielded ops b.tmps) /\ kt P ops oj (sp j) b w /\
    ∀ v w', za w w' -> (sp j).holds v w' -> (qt oj = true -> v = .pointer (some ⟨w.heap.size, 0, none⟩) /\ w'.heap.size = w.heap.size + 1) -> wpAny P md ops Q' (m + tl.length) (listed.setIfInBounds j true) (a.put oj.dst v) w' := by
   intro j oj hjn hoj hj; obtain ⟨hjun, oj', hoj', hall⟩ := mem_ready.1 hj; obtain rfl : oj = oj' := Option.some.inj (hoj.symm.trans hoj'); have hjs : j < ops.size := (Array.getElem?_eq_some_iff.1 hoj).1; have hjf : listed.getD j false = false := getD_both hjun
   -- the frame that stands, and the walk's own
   have hsame : ∀ t, t ∈ oj.looksAt ops -> a.tmps[t]? = (x6 ops a0 (fun _ => true) ρ j).tmps[t]? := by
    intro t ht; rw [inv.act]
    have e1 : (x6 ops a0 (fun i => listed.getD i false) ρ n).tmps[t]? = (x6 ops a0 (fun i => listed.getD i false) ρ j).tmps[t]? := by
     have := kS (ops := ops) (a0 := a0) (p := fun i => listed.getD i false) (ρ := ρ) (t := t) (j := j) (n - j) (fun i h1 h2 hd => by
      by_cases hij : i = j
      ·rw [hij]; exact hjf
      ·have h3 := xD hdep (i := i) (j := j) (by omega) hjn hij hoj hd ht; rw [if_neg (by omega)] at h3; obtain ⟨oi, hoi, e, he, hb, hon⟩ := Region.waitsFor_spec h3; cases hl : listed.getD i false with
       | false => rfl
       | true =>
        have := inv.head.closed i oi hoi hl e he hb; rw [hon, hjf] at this
        cases this)
     rwa [show j + (n - j) = n by omega] at this
    rw [e1]; refine kR j fun i hi hd => ?_
    have h3 := xD hdep (i := i) (j := j) (by omega) hjn (by omega) hoj hd ht; rw [if_pos hi] at h3; obtain ⟨oj', hoj', e, he, hb, hon⟩ := Region.waitsFor_spec h3; obtain rfl : oj' = oj := Option.some.inj (hoj'.symm.trans hoj); rw [<- hon]; exact hall e he hb
   have hst := H.op ρ inv.fix j oj hjn hoj w inv.grow (fun i D t hi hs hd ht => inv.free i D (by omega) (by
    have h3 := xD hdep (i := i) (j := j) (by omega) hjn (by omega) hoj hd ht; rw [if_pos hi] at h3; obtain ⟨oj', hoj', e, he, hb, hon⟩ := Region.waitsFor_spec h3; obtain rfl : oj' = oj := Option.some.inj (hoj'.symm.trans hoj); rw [<- hon]
    exact hall e he hb) hs)
   have hselj : ∀ cs b, oj.op ≠ .select cs b := fun cs b => Region.noSelect_spec hsel j oj cs b hoj
   -- what follows, once it has yielded v in w'
   have next : ∀ v w', za w w' -> (sp j).holds v w' -> (qt oj = true -> v = .pointer (some ⟨w.heap.size, 0, none⟩) /\ w'.heap.size = w.heap.size + 1) -> wpAny P md ops Q' (m + tl.length) (listed.setIfInBounds j true) (a.put oj.dst v) w' := by
    intro v w' hg hv hnew
    let σ : Nat -> Value := fun i => if i = j then v else ρ i
    have hset : (listed.setIfInBounds j true).getD j false = true := by
     have : j < listed.size := by rw [inv.head.size]; exact hjs
     simp [this]
    have hoth : ∀ i, i ≠ j -> (listed.setIfInBounds j true).getD i false = listed.getD i false := fun i hi => getD_set_ne false (Ne.symm hi)
    refine ih (listed.setIfInBounds j true) σ (a.put oj.dst v) w' ?_ ⟨inv.head.set hj hjn, inv.grow.trans hg, ?_, ?_, ?_, ?_, ?_⟩
    ·have := QP (p := fun i => listed.getD i false) (q := fun i => (listed.setIfInBounds j true).getD i false) hjf hset hoth hjn; omega
    ·intro i c hi hs
     by_cases hij : i = j
     ·subst hij; rw [hs] at hv; simpa [σ, Spec.holds] using hv
     ·simp only [σ, if_neg hij]; exact inv.fix i c hi hs
    ·intro i D hi hl hs
     by_cases hij : i = j
     ·subst hij; rw [hs] at hv; simpa [σ, Spec.holds] using hv
     ·simp only [σ, if_neg hij]; exact hp i D hi hs _ _ _ hg (inv.free i D hi (by rw [<- hoth i hij]; exact hl) hs)
    ·have e := Qh (ops := ops) (a0 := a0) (p := fun i => listed.getD i false) (q := fun i => (listed.setIfInBounds j true).getD i false) (ρ := ρ) (σ := σ) hdst hjn hjf hset hoth (fun i hi => by simp [σ, hi]) n hjn (Nat.le_refl _); rw [e, inv.act]; simp [σ, hoj]
    ·intro i oi hi hl hoi hal
     by_cases hij : i = j
     ·subst hij; obtain rfl : oi = oj := Option.some.inj (hoi.symm.trans hoj); obtain ⟨h1, h2⟩ := hnew hal; exact ⟨w.heap.size, by simp [σ, h1], by omega⟩
     ·obtain ⟨g, h1, h2⟩ := inv.alc i oi hi (by rw [<- hoth i hij]; exact hl) hoi hal; exact ⟨g, by simp [σ, hij, h1], Nat.lt_of_lt_of_le h2 hg.size⟩
    ·intro i k oi ok hi hk hne hli hlk hoi hok hali halk
     by_cases hij : i = j
     ·have hkj : k ≠ j := fun h => hne (hij.trans h.symm)
      obtain rfl : oi = oj := Option.some.inj (hoi.symm.trans (by rw [hij]; exact hoj)); obtain ⟨h1, h2⟩ := hnew hali; obtain ⟨g, h3, h4⟩ := inv.alc k ok hk (by rw [<- hoth k hkj]; exact hlk) hok halk; simp only [σ, hij, hkj, if_true, if_false, h1, h3]; intro he; simp at he
      try omega
     ·by_cases hkj : k = j
      ·obtain rfl : ok = oj := Option.some.inj (hok.symm.trans (by rw [hkj]; exact hoj)); obtain ⟨h1, h2⟩ := hnew halk; obtain ⟨g, h3, h4⟩ := inv.alc i oi hi (by rw [<- hoth i hij]; exact hli) hoi hali; simp only [σ, hij, hkj, if_true, if_false, h1, h3]; intro he; simp at he
       try omega
      ·simp only [σ, hij, hkj, if_false]; exact inv.sep i k oi ok hi hk hne ((hoth i hij).symm.trans hli) ((hoth k hkj).symm.trans hlk) hoi hok hali halk
   exact ⟨_, YU hselj hsame, kD hsame, hst, next⟩
  by_cases hone : ∀ i, i < n -> i ≠ p -> listed.getD i false = true
  ·have h0p : i0 = p := Decidable.byContradiction fun h => by rw [hone i0 hi0 h] at hun0; cases hun0
   subst h0p
   have hl : listed = (yX n ops.size).setIfInBounds i0 false := by
    have hsz := inv.head.size; apply Array.ext
    ·simp [yX, hsz]; omega
    ·intro i h1 h2
     by_cases hii : i = i0
     ·subst hii; simp [h1] at hun0; simp [hun0]
     ·rcases Nat.lt_or_ge i n with h' | h'
      ·have := hone i h' hii; simp [h1] at this; rw [this, Array.getElem_setIfInBounds_ne (by simpa [yX] using (show i < n + (ops.size - n) by omega)) (Ne.symm hii)]; simp [yX, h']
      ·have := inv.head.tail i h' (by omega); simp [h1] at this; rw [this, Array.getElem_setIfInBounds_ne (by simpa [yX] using (show i < n + (ops.size - n) by omega)) (Ne.symm hii)]; simp [yX, Array.getElem_append, Nat.not_lt.2 h']
   obtain ⟨o, ho, _⟩ := (mem_ready.1 hr0).2; obtain ⟨b, he, hw, hst, next⟩ := main i0 o hi0 ho hr0; obtain ⟨hg, hal, hp1⟩ := hpure o ho; unfold kt at hst; rw [if_pos (xY hg _)] at hst; obtain ⟨v, hv, hr⟩ := hp1 b w _ hst; refine wpAny_take (v := v) ho hsel (by rw [hl]; exact hfree) (by simpa using hr0) (hQ _ · · _ ·) (.inl ⟨xY hg _, fun w2 => by rw [he]; exact hv w2⟩) (next v w (za.refl w) hr.2 (fun h => by rw [hal] at h; cases h))
  ·have : ∃ i, i < n /\ i ≠ p /\ listed.getD i false = false := by
    apply Classical.byContradiction; intro hc; apply hone; intro i hi hne; cases hl : listed.getD i false with
    | true => rfl
    | false => exact absurd ⟨i, hi, hne, hl⟩ hc
   obtain ⟨i1, hi1, hne1, hun1⟩ := this; refine ⟨fun h => (by rw [h] at hr0; cases hr0), fun j hj => ?_⟩; obtain ⟨hjun, oj, hoj, hall⟩ := mem_ready.1 hj
   have hjn : j < n := by
    rcases Nat.lt_or_ge j n with h' | h'
    ·exact h'
    ·exfalso
     have wt : ∀ q, Region.waitsFor md ops j q = true -> listed.getD q false = true := fun q h3 => by
      obtain ⟨oj', hoj', e, he, hb, hon⟩ := Region.waitsFor_spec h3; obtain rfl : oj' = oj := Option.some.inj (hoj'.symm.trans hoj); rw [<- hon]; exact hall e he hb
     by_cases hjn : j = n
     ·subst hjn; have h1 := List.all_eq_true.1 hsink i1 (List.mem_range.2 hi1); simp only [Bool.or_eq_true, beq_iff_eq, hne1, false_or] at h1; rw [wt i1 h1] at hun1; cases hun1
     ·have h1 := List.all_eq_true.1 hchain j (List.mem_range.2 (Array.getElem?_eq_some_iff.1 hoj).1); simp only [Bool.or_eq_true, decide_eq_true_eq] at h1; rcases h1 with h1 | h1
      ·omega
      ·have h2 := wt _ h1; rw [getD_both (inv.head.tail (j - 1) (by omega) (by have := (Array.getElem?_eq_some_iff.1 hoj).1; omega))] at h2; cases h2
   obtain ⟨b, he, hw, hst, next⟩ := main j oj hjn hoj hj; unfold wpOp; simp only [hoj]; unfold kt at hst; rw [hw]; split
   ·rename_i hw; rw [if_pos hw] at hst; exact .inl (XI he (Xm hst) fun v w' ⟨⟨hg, hv⟩, hn⟩ => next v w' hg hv hn)
   ·rename_i hw; rw [if_neg hw] at hst; refine next undef w (za.refl _) hst fun hal => ?_
    exfalso; apply hw; unfold Region.wanted; unfold qt at hal; split at hal
    ·rename_i hg; rw [hg]
    ·cases hal
theorem Ky {id : Nat} {Q : Exit -> Act -> World -> Prop} {a : Act} {w : World} {l : List Oper} (n p : Nat) {ss : List Spec} (hm : P.follows .mixedOrders = true) (hB : NL .any l.toArray n p = true) (hpure : S9 P l.toArray p) (hQ : ∀ t c a v w, Q (.panic c) (Act.put a t v) w -> Q (.panic c) a w) (hp' : yZ ss)
  (h' : ∀ Q0 : Act -> World -> Prop, (∀ a' w', wpList P l.toArray Q (l.drop n) a' w' -> Q0 a' w') -> zC P l.toArray w Q0 ss (l.take n) a [] []) : (Code.region id l.toArray true).wp P Q a w := by
 have h := xo (w0' := w.drew) (za.drew (za.refl w)) (h' _ fun _ _ h => h)
 have hn : n <= l.length := by
  simp only [NL, Bool.and_eq_true, decide_eq_true_eq] at hB; simpa using hB.1.1.1.1.1.1.1.1.1.2
 have hss : n <= ss.length := by
  have := xZ h; rw [List.length_take] at this; omega
 have hp := hp'.of_mem; refine wp_region_any hm ?_
 have hsp : ∀ j, j < (l.take n).length -> ss[j]? = some ((fun i => ss.getD i (.inl undef)) (0 + j)) := fun j hj => by
  have : j < ss.length := by simp at hj; omega
  simp [this]
 have W : Zn P l.toArray w.drew a n (fun i => ss.getD i (.inl undef)) (fun a w => wpList P l.toArray Q (l.drop n) a w) := by
  have key : ∀ ρ : Nat -> Value, (∀ i c, i < n -> (fun i => ss.getD i (.inl undef)) i = .inl c -> ρ i = c) -> _ := fun ρ hfix =>
   xX (P := P) (ops := l.toArray) (a0 := a) (w0 := w.drew) (Q := fun a w => wpList P l.toArray Q (l.drop n) a w) (n := n) (sp := fun i => ss.getD i (.inl undef)) (ρ := ρ) hfix (l.take n) ss 0 [] [] (by simp; omega) (fun j hj => by
    have : j < n := by simp at hj; omega
    simp [this]) hsp (fun p hp => by cases hp) (fun v hv => by cases hv) (fun _ => List.Pairwise.nil) h
  exact ⟨fun ρ hfix j o hj ho w hw hD => (key ρ hfix).1 j o (Nat.zero_le _) hj ho w hw hD, fun ρ hfix w hw hD hsep => (key ρ hfix).2 w hw hD hsep⟩
 have hps : ∀ i D, i < n -> (fun i => ss.getD i (.inl undef)) i = .inr D -> xx D := fun i D hi hs => by
  have hi' : i < ss.length := by omega
  refine hp (ss.getD i (.inl undef)) ?_ D hs; simp [hi']
 have inv0 : jd .any l.toArray w.drew a n (fun i => ss.getD i (.inl undef)) (Array.replicate l.toArray.size false) (fun i => match ss.getD i (.inl undef) with | .inl c => c | .inr _ => undef) a w.drew := by
  refine ⟨⟨by simp, fun j oj _ hl => (by rw [getD_replicate_false] at hl; cases hl), fun t _ ht => getD_in (by simpa using ht) (getD_replicate_false _ _)⟩, za.refl _, fun i c _ hs => ?_, fun i D _ hl => (by rw [getD_replicate_false] at hl; cases hl), ?_, fun i oi _ hl => (by rw [getD_replicate_false] at hl; cases hl), fun i j oi oj _ _ _ hl => (by simp only [getD_replicate_false] at hl; cases hl)⟩
  ·show (match ss.getD i (.inl undef) with | .inl c => c | .inr _ => undef) = c; have hs' : ss.getD i (.inl undef) = .inl c := hs; rw [hs']
  ·have : ∀ k, x6 l.toArray a (fun i => (Array.replicate l.toArray.size false).getD i false) (fun i => match ss.getD i (.inl undef) with | .inl c => c | .inr _ => undef) k = a := by
    intro k
    induction k with
    | zero => rfl
    | succ k ihk =>
     unfold x6; rw [getD_replicate_false]; exact ihk
   exact (this n).symm
 have hu : ∀ k, KH (fun i => (Array.replicate l.toArray.size false).getD i false) k = k := by
  intro k
  induction k with
  | zero => rfl
  | succ k ihk => unfold KH; rw [ihk, getD_replicate_false]; simp
 have := Uj (P := P) (Q' := Q) (tl := l.drop n) hB hpure hQ (by simp) hps W n _ _ a w.drew (hu n) inv0
 rwa [show n + (l.drop n).length = l.toArray.size by simp; omega] at this
theorem Zd {p : Nat} {o : Oper} {t : Operand} {i : Nat} (hp : ops[p]? = some o) (hg : o.guard = none) (ho : o.op = .extract t i) : S9 P ops p := by
 intro o' ho'; obtain rfl : o = o' := Option.some.inj (hp.symm.trans ho'); refine ⟨hg, by unfold qt; rw [ho], fun b w R h => ?_⟩; unfold yT at h
 have e : ∀ w2, (execOp b.eval o).run P w2 = (match b.eval t with
   | .tuple vs => match vs[i]? with
    | some v => .ok (.value v) w2
    | none => (execOp b.eval o).run P w2
   | _ => (execOp b.eval o).run P w2) := fun w2 => by
  split
  ·rename_i vs hv; split
   ·rename_i v hv2; simp only [execOp, ho, hv, Instr.extract, hv2]; rfl
   ·rfl
  ·rfl
 have bad : (∀ v, (∀ w2, (execOp b.eval o).run P w2 = .ok (.value v) w2) -> ∃ v, (∀ w2, (execOp b.eval o).run P w2 = .ok (.value v) w2) /\ R v w) := fun v hv => ⟨v, hv, by rw [hv w] at h; exact h⟩
 cases hb : b.eval t
 case tuple vs =>
  cases hv : vs[i]? with
  | some v => exact bad v fun w2 => by rw [e w2]; simp only [hb, hv]
  | none =>
   exfalso; simp only [execOp, ho, hb, Instr.extract, hv] at h; exact h
 all_goals
  exfalso; simp only [execOp, ho, hb, Instr.extract] at h; exact h
theorem T1 {id : Nat} {K : Act -> World -> Prop} {Q1 : Exit -> Act -> World -> Prop} {a : Act} {w : World} {l : List Oper} (n p : Nat) {ss : List Spec} (hm : P.follows .mixedOrders = true) (hB : NL .any l.toArray n p = true) (hpure : S9 P l.toArray p) (hp' : yZ ss)
  (h' : ∀ Q0 : Act -> World -> Prop, (∀ a' w', wpList P l.toArray (Exit.then K fun _ _ _ => False) (l.drop n) a' w' -> Q0 a' w') -> zC P l.toArray w Q0 ss (l.take n) a [] []) : (Code.region id l.toArray true).wp P (Exit.then K Q1) a w :=
 Code.wp_mono (fun e a w h => by cases e <;> first | exact h | exact h.elim) (Ky n p hm hB hpure (fun _ _ _ _ _ h => h) hp' h')
end
end Go.Calm

namespace Go.Proofs.YtcaedcpjdmlilaaGreat
open Go.RowKit Go.Calm
set_option linter.unusedSimpArgs false
set_option linter.unusedVariables false
def PSI (l : List Int) (v : Value) (W : World) : Prop := ∃ (B : Option Addr) (cap : Nat), v = .slice B l.length cap /\ xe W B l
theorem PSI.pers (l : List Int) : xx (PSI l) := fun v w w' hg ⟨B, c, e, h⟩ => ⟨B, c, e, h.grow hg⟩
abbrev Gn (w : World) (g : Nat) (r : E) : World := (((((w.setCell ⟨g, 0, none⟩ (.int .i64 r.kind)).setCell ⟨g, 1, none⟩ (.int .i64 r.v.k)).setCell ⟨g, 2, none⟩ (.int .i64 r.v.n)).setCell ⟨g, 3, none⟩ (.string r.v.s)).setCell ⟨g, 4, none⟩ (.int .i64 r.col)).setCell ⟨g, 5, none⟩ (.slice r.A r.n r.cap)
abbrev eC (z : E) : Array Value := #[.int .i64 z.kind, .int .i64 z.v.k, .int .i64 z.v.n, .string z.v.s, .int .i64 z.col, .slice z.A z.n z.cap]
abbrev e0C : Array Value := #[.int .i64 0, .int .i64 0, .int .i64 0, .string ⟨#[]⟩, .int .i64 0, .slice none 0 0]
theorem zb2 {T S1 : Nat -> Prop} {X w8 W9 : World} {z : E} {gz : Nat} {t : TypeId} (hz : Xj S1 w8 z) (hg : za w8 W9) (hb : zb W9 gz t e0C) (h : ∀ q, q < w8.heap.size -> S1 q -> T q /\ q ≠ gz) (hX : za X W9) (hge : X.heap.size <= gz) : zb (Gn W9 gz z) gz t (eC z) /\ Xj T (Gn W9 gz z) z /\ za X (Gn W9 gz z) := by
 have B := (((((hb.set 0 (.int .i64 z.kind)).set 1 (.int .i64 z.v.k)).set 2 (.int .i64 z.v.n)).set 3 (.string z.v.s)).set 4 (.int .i64 z.col)).set 5 (.slice z.A z.n z.cap); simp only [List.setIfInBounds_toArray, List.set_cons_zero, List.set_cons_succ] at B; refine ⟨B, ?_, Ym hX hge 0 z⟩; have h1 : Xj (fun q => S1 q /\ q < w8.heap.size) W9 z := (hz.mono (T := fun q => S1 q /\ q < w8.heap.size) (fun q a b => ⟨b, a⟩)).grow hg; have h2 := h1.move (w' := Gn W9 gz z) (fun q hq _ => Yn W9 gz 0 z (h q hq.2 hq.1).2) (by show W9.heap.size <= (SL W9 gz 0 z).heap.size; rw [Yo]; exact Nat.le_refl _); exact h2.mono (fun q _ hq => (h q hq.2 hq.1).1)
abbrev e2C (y x : E) : Array Value := #[.int .i64 y.kind, .int .i64 y.v.k, .int .i64 y.v.n, .string y.v.s, .int .i64 y.col, .slice y.A y.n y.cap, .int .i64 x.kind, .int .i64 x.v.k, .int .i64 x.v.n, .string x.v.s, .int .i64 x.col, .slice x.A x.n x.cap]
def VA (y x : E) (b : Bool) (lo : Nat) (v : Value) (W : World) : Prop := ∃ g : Nat, v = .tuple #[eV (Za 4 y x (some ⟨g, 0, none⟩)), .bool b] /\ lo <= g /\ zb W g 27 (e2C y x)
def VA1 (y x : E) (lo : Nat) (v : Value) (W : World) : Prop := ∃ g : Nat, v = eV (Za 4 y x (some ⟨g, 0, none⟩)) /\ lo <= g /\ zb W g 27 (e2C y x)
def VZ (lo : Nat) (v : Value) (W : World) : Prop := ∃ g : Nat, v = .pointer (some ⟨g, 0, none⟩) /\ lo <= g /\ zb W g 27 e0C
def Hh (b : Bool) (v : Value) (W : World) : Prop := v = .bool b
theorem VA.pers (y x : E) (b : Bool) (lo : Nat) : xx (VA y x b lo) := fun v w w' hg ⟨g, a, b, c⟩ => ⟨g, a, b, c.grow hg⟩
theorem VA1.pers (y x : E) (lo : Nat) : xx (VA1 y x lo) := fun v w w' hg ⟨g, a, b, c⟩ => ⟨g, a, b, c.grow hg⟩
theorem VZ.pers (lo : Nat) : xx (VZ lo) := fun v w w' hg ⟨g, a, b, c⟩ => ⟨g, a, b, c.grow hg⟩
theorem Hh.pers (b : Bool) : xx (Hh b) := fun v w w' hg h => h
theorem YF (ts : List (List Int)) (p : PL) : (zi ts p).1.length <= 8 := by
 unfold zi; split
 ·simp
 ·split
  ·simp
  ·rename_i h1; split
   ·simp
   ·rename_i h2; exact ZY (fun t ht => (YX (by simpa using h1) t ht).1) p 1 0 (by simpa using h2)
theorem F1 (ts : List (L2 Int)) (At : Option Addr) (nt : Nat) (k n : Int) (y : E) (xs : jj) (ag : jh) (A : Option Addr) (m cap : Nat) (kid : Nat -> PL) (ih : ∀ i, i < m -> S5 ts At nt (kid i)) (hj : He ts At nt (.mk k n y xs ag A m cap kid)) : S5 ts At nt (.mk k n y xs ag A m cap kid) := by
 intro S gw x w hW hp hx hP hX; have HW := Lib.hid hW; have HP := Lib.hid hP; have HX := Lib.hid hX; have HWp := Lib.hid hp; have HWx := Lib.hid hx; have IH := Lib.hid ih; have HJ := Lib.hid hj; have c0 := hW.c; obtain ⟨hm, hk0, hwy, hwk⟩ : (m : Int) = zo k /\ 0 <= zo k /\ (k = 2 \/ (4 <= k /\ k <= 7) -> WfE y) /\ ∀ i, i < m -> Jo (kid i) := hp
 have hkc : ∀ i, i < m -> ∃ g o, A = some ⟨g, o, none⟩ /\ zX w g (o + i * 11) (kid i) := by
  cases hP.px with
  | mk hm hc => exact hc
 have Hm := Lib.hid hm; have Hwy := Lib.hid hwy; have Hwk := Lib.hid hwk; have Hkc := Lib.hid hkc; unfold E.val PL.val; simp only [PL.k, PL.n, PL.x, PL.xs, PL.ag, PL.A, PL.m, PL.cap]; clear hW hx hP hX ih hj hm hwy hwk hkc; go_enter Tryz.func90, Tryz.ntmps90; go_upto_region 1 with fail
 refine zc (fun X => zb X w.heap.size 27 #[.int .i64 x.kind, .int .i64 x.v.k, .int .i64 x.v.n, .string x.v.s, .int .i64 x.col, .slice x.A x.n x.cap] /\ zb X (w.heap.size + 1) 31 #[.int .i64 k, .int .i64 n, .int .i64 y.kind, .int .i64 y.v.k, .int .i64 y.v.n, .string y.v.s, .int .i64 y.col, .slice y.A y.n y.cap, .slice xs.A xs.l.length xs.c, .slice ag.A ag.l.length ag.c, .slice A m cap] /\ zb X (w.heap.size + 1 + 1) 31 #[.int .i64 0, .int .i64 0, .int .i64 0, .int .i64 0, .int .i64 0, .string ⟨#[]⟩, .int .i64 0, .slice none 0 0, .slice none 0 0, .slice none 0 0, .slice none 0 0] /\ za w X) ⟨((zb.new _ _ _).al _).al _, (zb.new' _ _ _ (by simp)).al _, zb.new' _ _ _ (by simp), (by with_reducible repeat (first | exact za.refl _ | assumption | refine za.set ?_ (by simp <;> omega) _ | refine za.al ?_ _ | refine za.drew ?_ | refine za.drewN ?_ _ | refine za.trans ?_ (by assumption)))⟩ ?_; rintro X ⟨BX0, BP0, BR0, G⟩; obtain ⟨gx, hgx⟩ : ∃ gx, w.heap.size = gx := ⟨_, rfl⟩
 have hge : w.heap.size <= gx := by omega
 rw [hgx] at BX0 BP0 BR0 ⊢; have BX := Lib.hid BX0; have BP := Lib.hid BP0; have BR := Lib.hid BR0; have HGE := Lib.hid hge; have sz := BR0.lt; have SZ := Lib.hid sz; have n1 : gx ≠ gx + 1 := by omega
 have n2 : gx ≠ gx + 1 + 1 := by omega
 have n3 : gx + 1 ≠ gx + 1 + 1 := by omega
 have lx := BX0.lt; have lp := BP0.lt; obtain ⟨bx, fx⟩ := BX0.rules; obtain ⟨bp, fp⟩ := BP0.rules; have NN := Lib.hid (And.intro n1 (And.intro n2 n3)); have c1 := G.cell c0; have p0 : qI (yg S w.heap.size gx) X (.mk k n y xs ag A m cap kid) := (HP.out.mono (T := yg S w.heap.size gx) (fun q hq hs => .inl ⟨hs, hq⟩)).grow G; have x0 : Xj (yg S w.heap.size gx) X x := (HX.out.mono (T := yg S w.heap.size gx) (fun q hq hs => .inl ⟨hs, hq⟩)).grow G; have P0 := Lib.hid p0; have X0 := Lib.hid x0
 have Ts : ∀ (W : World), X.heap.size <= W.heap.size -> ∀ q, Rt (yg S w.heap.size gx) W.heap.size q -> yg S w.heap.size gx q := fun W hW q hq => by
  rcases hq with h | h
  ·exact h
  ·exact .inr ⟨by omega, by omega, by omega, by omega⟩
 have TS := Lib.hid Ts; have cp := fun i (hi : i < m) W (h : za X W) => (IH.out i hi (yg S w.heap.size gx) gw x W (HW.out.grow (G.trans h)) (Hwk.out i hi) HWx.out ((P0.out.kid hi).grow h) (X0.out.grow h)).mono (fun en w' ⟨r, h1, h2, h3, h4⟩ => (⟨r, h1, h2.mono (fun q _ hq => Ts W h.size q hq), h3, h4⟩ : ∃ r : PL, en = Ending.returned (pV r) /\ qI (yg S w.heap.size gx) w' r /\ nP r = zn (zh ts) (nP (kid i)) (nE x) /\ za W w'))
 have cf := fun W (h : za X W) => (XZ (yg S w.heap.size gx) x (.mk k n y xs ag A m cap kid) W (X0.out.grow h) (P0.out.grow h)).mono (fun en w' ⟨r, h1, h2, h3, h4⟩ => (⟨r, h1, h2.mono (fun q _ hq => Ts W h.size q hq), h3, h4⟩ : ∃ r : PL, en = Ending.returned (pV r) /\ qI (yg S w.heap.size gx) w' r /\ nP r = xG (nE x) (nP (.mk k n y xs ag A m cap kid)) /\ za W w'))
 unfold E.val at cp cf; unfold PL.val at cp cf; simp only [PL.k, PL.n, PL.x, PL.xs, PL.ag, PL.A, PL.m, PL.cap] at cf; have CP := Lib.hid cp; have CF := Lib.hid cf; clear BX0 BP0 BR0 hge sz p0 x0 Ts cp cf
 go_cut [23] (fun s wx => s = .bool (qB x) /\ wx = X)
 case first =>
  have fa : decide (x.kind = 1) = (x.kind == 1) := rfl
  by_cases a1 : x.kind = 1
  ·have d1 : (x.kind == 1) = true := by simpa using a1
   by_cases a2 : x.v.k = 2
   ·have d2 : (x.v.k == 2) = true := by simpa using a2
    by_cases a3 : x.v.n = 1
    ·have d3 : (x.v.n == 1) = true := by simpa using a3
     go_wp2; go_meet; exact ⟨by simp [qB, a1, a2, a3], rfl⟩
    ·have d3 : (x.v.n == 1) = false := by simpa using a3
     go_wp2; go_meet; exact ⟨by simp [qB, a1, a2, a3], rfl⟩
   ·have d2 : (x.v.k == 2) = false := by simpa using a2
    go_wp2; go_meet; exact ⟨by simp [qB, a1, a2], rfl⟩
  ·have d1 : (x.kind == 1) = false := by simpa using a1
   go_wp2; go_meet; exact ⟨by simp [qB, a1], rfl⟩
 case rest =>
  obtain ⟨rfl, rfl⟩ := hcut; rename World => X
  cases hlit : qB x
  ·have kk : k = 1 \/ k = 2 \/ k = 3 \/ k = 4 \/ k = 5 \/ k = 6 \/ k = 7 \/ k = 8 \/ k = 9 \/ k = 10 \/ k = 11 \/ k = 12 \/ k = 13 := by
    clear fx fp bx bp c1 Hm; unfold zo at hk0
    repeat' split at hk0
    all_goals omega
   have HL := Lib.hid hlit; clear hk0; rcases kk with rfl | rfl | rfl | rfl | rfl | rfl | rfl | rfl | rfl | rfl | rfl | rfl | rfl
   ·have HM := Lib.hid (show m = 0 by have := Hm.out; unfold zo at this; simp at this; omega); clear Hm; clear CP
    go_wp2_with (go_at_call 130; ((with_reducible refine (CF.out _ (za.refl _)).mono ?_); rintro en w5 ⟨r, rfl, hr, hn, hg5⟩; obtain ⟨br, fr⟩ := (BR.out.grow hg5).rules; have lr := (BR.out.grow hg5).lt))
    have B3 := zq (r) (BR.out.grow hg5); simp only [st11, PL.k, PL.n, PL.x, PL.xs, PL.ag, PL.A, PL.m, PL.cap] at B3; obtain ⟨b3, f3⟩ := B3.rules; refine bodyPost_ret (v := (r).val) (by simp [results, Tryz.results90, go_sem, b3, PL.val, PL.k, PL.n, PL.x, PL.xs, PL.ag, PL.A, PL.m, PL.cap]) rfl ?_; exact RP.put (r := r) hr (hn.trans (Kf HL.out (by decide)).symm) (G.trans hg5) HGE.out
   ·have HM := Lib.hid (show m = 1 by have := Hm.out; unfold zo at this; simp at this; omega); clear Hm; have h0m : 0 < m := by have := HM.out; omega
    have h0i : (0 : Int) < (m : Int) := by omega
    obtain ⟨ga, oa, hA, K0⟩ := Hkc.out 0 (by have := HM.out; omega); subst hA; simp only [Nat.zero_mul, Nat.add_zero] at K0; have K0 := Lib.hid K0; obtain ⟨CE, hCE⟩ : ∃ CE, zi (zh ts) (kid 0) = CE := ⟨_, rfl⟩
    have lCE : CE.1.length <= 8 := by rw [<- hCE]; exact YF _ _
    have hCE' : zi (zh ts) (kid 0) = CE := hCE; have cc := fun W (h : za X W) => Wn ts At nt gw (kid 0) W (HW.out.grow (G.trans h)) ((P0.out.kid h0m).grow h).px
    rw [hCE] at cc; have cb := fun (B : Option Addr) (c9 : Nat) W (h : za X W) (hi : xe W B CE.1) => Lc CE.1 B c9 y x W (by omega) hi ((P0.out.nx.x).grow h).ex (X0.out.grow h).ex
    obtain ⟨bb, hbb⟩ : ∃ bb, decide ((zr CE.1 (yO (nE y) (nE x))).2 = 0) = bb := ⟨_, rfl⟩
    rw [hbb] at cb; unfold E.val at cb; unfold PL.val at cc; have CC := Lib.hid cc; have CB := Lib.hid cb; have HCE := Lib.hid (And.intro hCE hbb); clear cc cb hCE hCE' hbb CP; have Y0 := Lib.hid (P0.out.nx.x); go_wp2
    go_cut [7, 8] (fun a b wx => ∃ (gz : Nat) (z : E), a = .pointer (some ⟨gz, 0, none⟩) /\ b = .bool bb /\ zb wx gz 27 (eC z) /\ Xj (yg S w.heap.size gx) wx z /\ nE z = yO (nE y) (nE x) /\ za X wx)
    case first =>
     apply T1 14 12 (by kernel_rfl) (by kernel_rfl) (Zd rfl rfl rfl)
     case h' =>
      intro Q0 hQ0; simp only [List.take_succ_cons, List.take_zero]
      repeat ((first | ((first | apply calm_p rfl | apply zg rfl rfl rfl); case h1 => (intro w1 hw1 hF K hK; obtain ⟨bx, fx⟩ := (BX.out.grow hw1).rules; obtain ⟨bp, fp⟩ := (BP.out.grow hw1).rules; obtain ⟨k0, k1, k2, k3, k4, k5, k6, k7, k8, k9, k10⟩ := K0.out.grow (G.trans hw1); go_simp; first | exact hK _ (za.refl _))) | apply ze rfl rfl rfl rfl); intro K hK; go_simp; apply hK; clear hK K)
      apply calm_fp (PSI CE.1) rfl
      case h1 =>
       intro w1 hw1 hF K hK; obtain ⟨bx, fx⟩ := (BX.out.grow hw1).rules; obtain ⟨bp, fp⟩ := (BP.out.grow hw1).rules; obtain ⟨k0, k1, k2, k3, k4, k5, k6, k7, k8, k9, k10⟩ := K0.out.grow (G.trans hw1); go_simp
       go_at_call 129
       refine (CC.out w1 hw1).mono ?_; rintro en w' ⟨B7, c7, rfl, hi7, hg'⟩; exact ⟨_, rfl, hK _ _ hg' ⟨B7, c7, rfl, hi7⟩⟩
      intro v35 K hK; go_simp; apply hK; clear hK K
      repeat ((first | ((first | apply calm_p rfl | apply zg rfl rfl rfl); case h1 => (intro w1 hw1 hF K hK; obtain ⟨bx, fx⟩ := (BX.out.grow hw1).rules; obtain ⟨bp, fp⟩ := (BP.out.grow hw1).rules; obtain ⟨k0, k1, k2, k3, k4, k5, k6, k7, k8, k9, k10⟩ := K0.out.grow (G.trans hw1); go_simp; first | exact hK _ (za.refl _))) | apply ze rfl rfl rfl rfl); intro K hK; go_simp; apply hK; clear hK K)
      apply calm_fp (VA y x bb X.heap.size) rfl
      case h1 =>
       intro w1 hw1 hF K hK; obtain ⟨B7, c7, hv, hi7⟩ := hF _ (List.mem_cons_self ..) ⟨_, rfl, by decide⟩; subst hv; go_simp
       go_at_call 128
       refine (CB.out B7 c7 w1 hw1 hi7).mono ?_; rintro en w' ⟨g, rfl, hge9, hb9, hg'⟩; exact ⟨_, rfl, hK _ _ hg' ⟨g, rfl, Nat.le_trans hw1.size hge9, hb9⟩⟩
      intro v39 K hK; go_simp; apply hK; clear hK K; apply calm_fp (VA y x bb X.heap.size) rfl
      case h1 =>
       intro w1 hw1 hF K hK; have D9 := hF _ (List.mem_cons_self ..) ⟨_, rfl, by decide⟩; go_simp; exact hK _ _ (za.refl _) D9
      intro v29 K hK; go_simp; apply hK; clear hK K; apply calm_fp (VA1 y x X.heap.size) rfl
      case h1 =>
       intro w1 hw1 hF K hK; obtain ⟨g, hv, hg1, hb1⟩ := hF _ (List.mem_cons_self ..) ⟨_, rfl, by decide⟩; subst hv; go_simp; exact hK _ _ (za.refl _) ⟨g, rfl, hg1, hb1⟩
      intro v40 K hK; go_simp; apply hK; clear hK K; apply calm_fp (Hh bb) rfl
      case h1 =>
       intro w1 hw1 hF K hK; obtain ⟨g, hv, hg1, hb1⟩ := hF _ (List.mem_cons_of_mem _ (List.mem_cons_self ..)) ⟨_, rfl, by decide⟩; subst hv; go_simp; exact hK _ _ (za.refl _) rfl
      intro v41 K hK; go_simp; apply hK; clear hK K; apply calm_fp (VZ X.heap.size) rfl
      case h1 =>
       intro w1 hw1 hF K hK; go_simp; exact hK _ _ ((za.refl _).al _) ⟨w1.heap.size, rfl, hw1.size, zb.new _ _ _⟩
      intro v7 K hK; go_simp; apply hK; clear hK K; refine calm_nil ?_; intro w1 hw1 hF; apply hQ0; clear hQ0; simp only [List.drop_succ_cons, List.drop_zero]; obtain ⟨gz, hv, hgz, BZ⟩ := hF _ (List.mem_cons_self ..); subst hv; have hv := hF _ (List.mem_cons_of_mem _ (List.mem_cons_self ..)); unfold Hh at hv; subst hv; obtain ⟨g, hv, hg1, hb1⟩ := hF _ (List.mem_cons_of_mem _ (List.mem_cons_of_mem _ (List.mem_cons_self ..))); subst hv; clear hF
      have hne : g ≠ gz := fun h => by
       subst h; have e := (hb1.cell 11).symm.trans (BZ.cell 11); simp at e
      have hz1 : Xj (fun q => (yg S w.heap.size gx q /\ q < X.heap.size) \/ q = g) w1 (Za 4 y x (some ⟨g, 0, none⟩)) := fun W a => R2 y x (W4 hb1 a (.inr rfl)) (((Y0.out.mono (T := fun q => yg S w.heap.size gx q /\ q < X.heap.size) (fun q a b => ⟨b, a⟩)).grow hw1) W (a.mono (fun q _ h => .inl h))) (((X0.out.mono (T := fun q => yg S w.heap.size gx q /\ q < X.heap.size) (fun q a b => ⟨b, a⟩)).grow hw1) W (a.mono (fun q _ h => .inl h))) ⟨by decide, by decide⟩
      have ZZ := Lib.hid (zb2 (T := yg S w.heap.size gx) hz1 (za.refl w1) BZ (fun q _ hq => by
       rcases hq with ⟨h1, h2⟩ | h
       ·exact ⟨h1, by omega⟩
       ·subst h; exact ⟨TS.out X (Nat.le_refl _) _ (.inr hg1), hne⟩) hw1 hgz)
      have lgz := BZ.lt; obtain ⟨bz, fz⟩ := BZ.rules; clear hz1 hb1 hne hg1 hgz BZ
      go_wp2_with fail
      go_meet; exact ⟨gz, _, rfl, rfl, ZZ.out.1, ZZ.out.2.1, by rw [MR]; rfl, ZZ.out.2.2⟩
     case hp' => exact ⟨PSI.pers _, VA.pers _ _ _ _, VA.pers _ _ _ _, VA1.pers _ _ _, Hh.pers _, VZ.pers _, trivial⟩
    case rest =>
     obtain ⟨gz, z, rfl, rfl, BZ, hzY, hnz, GY⟩ := hcut; rename World => Y
     have BZ' := Lib.hid BZ; have HZ := Lib.hid (And.intro hzY hnz); clear BZ hzY hnz; cases bb
     ·obtain ⟨bx, fx⟩ := (BX.out.grow GY).rules; obtain ⟨bp, fp⟩ := (BP.out.grow GY).rules
      go_wp2_with (go_at_call 130; ((with_reducible refine (CF.out _ GY).mono ?_); rintro en w5 ⟨r, rfl, hr, hn, hg5⟩; obtain ⟨br, fr⟩ := ((BR.out.grow GY).grow hg5).rules; have lr := ((BR.out.grow GY).grow hg5).lt))
      have B3 := zq (r) (BR.out.grow (GY.trans hg5)); simp only [st11, PL.k, PL.n, PL.x, PL.xs, PL.ag, PL.A, PL.m, PL.cap] at B3; obtain ⟨b3, f3⟩ := B3.rules; refine bodyPost_ret (v := (r).val) (by simp [results, Tryz.results90, go_sem, b3, PL.val, PL.k, PL.n, PL.x, PL.xs, PL.ag, PL.A, PL.m, PL.cap]) rfl ?_; exact RP.put (r := r) hr (hn.trans (by rw [Di HL.out HM.out, HCE.out.1, if_neg (of_decide_eq_false HCE.out.2)])) (G.trans (GY.trans hg5)) HGE.out
     ·have cz := fun W (h : za Y W) => (XZ (yg S w.heap.size gx) z (kid 0) W (HZ.out.1.grow h) ((P0.out.kid h0m).grow (GY.trans h))).mono (fun en w' ⟨r, h1, h2, h3, h4⟩ => (⟨r, h1, h2.mono (fun q _ hq => TS.out W (GY.trans h).size q hq), h3, h4⟩ : ∃ r : PL, en = Ending.returned (pV r) /\ qI (yg S w.heap.size gx) w' r /\ nP r = xG (nE z) (nP (kid 0)) /\ za W w'))
      unfold E.val at cz; unfold PL.val at cz; have CZ := Lib.hid cz; clear cz; go_wp2; apply wp_region_calm 6 (by kernel_rfl) (by kernel_rfl)
      case h' =>
       intro Q0 hQ0; simp only [List.take_succ_cons, List.take_zero]
       repeat ((first | ((first | apply calm_p rfl | apply zg rfl rfl rfl); case h1 => (intro w1 hw1 hF K hK; obtain ⟨bz, fz⟩ := (BZ'.out.grow hw1).rules; obtain ⟨bp, fp⟩ := ((BP.out.grow GY).grow hw1).rules; obtain ⟨k0, k1, k2, k3, k4, k5, k6, k7, k8, k9, k10⟩ := K0.out.grow ((G.trans GY).trans hw1); go_simp; first | exact hK _ (za.refl _))) | apply ze rfl rfl rfl rfl); intro K hK; go_simp; apply hK; clear hK K)
       apply calm_fp (VP (yg S w.heap.size gx) (xG (nE z) (nP (kid 0)))) rfl
       case h1 =>
        intro w1 hw1 hF K hK; go_simp
        go_at_call 130
        refine (CZ.out w1 hw1).mono ?_; rintro en w' ⟨r, rfl, hr, hn, hg'⟩; exact ⟨_, rfl, hK _ _ hg' ⟨r, rfl, hr, hn⟩⟩
       intro v48 K hK; go_simp; apply hK; clear hK K; refine calm_nil ?_; intro w2 hw2 hF; apply hQ0; clear hQ0; simp only [List.drop_succ_cons, List.drop_zero]; obtain ⟨r, hv, hr, hn⟩ := hF _ (List.mem_cons_self ..); subst hv; clear hF; have GY2 := GY.trans hw2; obtain ⟨br, fr⟩ := (BR.out.grow GY2).rules; have lr := (BR.out.grow GY2).lt; go_wp2; have B3 := zq (r) (BR.out.grow GY2); simp only [st11, PL.k, PL.n, PL.x, PL.xs, PL.ag, PL.A, PL.m, PL.cap] at B3; obtain ⟨b3, f3⟩ := B3.rules; refine bodyPost_ret (v := (r).val) (by simp [results, Tryz.results90, go_sem, b3, PL.val, PL.k, PL.n, PL.x, PL.xs, PL.ag, PL.A, PL.m, PL.cap]) rfl ?_; exact RP.put (r := r) hr (hn.trans (by rw [HZ.out.2, Di HL.out HM.out, HCE.out.1, if_pos (of_decide_eq_true HCE.out.2)])) (G.trans GY2) HGE.out
      case hp' => exact ⟨VP.pers _ _, trivial⟩
   ·have HM := Lib.hid (show m = 1 by have := Hm.out; unfold zo at this; simp at this; omega); clear Hm; clear CP
    go_wp2_with (go_at_call 130; ((with_reducible refine (CF.out _ (za.refl _)).mono ?_); rintro en w5 ⟨r, rfl, hr, hn, hg5⟩; obtain ⟨br, fr⟩ := (BR.out.grow hg5).rules; have lr := (BR.out.grow hg5).lt))
    have B3 := zq (r) (BR.out.grow hg5); simp only [st11, PL.k, PL.n, PL.x, PL.xs, PL.ag, PL.A, PL.m, PL.cap] at B3; obtain ⟨b3, f3⟩ := B3.rules; refine bodyPost_ret (v := (r).val) (by simp [results, Tryz.results90, go_sem, b3, PL.val, PL.k, PL.n, PL.x, PL.xs, PL.ag, PL.A, PL.m, PL.cap]) rfl ?_; exact RP.put (r := r) hr (hn.trans (Kf HL.out (by decide)).symm) (G.trans hg5) HGE.out
   ·have HM := Lib.hid (show m = 2 by have := Hm.out; unfold zo at this; simp at this; omega); clear Hm; have cj := (HJ.out (yg S w.heap.size gx) gw x X (HW.out.grow G) HWp.out HWx.out P0.out X0.out rfl HL.out).mono (fun en w' ⟨r, h1, h2, h3, h4⟩ => (⟨r, h1, h2.mono (fun q _ hq => TS.out X (Nat.le_refl _) q hq), h3, h4⟩ : ∃ r : PL, en = Ending.returned (pV r) /\ qI (yg S w.heap.size gx) w' r /\ nP r = zn (zh ts) (nP (.mk 4 n y xs ag A m cap kid)) (nE x) /\ za X w')); unfold E.val at cj; unfold PL.val at cj; simp only [PL.k, PL.n, PL.x, PL.xs, PL.ag, PL.A, PL.m, PL.cap] at cj; clear CP CF
    go_wp2_with (go_at_call 131; ((with_reducible refine cj.mono ?_); rintro en w5 ⟨r, rfl, hr, hn, hg5⟩; obtain ⟨br, fr⟩ := (BR.out.grow hg5).rules; have lr := (BR.out.grow hg5).lt))
    have B3 := zq (r) (BR.out.grow hg5); simp only [st11, PL.k, PL.n, PL.x, PL.xs, PL.ag, PL.A, PL.m, PL.cap] at B3; obtain ⟨b3, f3⟩ := B3.rules; refine bodyPost_ret (v := (r).val) (by simp [results, Tryz.results90, go_sem, b3, PL.val, PL.k, PL.n, PL.x, PL.xs, PL.ag, PL.A, PL.m, PL.cap]) rfl ?_; exact RP.put (r := r) hr hn (G.trans hg5) HGE.out
   ·have HM := Lib.hid (show m = 2 by have := Hm.out; unfold zo at this; simp at this; omega); clear Hm; have h0m : 0 < m := by have := HM.out; omega
    have h0i : (0 : Int) < (m : Int) := by omega
    obtain ⟨ga, oa, hA, K0⟩ := Hkc.out 0 (by have := HM.out; omega); subst hA; simp only [Nat.zero_mul, Nat.add_zero] at K0; have K0 := Lib.hid K0; have h1m : 1 < m := by have := HM.out; omega
    have h1i : (1 : Int) < (m : Int) := by omega
    obtain ⟨ga', oa', hA, K1⟩ := Hkc.out 1 (by have := HM.out; omega); cases hA; simp only [Nat.one_mul] at K1; have K1 := Lib.hid K1; clear CF; go_wp2; apply wp_region_calm 13 (by kernel_rfl) (by kernel_rfl)
    case h' =>
     intro Q0 hQ0; simp only [List.take_succ_cons, List.take_zero]
     repeat ((first | ((first | apply calm_p rfl | apply zg rfl rfl rfl); case h1 => (intro w1 hw1 hF K hK; obtain ⟨bx, fx⟩ := (BX.out.grow hw1).rules; obtain ⟨bp, fp⟩ := (BP.out.grow hw1).rules; obtain ⟨k0, k1, k2, k3, k4, k5, k6, k7, k8, k9, k10⟩ := K0.out.grow (G.trans hw1); obtain ⟨j0, j1, j2, j3, j4, j5, j6, j7, j8, j9, j10⟩ := K1.out.grow (G.trans hw1); go_simp; first | exact hK _ (za.refl _))) | apply ze rfl rfl rfl rfl); intro K hK; go_simp; apply hK; clear hK K)
     apply calm_fp (VP (yg S w.heap.size gx) (zn (zh ts) (nP (kid 0)) (nE x))) rfl
     case h1 =>
      intro w1 hw1 hF K hK; obtain ⟨bx, fx⟩ := (BX.out.grow hw1).rules; obtain ⟨bp, fp⟩ := (BP.out.grow hw1).rules; obtain ⟨k0, k1, k2, k3, k4, k5, k6, k7, k8, k9, k10⟩ := K0.out.grow (G.trans hw1); obtain ⟨j0, j1, j2, j3, j4, j5, j6, j7, j8, j9, j10⟩ := K1.out.grow (G.trans hw1); go_simp
      go_at_call 90
      refine (CP.out 0 (by have := HM.out; omega) w1 hw1).mono ?_; rintro en w' ⟨r, rfl, hr, hn, hg'⟩; exact ⟨_, rfl, hK _ _ hg' ⟨r, rfl, hr, hn⟩⟩
     intro v93 K hK; go_simp; apply hK; clear hK K
     repeat ((first | ((first | apply calm_p rfl | apply zg rfl rfl rfl); case h1 => (intro w1 hw1 hF K hK; obtain ⟨bx, fx⟩ := (BX.out.grow hw1).rules; obtain ⟨bp, fp⟩ := (BP.out.grow hw1).rules; obtain ⟨k0, k1, k2, k3, k4, k5, k6, k7, k8, k9, k10⟩ := K0.out.grow (G.trans hw1); obtain ⟨j0, j1, j2, j3, j4, j5, j6, j7, j8, j9, j10⟩ := K1.out.grow (G.trans hw1); go_simp; first | exact hK _ (za.refl _))) | apply ze rfl rfl rfl rfl); intro K hK; go_simp; apply hK; clear hK K)
     apply calm_fp (Ta (yg S w.heap.size gx) (zn (zh ts) (nP (kid 0)) (nE x)) (nP (kid 1))) rfl
     case h1 =>
      intro w1 hw1 hF K hK; obtain ⟨r, hv, hr, hn⟩ := hF _ (List.mem_cons_self ..) ⟨_, rfl, by decide⟩; subst hv; go_simp; exact hK _ _ ((za.refl _).al _) ⟨w1.heap.size, r, kid 1, rfl, (.inr ⟨by have := HGE.out; have := SZ.out; have := hw1.size; omega, by have := SZ.out; have := hw1.size; omega, by have := SZ.out; have := hw1.size; omega, by have := SZ.out; have := hw1.size; omega⟩), zb.new _ _ _, hr.grow ((za.refl _).al _), (P0.out.kid (by have := HM.out; omega)).grow (hw1.al _), hn, rfl⟩
     intro v98 K hK; go_simp; apply hK; clear hK K
     repeat ((first | ((first | apply calm_p rfl | apply zg rfl rfl rfl); case h1 => (intro w1 hw1 hF K hK; obtain ⟨bx, fx⟩ := (BX.out.grow hw1).rules; obtain ⟨bp, fp⟩ := (BP.out.grow hw1).rules; go_simp; first | exact hK _ (za.refl _))) | apply ze rfl rfl rfl rfl); intro K hK; go_simp; apply hK; clear hK K)
     refine calm_nil ?_; intro w1 hw1 hF; apply hQ0; clear hQ0; simp only [List.drop_succ_cons, List.drop_zero]; obtain ⟨g2, r, r', hv, hT, hB, hr, hr', hn, hn'⟩ := hF _ (List.mem_cons_self ..); subst hv; clear hF; obtain ⟨br, fr⟩ := (BR.out.grow hw1).rules; have lr := (BR.out.grow hw1).lt; obtain ⟨bp, fp⟩ := (BP.out.grow hw1).rules; have lp := (BP.out.grow hw1).lt; clear bx fx; go_wp2; have hh : ∀ q, q ≠ gx + 1 -> (w1.setCell ⟨gx + 1, 10, none⟩ (.slice (some ⟨g2, 0, none⟩) 2 2)).heap[q]? = w1.heap[q]? := fun q hq => Below.heap_setCell w1 ⟨gx + 1, 10, none⟩ _ q hq
     have ag9 : Zh (yg S w.heap.size gx) w1 (w1.setCell ⟨gx + 1, 10, none⟩ (.slice (some ⟨g2, 0, none⟩) 2 2)) := fun q hq _ => hh q (by have := HGE.out; rcases hq with h | h; omega; exact h.2.2.1)
     have hrr : qI (yg S w.heap.size gx) (w1.setCell ⟨gx + 1, 10, none⟩ (.slice (some ⟨g2, 0, none⟩) 2 2)) (qh 5 n y xs ag g2 2 r r') := (YP 2 hB hT ((P0.out.nx).grow hw1) hr hr').move ag9 (by simp); have nrr : nP (qh 5 n y xs ag g2 2 r r') = zn (zh ts) (nP (.mk 5 n y xs ag (some ⟨ga, oa, none⟩) m cap kid)) (nE x) := by rw [Q4, hn, hn', Dj HL.out HM.out (by decide)]
     have BRW : zb (w1.setCell ⟨gx + 1, 10, none⟩ (.slice (some ⟨g2, 0, none⟩) 2 2)) (gx + 1 + 1) 31 #[.int .i64 0, .int .i64 0, .int .i64 0, .int .i64 0, .int .i64 0, .string ⟨#[]⟩, .int .i64 0, .slice none 0 0, .slice none 0 0, .slice none 0 0, .slice none 0 0] := zb.other (BR.out.grow hw1) NN.out.2.2 10 _; have GW : za w (w1.setCell ⟨gx + 1, 10, none⟩ (.slice (some ⟨g2, 0, none⟩) 2 2)) := za.set (G.trans hw1) (by have := HGE.out; show w.heap.size <= gx + 1; omega) _; have B3 := zq (qh 5 n y xs ag g2 2 r r') BRW; simp only [st11, qh, PL.k, PL.n, PL.x, PL.xs, PL.ag, PL.A, PL.m, PL.cap] at B3; obtain ⟨b3, f3⟩ := B3.rules; refine bodyPost_ret (v := (qh 5 n y xs ag g2 2 r r').val) (by simp [results, Tryz.results90, go_sem, b3, qh, PL.val, PL.k, PL.n, PL.x, PL.xs, PL.ag, PL.A, PL.m, PL.cap]) rfl ?_; exact RP.put (r := (qh 5 n y xs ag g2 2 r r')) hrr nrr GW HGE.out
    case hp' => exact ⟨VP.pers _ _, Ta.pers _ _ _, trivial⟩
   ·have HM := Lib.hid (show m = 2 by have := Hm.out; unfold zo at this; simp at this; omega); clear Hm; have h0m : 0 < m := by have := HM.out; omega
    have h0i : (0 : Int) < (m : Int) := by omega
    obtain ⟨ga, oa, hA, K0⟩ := Hkc.out 0 (by have := HM.out; omega); subst hA; simp only [Nat.zero_mul, Nat.add_zero] at K0; have K0 := Lib.hid K0; have h1m : 1 < m := by have := HM.out; omega
    have h1i : (1 : Int) < (m : Int) := by omega
    obtain ⟨ga', oa', hA, K1⟩ := Hkc.out 1 (by have := HM.out; omega); cases hA; simp only [Nat.one_mul] at K1; have K1 := Lib.hid K1; clear CF; go_wp2; apply wp_region_calm 13 (by kernel_rfl) (by kernel_rfl)
    case h' =>
     intro Q0 hQ0; simp only [List.take_succ_cons, List.take_zero]
     repeat ((first | ((first | apply calm_p rfl | apply zg rfl rfl rfl); case h1 => (intro w1 hw1 hF K hK; obtain ⟨bx, fx⟩ := (BX.out.grow hw1).rules; obtain ⟨bp, fp⟩ := (BP.out.grow hw1).rules; obtain ⟨k0, k1, k2, k3, k4, k5, k6, k7, k8, k9, k10⟩ := K0.out.grow (G.trans hw1); obtain ⟨j0, j1, j2, j3, j4, j5, j6, j7, j8, j9, j10⟩ := K1.out.grow (G.trans hw1); go_simp; first | exact hK _ (za.refl _))) | apply ze rfl rfl rfl rfl); intro K hK; go_simp; apply hK; clear hK K)
     apply calm_fp (VP (yg S w.heap.size gx) (zn (zh ts) (nP (kid 0)) (nE x))) rfl
     case h1 =>
      intro w1 hw1 hF K hK; obtain ⟨bx, fx⟩ := (BX.out.grow hw1).rules; obtain ⟨bp, fp⟩ := (BP.out.grow hw1).rules; obtain ⟨k0, k1, k2, k3, k4, k5, k6, k7, k8, k9, k10⟩ := K0.out.grow (G.trans hw1); obtain ⟨j0, j1, j2, j3, j4, j5, j6, j7, j8, j9, j10⟩ := K1.out.grow (G.trans hw1); go_simp
      go_at_call 90
      refine (CP.out 0 (by have := HM.out; omega) w1 hw1).mono ?_; rintro en w' ⟨r, rfl, hr, hn, hg'⟩; exact ⟨_, rfl, hK _ _ hg' ⟨r, rfl, hr, hn⟩⟩
     intro v93 K hK; go_simp; apply hK; clear hK K
     repeat ((first | ((first | apply calm_p rfl | apply zg rfl rfl rfl); case h1 => (intro w1 hw1 hF K hK; obtain ⟨bx, fx⟩ := (BX.out.grow hw1).rules; obtain ⟨bp, fp⟩ := (BP.out.grow hw1).rules; obtain ⟨k0, k1, k2, k3, k4, k5, k6, k7, k8, k9, k10⟩ := K0.out.grow (G.trans hw1); obtain ⟨j0, j1, j2, j3, j4, j5, j6, j7, j8, j9, j10⟩ := K1.out.grow (G.trans hw1); go_simp; first | exact hK _ (za.refl _))) | apply ze rfl rfl rfl rfl); intro K hK; go_simp; apply hK; clear hK K)
     apply calm_fp (Ta (yg S w.heap.size gx) (zn (zh ts) (nP (kid 0)) (nE x)) (nP (kid 1))) rfl
     case h1 =>
      intro w1 hw1 hF K hK; obtain ⟨r, hv, hr, hn⟩ := hF _ (List.mem_cons_self ..) ⟨_, rfl, by decide⟩; subst hv; go_simp; exact hK _ _ ((za.refl _).al _) ⟨w1.heap.size, r, kid 1, rfl, (.inr ⟨by have := HGE.out; have := SZ.out; have := hw1.size; omega, by have := SZ.out; have := hw1.size; omega, by have := SZ.out; have := hw1.size; omega, by have := SZ.out; have := hw1.size; omega⟩), zb.new _ _ _, hr.grow ((za.refl _).al _), (P0.out.kid (by have := HM.out; omega)).grow (hw1.al _), hn, rfl⟩
     intro v98 K hK; go_simp; apply hK; clear hK K
     repeat ((first | ((first | apply calm_p rfl | apply zg rfl rfl rfl); case h1 => (intro w1 hw1 hF K hK; obtain ⟨bx, fx⟩ := (BX.out.grow hw1).rules; obtain ⟨bp, fp⟩ := (BP.out.grow hw1).rules; go_simp; first | exact hK _ (za.refl _))) | apply ze rfl rfl rfl rfl); intro K hK; go_simp; apply hK; clear hK K)
     refine calm_nil ?_; intro w1 hw1 hF; apply hQ0; clear hQ0; simp only [List.drop_succ_cons, List.drop_zero]; obtain ⟨g2, r, r', hv, hT, hB, hr, hr', hn, hn'⟩ := hF _ (List.mem_cons_self ..); subst hv; clear hF; obtain ⟨br, fr⟩ := (BR.out.grow hw1).rules; have lr := (BR.out.grow hw1).lt; obtain ⟨bp, fp⟩ := (BP.out.grow hw1).rules; have lp := (BP.out.grow hw1).lt; clear bx fx; go_wp2; have hh : ∀ q, q ≠ gx + 1 -> (w1.setCell ⟨gx + 1, 10, none⟩ (.slice (some ⟨g2, 0, none⟩) 2 2)).heap[q]? = w1.heap[q]? := fun q hq => Below.heap_setCell w1 ⟨gx + 1, 10, none⟩ _ q hq
     have ag9 : Zh (yg S w.heap.size gx) w1 (w1.setCell ⟨gx + 1, 10, none⟩ (.slice (some ⟨g2, 0, none⟩) 2 2)) := fun q hq _ => hh q (by have := HGE.out; rcases hq with h | h; omega; exact h.2.2.1)
     have hrr : qI (yg S w.heap.size gx) (w1.setCell ⟨gx + 1, 10, none⟩ (.slice (some ⟨g2, 0, none⟩) 2 2)) (qh 6 n y xs ag g2 2 r r') := (YP 2 hB hT ((P0.out.nx).grow hw1) hr hr').move ag9 (by simp); have nrr : nP (qh 6 n y xs ag g2 2 r r') = zn (zh ts) (nP (.mk 6 n y xs ag (some ⟨ga, oa, none⟩) m cap kid)) (nE x) := by rw [Q4, hn, hn', Dj HL.out HM.out (by decide)]
     have BRW : zb (w1.setCell ⟨gx + 1, 10, none⟩ (.slice (some ⟨g2, 0, none⟩) 2 2)) (gx + 1 + 1) 31 #[.int .i64 0, .int .i64 0, .int .i64 0, .int .i64 0, .int .i64 0, .string ⟨#[]⟩, .int .i64 0, .slice none 0 0, .slice none 0 0, .slice none 0 0, .slice none 0 0] := zb.other (BR.out.grow hw1) NN.out.2.2 10 _; have GW : za w (w1.setCell ⟨gx + 1, 10, none⟩ (.slice (some ⟨g2, 0, none⟩) 2 2)) := za.set (G.trans hw1) (by have := HGE.out; show w.heap.size <= gx + 1; omega) _; have B3 := zq (qh 6 n y xs ag g2 2 r r') BRW; simp only [st11, qh, PL.k, PL.n, PL.x, PL.xs, PL.ag, PL.A, PL.m, PL.cap] at B3; obtain ⟨b3, f3⟩ := B3.rules; refine bodyPost_ret (v := (qh 6 n y xs ag g2 2 r r').val) (by simp [results, Tryz.results90, go_sem, b3, qh, PL.val, PL.k, PL.n, PL.x, PL.xs, PL.ag, PL.A, PL.m, PL.cap]) rfl ?_; exact RP.put (r := (qh 6 n y xs ag g2 2 r r')) hrr nrr GW HGE.out
    case hp' => exact ⟨VP.pers _ _, Ta.pers _ _ _, trivial⟩
   ·have HM := Lib.hid (show m = 2 by have := Hm.out; unfold zo at this; simp at this; omega); clear Hm; clear CP
    go_wp2_with (go_at_call 130; ((with_reducible refine (CF.out _ (za.refl _)).mono ?_); rintro en w5 ⟨r, rfl, hr, hn, hg5⟩; obtain ⟨br, fr⟩ := (BR.out.grow hg5).rules; have lr := (BR.out.grow hg5).lt))
    have B3 := zq (r) (BR.out.grow hg5); simp only [st11, PL.k, PL.n, PL.x, PL.xs, PL.ag, PL.A, PL.m, PL.cap] at B3; obtain ⟨b3, f3⟩ := B3.rules; refine bodyPost_ret (v := (r).val) (by simp [results, Tryz.results90, go_sem, b3, PL.val, PL.k, PL.n, PL.x, PL.xs, PL.ag, PL.A, PL.m, PL.cap]) rfl ?_; exact RP.put (r := r) hr (hn.trans (Kf HL.out (by decide)).symm) (G.trans hg5) HGE.out
   ·have HM := Lib.hid (show m = 2 by have := Hm.out; unfold zo at this; simp at this; omega); clear Hm; have h0m : 0 < m := by have := HM.out; omega
    have h0i : (0 : Int) < (m : Int) := by omega
    obtain ⟨ga, oa, hA, K0⟩ := Hkc.out 0 (by have := HM.out; omega); subst hA; simp only [Nat.zero_mul, Nat.add_zero] at K0; have K0 := Lib.hid K0; have h1m : 1 < m := by have := HM.out; omega
    have h1i : (1 : Int) < (m : Int) := by omega
    obtain ⟨ga', oa', hA, K1⟩ := Hkc.out 1 (by have := HM.out; omega); cases hA; simp only [Nat.one_mul] at K1; have K1 := Lib.hid K1; clear CF; go_wp2; apply wp_region_calm 18 (by kernel_rfl) (by kernel_rfl)
    case h' =>
     intro Q0 hQ0; simp only [List.take_succ_cons, List.take_zero]
     repeat ((first | ((first | apply calm_p rfl | apply zg rfl rfl rfl); case h1 => (intro w1 hw1 hF K hK; obtain ⟨bx, fx⟩ := (BX.out.grow hw1).rules; obtain ⟨bp, fp⟩ := (BP.out.grow hw1).rules; obtain ⟨k0, k1, k2, k3, k4, k5, k6, k7, k8, k9, k10⟩ := K0.out.grow (G.trans hw1); obtain ⟨j0, j1, j2, j3, j4, j5, j6, j7, j8, j9, j10⟩ := K1.out.grow (G.trans hw1); go_simp; first | exact hK _ (za.refl _))) | apply ze rfl rfl rfl rfl); intro K hK; go_simp; apply hK; clear hK K)
     apply calm_fp (VP (yg S w.heap.size gx) (zn (zh ts) (nP (kid 0)) (nE x))) rfl
     case h1 =>
      intro w1 hw1 hF K hK; obtain ⟨bx, fx⟩ := (BX.out.grow hw1).rules; obtain ⟨bp, fp⟩ := (BP.out.grow hw1).rules; obtain ⟨k0, k1, k2, k3, k4, k5, k6, k7, k8, k9, k10⟩ := K0.out.grow (G.trans hw1); obtain ⟨j0, j1, j2, j3, j4, j5, j6, j7, j8, j9, j10⟩ := K1.out.grow (G.trans hw1); go_simp
      go_at_call 90
      refine (CP.out 0 (by have := HM.out; omega) w1 hw1).mono ?_; rintro en w' ⟨r, rfl, hr, hn, hg'⟩; exact ⟨_, rfl, hK _ _ hg' ⟨r, rfl, hr, hn⟩⟩
     intro v60 K hK; go_simp; apply hK; clear hK K
     repeat ((first | ((first | apply calm_p rfl | apply zg rfl rfl rfl); case h1 => (intro w1 hw1 hF K hK; obtain ⟨bx, fx⟩ := (BX.out.grow hw1).rules; obtain ⟨bp, fp⟩ := (BP.out.grow hw1).rules; obtain ⟨k0, k1, k2, k3, k4, k5, k6, k7, k8, k9, k10⟩ := K0.out.grow (G.trans hw1); obtain ⟨j0, j1, j2, j3, j4, j5, j6, j7, j8, j9, j10⟩ := K1.out.grow (G.trans hw1); go_simp; first | exact hK _ (za.refl _))) | apply ze rfl rfl rfl rfl); intro K hK; go_simp; apply hK; clear hK K)
     apply calm_fp (VP (yg S w.heap.size gx) (zn (zh ts) (nP (kid 1)) (nE x))) rfl
     case h1 =>
      intro w1 hw1 hF K hK; obtain ⟨bx, fx⟩ := (BX.out.grow hw1).rules; obtain ⟨bp, fp⟩ := (BP.out.grow hw1).rules; obtain ⟨k0, k1, k2, k3, k4, k5, k6, k7, k8, k9, k10⟩ := K0.out.grow (G.trans hw1); obtain ⟨j0, j1, j2, j3, j4, j5, j6, j7, j8, j9, j10⟩ := K1.out.grow (G.trans hw1); go_simp
      go_at_call 90
      refine (CP.out 1 (by have := HM.out; omega) w1 hw1).mono ?_; rintro en w' ⟨r, rfl, hr, hn, hg'⟩; exact ⟨_, rfl, hK _ _ hg' ⟨r, rfl, hr, hn⟩⟩
     intro v67 K hK; go_simp; apply hK; clear hK K; apply calm_fp (Ta (yg S w.heap.size gx) (zn (zh ts) (nP (kid 0)) (nE x)) (zn (zh ts) (nP (kid 1)) (nE x))) rfl
     case h1 =>
      intro w1 hw1 hF K hK; obtain ⟨r', hv', hr', hn'⟩ := hF _ (List.mem_cons_self ..) ⟨_, rfl, by decide⟩; obtain ⟨r, hv, hr, hn⟩ := hF _ (List.mem_cons_of_mem _ (List.mem_cons_self ..)) ⟨_, rfl, by decide⟩; subst hv hv'; go_simp; exact hK _ _ ((za.refl _).al _) ⟨w1.heap.size, r, r', rfl, (.inr ⟨by have := HGE.out; have := SZ.out; have := hw1.size; omega, by have := SZ.out; have := hw1.size; omega, by have := SZ.out; have := hw1.size; omega, by have := SZ.out; have := hw1.size; omega⟩), zb.new _ _ _, hr.grow ((za.refl _).al _), hr'.grow ((za.refl _).al _), hn, hn'⟩
     intro v68 K hK; go_simp; apply hK; clear hK K; apply calm_fp (VP (yg S w.heap.size gx) (zn (zh ts) (nP (.mk 8 n y xs ag (some ⟨ga, oa, none⟩) m cap kid)) (nE x))) rfl
     case h1 =>
      intro w1 hw1 hF K hK; obtain ⟨g2, r, r', hv, hT, hB, hr, hr', hn, hn'⟩ := hF _ (List.mem_cons_self ..) ⟨_, rfl, by decide⟩; subst hv; go_simp
      go_at_call 91
      refine (Yd 8 (some ⟨g2, 0, none⟩) 2 2 (fun i => if i = 0 then r else r') w1).mono ?_; rintro en w' ⟨rfl, hg'⟩; refine ⟨_, rfl, hK _ _ hg' ⟨qh 8 0 .leaf ZG Y8 g2 2 r r', rfl, YP 2 (hB.grow hg') hT (Yf ⟨by decide, by decide⟩) (hr.grow hg') (hr'.grow hg'), ?_⟩⟩; rw [Q4, hn, hn', Dk HL.out HM.out (by decide)]; rfl
     intro v69 K hK; go_simp; apply hK; clear hK K; refine calm_nil ?_; intro w1 hw1 hF; apply hQ0; clear hQ0; simp only [List.drop_succ_cons, List.drop_zero]; obtain ⟨r, hv, hr, hn⟩ := hF _ (List.mem_cons_self ..); subst hv; clear hF; obtain ⟨br, fr⟩ := (BR.out.grow hw1).rules; have lr := (BR.out.grow hw1).lt; clear bx fx bp fp; go_wp2; have B3 := zq (r) (BR.out.grow hw1); simp only [st11, PL.k, PL.n, PL.x, PL.xs, PL.ag, PL.A, PL.m, PL.cap] at B3; obtain ⟨b3, f3⟩ := B3.rules; refine bodyPost_ret (v := (r).val) (by simp [results, Tryz.results90, go_sem, b3, PL.val, PL.k, PL.n, PL.x, PL.xs, PL.ag, PL.A, PL.m, PL.cap]) rfl ?_; exact RP.put (r := r) hr hn (G.trans hw1) HGE.out
    case hp' => exact ⟨VP.pers _ _, VP.pers _ _, Ta.pers _ _ _, VP.pers _ _, trivial⟩
   ·have HM := Lib.hid (show m = 2 by have := Hm.out; unfold zo at this; simp at this; omega); clear Hm; have h0m : 0 < m := by have := HM.out; omega
    have h0i : (0 : Int) < (m : Int) := by omega
    obtain ⟨ga, oa, hA, K0⟩ := Hkc.out 0 (by have := HM.out; omega); subst hA; simp only [Nat.zero_mul, Nat.add_zero] at K0; have K0 := Lib.hid K0; have h1m : 1 < m := by have := HM.out; omega
    have h1i : (1 : Int) < (m : Int) := by omega
    obtain ⟨ga', oa', hA, K1⟩ := Hkc.out 1 (by have := HM.out; omega); cases hA; simp only [Nat.one_mul] at K1; have K1 := Lib.hid K1; clear CF; go_wp2; apply wp_region_calm 18 (by kernel_rfl) (by kernel_rfl)
    case h' =>
     intro Q0 hQ0; simp only [List.take_succ_cons, List.take_zero]
     repeat ((first | ((first | apply calm_p rfl | apply zg rfl rfl rfl); case h1 => (intro w1 hw1 hF K hK; obtain ⟨bx, fx⟩ := (BX.out.grow hw1).rules; obtain ⟨bp, fp⟩ := (BP.out.grow hw1).rules; obtain ⟨k0, k1, k2, k3, k4, k5, k6, k7, k8, k9, k10⟩ := K0.out.grow (G.trans hw1); obtain ⟨j0, j1, j2, j3, j4, j5, j6, j7, j8, j9, j10⟩ := K1.out.grow (G.trans hw1); go_simp; first | exact hK _ (za.refl _))) | apply ze rfl rfl rfl rfl); intro K hK; go_simp; apply hK; clear hK K)
     apply calm_fp (VP (yg S w.heap.size gx) (zn (zh ts) (nP (kid 0)) (nE x))) rfl
     case h1 =>
      intro w1 hw1 hF K hK; obtain ⟨bx, fx⟩ := (BX.out.grow hw1).rules; obtain ⟨bp, fp⟩ := (BP.out.grow hw1).rules; obtain ⟨k0, k1, k2, k3, k4, k5, k6, k7, k8, k9, k10⟩ := K0.out.grow (G.trans hw1); obtain ⟨j0, j1, j2, j3, j4, j5, j6, j7, j8, j9, j10⟩ := K1.out.grow (G.trans hw1); go_simp
      go_at_call 90
      refine (CP.out 0 (by have := HM.out; omega) w1 hw1).mono ?_; rintro en w' ⟨r, rfl, hr, hn, hg'⟩; exact ⟨_, rfl, hK _ _ hg' ⟨r, rfl, hr, hn⟩⟩
     intro v60 K hK; go_simp; apply hK; clear hK K
     repeat ((first | ((first | apply calm_p rfl | apply zg rfl rfl rfl); case h1 => (intro w1 hw1 hF K hK; obtain ⟨bx, fx⟩ := (BX.out.grow hw1).rules; obtain ⟨bp, fp⟩ := (BP.out.grow hw1).rules; obtain ⟨k0, k1, k2, k3, k4, k5, k6, k7, k8, k9, k10⟩ := K0.out.grow (G.trans hw1); obtain ⟨j0, j1, j2, j3, j4, j5, j6, j7, j8, j9, j10⟩ := K1.out.grow (G.trans hw1); go_simp; first | exact hK _ (za.refl _))) | apply ze rfl rfl rfl rfl); intro K hK; go_simp; apply hK; clear hK K)
     apply calm_fp (VP (yg S w.heap.size gx) (zn (zh ts) (nP (kid 1)) (nE x))) rfl
     case h1 =>
      intro w1 hw1 hF K hK; obtain ⟨bx, fx⟩ := (BX.out.grow hw1).rules; obtain ⟨bp, fp⟩ := (BP.out.grow hw1).rules; obtain ⟨k0, k1, k2, k3, k4, k5, k6, k7, k8, k9, k10⟩ := K0.out.grow (G.trans hw1); obtain ⟨j0, j1, j2, j3, j4, j5, j6, j7, j8, j9, j10⟩ := K1.out.grow (G.trans hw1); go_simp
      go_at_call 90
      refine (CP.out 1 (by have := HM.out; omega) w1 hw1).mono ?_; rintro en w' ⟨r, rfl, hr, hn, hg'⟩; exact ⟨_, rfl, hK _ _ hg' ⟨r, rfl, hr, hn⟩⟩
     intro v67 K hK; go_simp; apply hK; clear hK K; apply calm_fp (Ta (yg S w.heap.size gx) (zn (zh ts) (nP (kid 0)) (nE x)) (zn (zh ts) (nP (kid 1)) (nE x))) rfl
     case h1 =>
      intro w1 hw1 hF K hK; obtain ⟨r', hv', hr', hn'⟩ := hF _ (List.mem_cons_self ..) ⟨_, rfl, by decide⟩; obtain ⟨r, hv, hr, hn⟩ := hF _ (List.mem_cons_of_mem _ (List.mem_cons_self ..)) ⟨_, rfl, by decide⟩; subst hv hv'; go_simp; exact hK _ _ ((za.refl _).al _) ⟨w1.heap.size, r, r', rfl, (.inr ⟨by have := HGE.out; have := SZ.out; have := hw1.size; omega, by have := SZ.out; have := hw1.size; omega, by have := SZ.out; have := hw1.size; omega, by have := SZ.out; have := hw1.size; omega⟩), zb.new _ _ _, hr.grow ((za.refl _).al _), hr'.grow ((za.refl _).al _), hn, hn'⟩
     intro v68 K hK; go_simp; apply hK; clear hK K; apply calm_fp (VP (yg S w.heap.size gx) (zn (zh ts) (nP (.mk 9 n y xs ag (some ⟨ga, oa, none⟩) m cap kid)) (nE x))) rfl
     case h1 =>
      intro w1 hw1 hF K hK; obtain ⟨g2, r, r', hv, hT, hB, hr, hr', hn, hn'⟩ := hF _ (List.mem_cons_self ..) ⟨_, rfl, by decide⟩; subst hv; go_simp
      go_at_call 91
      refine (Yd 9 (some ⟨g2, 0, none⟩) 2 2 (fun i => if i = 0 then r else r') w1).mono ?_; rintro en w' ⟨rfl, hg'⟩; refine ⟨_, rfl, hK _ _ hg' ⟨qh 9 0 .leaf ZG Y8 g2 2 r r', rfl, YP 2 (hB.grow hg') hT (Yf ⟨by decide, by decide⟩) (hr.grow hg') (hr'.grow hg'), ?_⟩⟩; rw [Q4, hn, hn', Dk HL.out HM.out (by decide)]; rfl
     intro v69 K hK; go_simp; apply hK; clear hK K; refine calm_nil ?_; intro w1 hw1 hF; apply hQ0; clear hQ0; simp only [List.drop_succ_cons, List.drop_zero]; obtain ⟨r, hv, hr, hn⟩ := hF _ (List.mem_cons_self ..); subst hv; clear hF; obtain ⟨br, fr⟩ := (BR.out.grow hw1).rules; have lr := (BR.out.grow hw1).lt; clear bx fx bp fp; go_wp2; have B3 := zq (r) (BR.out.grow hw1); simp only [st11, PL.k, PL.n, PL.x, PL.xs, PL.ag, PL.A, PL.m, PL.cap] at B3; obtain ⟨b3, f3⟩ := B3.rules; refine bodyPost_ret (v := (r).val) (by simp [results, Tryz.results90, go_sem, b3, PL.val, PL.k, PL.n, PL.x, PL.xs, PL.ag, PL.A, PL.m, PL.cap]) rfl ?_; exact RP.put (r := r) hr hn (G.trans hw1) HGE.out
    case hp' => exact ⟨VP.pers _ _, VP.pers _ _, Ta.pers _ _ _, VP.pers _ _, trivial⟩
   ·have HM := Lib.hid (show m = 1 by have := Hm.out; unfold zo at this; simp at this; omega); clear Hm; have h0m : 0 < m := by have := HM.out; omega
    have h0i : (0 : Int) < (m : Int) := by omega
    obtain ⟨ga, oa, hA, K0⟩ := Hkc.out 0 (by have := HM.out; omega); subst hA; simp only [Nat.zero_mul, Nat.add_zero] at K0; have K0 := Lib.hid K0; clear CF; go_wp2; apply wp_region_calm 11 (by kernel_rfl) (by kernel_rfl)
    case h' =>
     intro Q0 hQ0; simp only [List.take_succ_cons, List.take_zero]
     repeat ((first | ((first | apply calm_p rfl | apply zg rfl rfl rfl); case h1 => (intro w1 hw1 hF K hK; obtain ⟨bx, fx⟩ := (BX.out.grow hw1).rules; obtain ⟨bp, fp⟩ := (BP.out.grow hw1).rules; obtain ⟨k0, k1, k2, k3, k4, k5, k6, k7, k8, k9, k10⟩ := K0.out.grow (G.trans hw1); go_simp; first | exact hK _ (za.refl _))) | apply ze rfl rfl rfl rfl); intro K hK; go_simp; apply hK; clear hK K)
     apply calm_fp (VP (yg S w.heap.size gx) (zn (zh ts) (nP (kid 0)) (nE x))) rfl
     case h1 =>
      intro w1 hw1 hF K hK; obtain ⟨bx, fx⟩ := (BX.out.grow hw1).rules; obtain ⟨bp, fp⟩ := (BP.out.grow hw1).rules; obtain ⟨k0, k1, k2, k3, k4, k5, k6, k7, k8, k9, k10⟩ := K0.out.grow (G.trans hw1); go_simp
      go_at_call 90
      refine (CP.out 0 (by have := HM.out; omega) w1 hw1).mono ?_; rintro en w' ⟨r, rfl, hr, hn, hg'⟩; exact ⟨_, rfl, hK _ _ hg' ⟨r, rfl, hr, hn⟩⟩
     intro v81 K hK; go_simp; apply hK; clear hK K; apply calm_fp (Hj (yg S w.heap.size gx) (zn (zh ts) (nP (kid 0)) (nE x))) rfl
     case h1 =>
      intro w1 hw1 hF K hK; obtain ⟨r, hv, hr, hn⟩ := hF _ (List.mem_cons_self ..) ⟨_, rfl, by decide⟩; subst hv; go_simp; exact hK _ _ ((za.refl _).al _) ⟨w1.heap.size, r, rfl, (.inr ⟨by have := HGE.out; have := SZ.out; have := hw1.size; omega, by have := SZ.out; have := hw1.size; omega, by have := SZ.out; have := hw1.size; omega, by have := SZ.out; have := hw1.size; omega⟩), zb.new _ _ _, hr.grow ((za.refl _).al _), hn⟩
     intro v82 K hK; go_simp; apply hK; clear hK K; apply calm_fp (VP (yg S w.heap.size gx) (zn (zh ts) (nP (.mk 10 n y xs ag (some ⟨ga, oa, none⟩) m cap kid)) (nE x))) rfl
     case h1 =>
      intro w1 hw1 hF K hK; obtain ⟨g2, r, hv, hT, hB, hr, hn⟩ := hF _ (List.mem_cons_self ..) ⟨_, rfl, by decide⟩; subst hv; go_simp
      go_at_call 91
      refine (Yd 10 (some ⟨g2, 0, none⟩) 1 1 (fun _ => r) w1).mono ?_; rintro en w' ⟨rfl, hg'⟩; refine ⟨_, rfl, hK _ _ hg' ⟨KW 10 0 .leaf ZG Y8 g2 1 r, rfl, Je 1 (hB.grow hg') hT (Yf ⟨by decide, by decide⟩) (hr.grow hg'), ?_⟩⟩; rw [Su, hn, TI HL.out HM.out (by decide)]; rfl
     intro v83 K hK; go_simp; apply hK; clear hK K; refine calm_nil ?_; intro w1 hw1 hF; apply hQ0; clear hQ0; simp only [List.drop_succ_cons, List.drop_zero]; obtain ⟨r, hv, hr, hn⟩ := hF _ (List.mem_cons_self ..); subst hv; clear hF; obtain ⟨br, fr⟩ := (BR.out.grow hw1).rules; have lr := (BR.out.grow hw1).lt; clear bx fx bp fp; go_wp2; have B3 := zq (r) (BR.out.grow hw1); simp only [st11, PL.k, PL.n, PL.x, PL.xs, PL.ag, PL.A, PL.m, PL.cap] at B3; obtain ⟨b3, f3⟩ := B3.rules; refine bodyPost_ret (v := (r).val) (by simp [results, Tryz.results90, go_sem, b3, PL.val, PL.k, PL.n, PL.x, PL.xs, PL.ag, PL.A, PL.m, PL.cap]) rfl ?_; exact RP.put (r := r) hr hn (G.trans hw1) HGE.out
    case hp' => exact ⟨VP.pers _ _, Hj.pers _ _, VP.pers _ _, trivial⟩
   ·have HM := Lib.hid (show m = 1 by have := Hm.out; unfold zo at this; simp at this; omega); clear Hm; have h0m : 0 < m := by have := HM.out; omega
    have h0i : (0 : Int) < (m : Int) := by omega
    obtain ⟨ga, oa, hA, K0⟩ := Hkc.out 0 (by have := HM.out; omega); subst hA; simp only [Nat.zero_mul, Nat.add_zero] at K0; have K0 := Lib.hid K0; clear CF; go_wp2; apply wp_region_calm 11 (by kernel_rfl) (by kernel_rfl)
    case h' =>
     intro Q0 hQ0; simp only [List.take_succ_cons, List.take_zero]
     repeat ((first | ((first | apply calm_p rfl | apply zg rfl rfl rfl); case h1 => (intro w1 hw1 hF K hK; obtain ⟨bx, fx⟩ := (BX.out.grow hw1).rules; obtain ⟨bp, fp⟩ := (BP.out.grow hw1).rules; obtain ⟨k0, k1, k2, k3, k4, k5, k6, k7, k8, k9, k10⟩ := K0.out.grow (G.trans hw1); go_simp; first | exact hK _ (za.refl _))) | apply ze rfl rfl rfl rfl); intro K hK; go_simp; apply hK; clear hK K)
     apply calm_fp (VP (yg S w.heap.size gx) (zn (zh ts) (nP (kid 0)) (nE x))) rfl
     case h1 =>
      intro w1 hw1 hF K hK; obtain ⟨bx, fx⟩ := (BX.out.grow hw1).rules; obtain ⟨bp, fp⟩ := (BP.out.grow hw1).rules; obtain ⟨k0, k1, k2, k3, k4, k5, k6, k7, k8, k9, k10⟩ := K0.out.grow (G.trans hw1); go_simp
      go_at_call 90
      refine (CP.out 0 (by have := HM.out; omega) w1 hw1).mono ?_; rintro en w' ⟨r, rfl, hr, hn, hg'⟩; exact ⟨_, rfl, hK _ _ hg' ⟨r, rfl, hr, hn⟩⟩
     intro v81 K hK; go_simp; apply hK; clear hK K; apply calm_fp (Hj (yg S w.heap.size gx) (zn (zh ts) (nP (kid 0)) (nE x))) rfl
     case h1 =>
      intro w1 hw1 hF K hK; obtain ⟨r, hv, hr, hn⟩ := hF _ (List.mem_cons_self ..) ⟨_, rfl, by decide⟩; subst hv; go_simp; exact hK _ _ ((za.refl _).al _) ⟨w1.heap.size, r, rfl, (.inr ⟨by have := HGE.out; have := SZ.out; have := hw1.size; omega, by have := SZ.out; have := hw1.size; omega, by have := SZ.out; have := hw1.size; omega, by have := SZ.out; have := hw1.size; omega⟩), zb.new _ _ _, hr.grow ((za.refl _).al _), hn⟩
     intro v82 K hK; go_simp; apply hK; clear hK K; apply calm_fp (VP (yg S w.heap.size gx) (zn (zh ts) (nP (.mk 11 n y xs ag (some ⟨ga, oa, none⟩) m cap kid)) (nE x))) rfl
     case h1 =>
      intro w1 hw1 hF K hK; obtain ⟨g2, r, hv, hT, hB, hr, hn⟩ := hF _ (List.mem_cons_self ..) ⟨_, rfl, by decide⟩; subst hv; go_simp
      go_at_call 91
      refine (Yd 11 (some ⟨g2, 0, none⟩) 1 1 (fun _ => r) w1).mono ?_; rintro en w' ⟨rfl, hg'⟩; refine ⟨_, rfl, hK _ _ hg' ⟨KW 11 0 .leaf ZG Y8 g2 1 r, rfl, Je 1 (hB.grow hg') hT (Yf ⟨by decide, by decide⟩) (hr.grow hg'), ?_⟩⟩; rw [Su, hn, TI HL.out HM.out (by decide)]; rfl
     intro v83 K hK; go_simp; apply hK; clear hK K; refine calm_nil ?_; intro w1 hw1 hF; apply hQ0; clear hQ0; simp only [List.drop_succ_cons, List.drop_zero]; obtain ⟨r, hv, hr, hn⟩ := hF _ (List.mem_cons_self ..); subst hv; clear hF; obtain ⟨br, fr⟩ := (BR.out.grow hw1).rules; have lr := (BR.out.grow hw1).lt; clear bx fx bp fp; go_wp2; have B3 := zq (r) (BR.out.grow hw1); simp only [st11, PL.k, PL.n, PL.x, PL.xs, PL.ag, PL.A, PL.m, PL.cap] at B3; obtain ⟨b3, f3⟩ := B3.rules; refine bodyPost_ret (v := (r).val) (by simp [results, Tryz.results90, go_sem, b3, PL.val, PL.k, PL.n, PL.x, PL.xs, PL.ag, PL.A, PL.m, PL.cap]) rfl ?_; exact RP.put (r := r) hr hn (G.trans hw1) HGE.out
    case hp' => exact ⟨VP.pers _ _, Hj.pers _ _, VP.pers _ _, trivial⟩
   ·have HM := Lib.hid (show m = 1 by have := Hm.out; unfold zo at this; simp at this; omega); clear Hm; clear CP
    go_wp2_with (go_at_call 130; ((with_reducible refine (CF.out _ (za.refl _)).mono ?_); rintro en w5 ⟨r, rfl, hr, hn, hg5⟩; obtain ⟨br, fr⟩ := (BR.out.grow hg5).rules; have lr := (BR.out.grow hg5).lt))
    have B3 := zq (r) (BR.out.grow hg5); simp only [st11, PL.k, PL.n, PL.x, PL.xs, PL.ag, PL.A, PL.m, PL.cap] at B3; obtain ⟨b3, f3⟩ := B3.rules; refine bodyPost_ret (v := (r).val) (by simp [results, Tryz.results90, go_sem, b3, PL.val, PL.k, PL.n, PL.x, PL.xs, PL.ag, PL.A, PL.m, PL.cap]) rfl ?_; exact RP.put (r := r) hr (hn.trans (Kf HL.out (by decide)).symm) (G.trans hg5) HGE.out
   ·have HM := Lib.hid (show m = 1 by have := Hm.out; unfold zo at this; simp at this; omega); clear Hm; clear CP
    go_wp2_with (go_at_call 130; ((with_reducible refine (CF.out _ (za.refl _)).mono ?_); rintro en w5 ⟨r, rfl, hr, hn, hg5⟩; obtain ⟨br, fr⟩ := (BR.out.grow hg5).rules; have lr := (BR.out.grow hg5).lt))
    have B3 := zq (r) (BR.out.grow hg5); simp only [st11, PL.k, PL.n, PL.x, PL.xs, PL.ag, PL.A, PL.m, PL.cap] at B3; obtain ⟨b3, f3⟩ := B3.rules; refine bodyPost_ret (v := (r).val) (by simp [results, Tryz.results90, go_sem, b3, PL.val, PL.k, PL.n, PL.x, PL.xs, PL.ag, PL.A, PL.m, PL.cap]) rfl ?_; exact RP.put (r := r) hr (hn.trans (Kf HL.out (by decide)).symm) (G.trans hg5) HGE.out
  ·obtain ⟨br, fr⟩ := BR.out.rules; have lr := BR.out.lt; go_wp2; have B3 := zq ((PL.mk k n y xs ag A m cap kid)) (BR.out); simp only [st11, PL.k, PL.n, PL.x, PL.xs, PL.ag, PL.A, PL.m, PL.cap] at B3; obtain ⟨b3, f3⟩ := B3.rules; refine bodyPost_ret (v := ((PL.mk k n y xs ag A m cap kid)).val) (by simp [results, Tryz.results90, go_sem, b3, PL.val, PL.k, PL.n, PL.x, PL.xs, PL.ag, PL.A, PL.m, PL.cap]) rfl ?_; exact RP.put (r := (PL.mk k n y xs ag A m cap kid)) P0.out (Dn hlit).symm G HGE.out
end Go.Proofs.YtcaedcpjdmlilaaGreat

