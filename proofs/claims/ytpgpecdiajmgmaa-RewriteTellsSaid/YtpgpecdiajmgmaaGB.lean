/-
  Joined texts of this claim: Vals, Vals2, Vals3, Sl, Rows1, Ord, Read. What each proves its own head says; no condition beside those that each theorem names.
-/
import Derived.Test.YtpgpecdiajmgmaaProg
import Derived.Test.YtpgpecdiajmgmaaGA
import Derived.WalkKit
import Derived.WalkSpells
import Derived.WalkLawsBesides
import Derived.Lib.Bytealg
import Derived.Handy
import Derived.BigGuardPart
import Derived.Lib.Hide
import Derived.Test.YtpgpecdiajmgmaaRows
import Derived.ProofKit
import Derived.OpenShut
namespace Go.Proofs.Ytpgpecdiajmgmaa
open Go.RowKit Go.Calm

structure V where
  k : Int
  n : Int
  s : ByteArray
@[go_sem] abbrev V.val (v : V) : Value := .agg #[.int .i64 v.k, .int .i64 v.n, .string v.s]
abbrev es : ByteArray := ⟨#[]⟩
def bare (v : V) : V := if v.k = 1 then ⟨1, 0, es⟩ else if v.k = 4 then ⟨4, 0, v.s⟩ else ⟨v.k, v.n, es⟩

def cmpI (x y : Int) : Int := if x < y then -1 else if y < x then 1 else 0
def or3 (x y z : Int) : Int := if x ≠ 0 then x else if y ≠ 0 then y else z
def cmpV (a b : V) : Int := or3 (cmpI (bare a).k (bare b).k) (cmpI (bare a).n (bare b).n) (cmpS (bare a).s (bare b).s)
end Go.Proofs.Ytpgpecdiajmgmaa

namespace Go.Proofs.Ytpgpecdiajmgmaa
open Go.RowKit Go.Calm

def truth (b : Bool) : V := ⟨2, if b then 1 else 0, es⟩
def intV (n : Int) : V := if -1000000000000000 ≤ n ∧ n ≤ 1000000000000000 then ⟨3, n, es⟩ else ⟨1, 0, es⟩
def rankV (v : V) : Int := if v.k = 2 then 2 * v.n else 1
def RB (v : V) : Prop := v.k = 2 → 0 ≤ v.n ∧ v.n ≤ 1
def rankedV (n : Int) : V := if n = 1 then ⟨1, 0, es⟩ else truth (n == 2)
def alikeB (a b : V) : Bool := decide (a.k = b.k ∧ a.k ≠ 1)
def minI (x y : Int) : Int := if y < x then y else x
def maxI (x y : Int) : Int := if x < y then y else x
def andV (a b : V) : V := rankedV (minI (rankV a) (rankV b))
def orV (a b : V) : V := rankedV (maxI (rankV a) (rankV b))
def notV (a : V) : V := rankedV (2 - rankV a)

end Go.Proofs.Ytpgpecdiajmgmaa

namespace Go.Proofs.Ytpgpecdiajmgmaa
open Go.RowKit Go.Calm
set_option linter.unusedSimpArgs false
set_option linter.unusedVariables false

theorem ret_int {k : IntKind} {a b : Int} {P : Prop} (h : a = b) (p : P) : Ending.returned (.int k a) = .returned (.int k b) ∧ P := ⟨by rw [h], p⟩
theorem ret_bool {a b : Bool} {P : Prop} (h : a = b) (p : P) : Ending.returned (.bool a) = .returned (.bool b) ∧ P := ⟨by rw [h], p⟩

def wrongV (v : V) : Int :=
  if v.k = 1 then 0
  else if v.k = 2 then (if v.n = 0 ∨ v.n = 1 then 0 else 3)
  else if v.k = 3 then (if -1000000000000000 ≤ v.n ∧ v.n ≤ 1000000000000000 then 0 else 3)
  else if v.k = 4 then (if v.s.size ≤ 60 then 0 else 4)
  else 1

theorem wrong_any (v : V) (w : World) : Calls Try.prog 107 #[v.val] w fun e w' => e = .returned (.int .i64 (wrongV v)) ∧ Grow w w' := by
  unfold V.val
  go_enter Try.func107, Try.ntmps107
  go_wp2
  all_goals
    go_ret
    refine ret_int ?_ (by repeat (first | (with_reducible exact Grow.refl _) | (with_reducible assumption) | (with_reducible refine Grow.set ?_ (by first | (simp; done) | (simp; omega)) _) | (with_reducible refine Grow.al ?_ _) | (with_reducible refine Grow.drew ?_) | (with_reducible refine Grow.drewN ?_ _) | (with_reducible refine Grow.trans ?_ (by assumption))))
    (try simp only [beq_iff_eq, beq_eq_false_iff_ne, bne_iff_ne, ne_eq, bne_eq_false_iff_eq, Bool.not_eq_true', Bool.not_eq_false', decide_eq_true_eq, decide_eq_false_iff_not] at *)
    unfold wrongV
    repeat' split
    all_goals first | rfl | omega
theorem rwrong_any (v : V) (w : World) : Calls Try.prog 149 #[v.val] w fun e w' => e = .returned (.int .i64 (wrongV v)) ∧ Grow w w' := by
  unfold V.val
  go_enter Try.func149, Try.ntmps149
  go_wp2
  all_goals
    go_ret
    refine ret_int ?_ (by repeat (first | (with_reducible exact Grow.refl _) | (with_reducible assumption) | (with_reducible refine Grow.set ?_ (by first | (simp; done) | (simp; omega)) _) | (with_reducible refine Grow.al ?_ _) | (with_reducible refine Grow.drew ?_) | (with_reducible refine Grow.drewN ?_ _) | (with_reducible refine Grow.trans ?_ (by assumption))))
    unfold wrongV
    repeat' split
    all_goals first | rfl | omega

structure RV (v : V) : Prop where
  kind : v.k = 1 ∨ v.k = 2 ∨ v.k = 3 ∨ v.k = 4
  bool : v.k = 2 → v.n = 0 ∨ v.n = 1
  int : v.k = 3 → -1000000000000000 ≤ v.n ∧ v.n ≤ 1000000000000000
  text : v.k = 4 → v.s.size ≤ 60
theorem RV.of (v : V) : wrongV v = 0 ↔ RV v := by
  constructor
  · intro h
    unfold wrongV at h
    constructor
    · split at h
      · omega
      · split at h
        · omega
        · split at h
          · omega
          · split at h
            · omega
            · omega
    · intro hk
      simp only [hk] at h
      simp at h
      omega
    · intro hk
      simp only [hk] at h
      simp at h
      omega
    · intro hk
      simp only [hk] at h
      simp at h
      exact h
  · rintro ⟨h1, h2, h3, h4⟩
    unfold wrongV
    repeat' split
    all_goals first | rfl | omega
theorem RV.rb {v : V} (h : RV v) : RB v := fun hk => by have := h.bool hk; omega

def ordV (a b : V) : Int :=
  if a.k < b.k then -1 else if b.k < a.k then 1 else if a.k = 1 then 0
  else if a.k = 4 then cmpS a.s b.s
  else (if a.n < b.n then -1 else if b.n < a.n then 1 else 0)
def eqV (a b : V) : V := if alikeB a b then truth (cmpV a b == 0) else ⟨1, 0, es⟩
def lessV (a b : V) : V := if alikeB a b then truth (decide (cmpV a b < 0)) else ⟨1, 0, es⟩

end Go.Proofs.Ytpgpecdiajmgmaa

namespace Go.Proofs.Ytpgpecdiajmgmaa
open Go.RowKit Go.Calm
set_option linter.unusedSimpArgs false
set_option linter.unusedVariables false

def VCells (w : World) (g o : Nat) (v : V) : Prop := w.cell? ⟨g, o, none⟩ = some (.int .i64 v.k) ∧ w.cell? ⟨g, o + 1, none⟩ = some (.int .i64 v.n) ∧ w.cell? ⟨g, o + 2, none⟩ = some (.string v.s)
def VSl (w : World) (A : Option Addr) (xs : List V) : Prop := ∀ i x, xs[i]? = some x → ∃ g o, A = some ⟨g, o, none⟩ ∧ VCells w g (o + i * 3) x
theorem VCells.grow {w w' : World} {g o : Nat} {v : V} (h : VCells w g o v) (hg : Grow w w') : VCells w' g o v := ⟨hg.cell h.1, hg.cell h.2.1, hg.cell h.2.2⟩
theorem VSl.grow {w w' : World} {A : Option Addr} {xs : List V} (h : VSl w A xs) (hg : Grow w w') : VSl w' A xs := fun i x hx => by
  obtain ⟨g, o, hA, hc⟩ := h i x hx
  exact ⟨g, o, hA, hc.grow hg⟩
end Go.Proofs.Ytpgpecdiajmgmaa

namespace Go.Proofs.Ytpgpecdiajmgmaa
open Go.RowKit Go.Calm
set_option linter.unusedSimpArgs false
set_option linter.unusedVariables false

def rowsG (f : V → V → Int) : List V → List V → Int
  | [], [] => 0
  | [], _ :: _ => -1
  | _ :: _, [] => 1
  | a :: l, b :: m => if f a b = 0 then rowsG f l m else f a b

end Go.Proofs.Ytpgpecdiajmgmaa

namespace Go.Proofs.Ytpgpecdiajmgmaa
open Go.RowKit Go.Calm
set_option linter.unusedSimpArgs false
set_option linter.unusedVariables false

theorem bare_k (v : V) : (bare v).k = v.k := by
  unfold bare
  split
  · simp_all
  · split <;> simp_all
theorem cmp_ord (a b : V) (ha : RV a) (hb : RV b) : cmpV a b = ordV a b := by
  unfold cmpV ordV or3
  by_cases h1 : a.k < b.k
  · have := bare_k a
    have hb' := bare_k b
    simp [this, hb', cmpI, h1]
  · by_cases h2 : b.k < a.k
    · have := bare_k a
      have hb' := bare_k b
      simp [this, hb', cmpI, h1, h2]
    · have hk : a.k = b.k := by omega
      have hak := ha.kind
      by_cases h3 : b.k = 1
      · simp [bare, hk, h3, cmpI, cmpS_self]
      · by_cases h4 : b.k = 4
        · simp [bare, hk, h4, cmpI]
        · simp [bare, hk, h3, h4, cmpI, cmpS_self]
          intro h; exact h.symm
theorem ordV_swap (a b : V) : ordV b a = - ordV a b := by
  unfold ordV
  rcases Int.lt_trichotomy a.k b.k with h | h | h
  · rw [if_neg (by omega), if_pos h, if_pos h]; rfl
  · rw [h]
    simp only [Int.lt_irrefl, if_false]
    by_cases h1 : b.k = 1
    · simp [h1]
    · by_cases h4 : b.k = 4
      · simp [h4, cmpS_swap a.s b.s]
      · simp only [h1, h4, if_false]
        repeat' split
        all_goals omega
  · rw [if_pos h, if_neg (by omega), if_pos h]
theorem ordV_range (a b : V) : ordV a b = -1 ∨ ordV a b = 0 ∨ ordV a b = 1 := by
  unfold ordV
  have := cmpS_range a.s b.s
  repeat' split
  all_goals omega
theorem ordV_lt {a b : V} (h : a.k < b.k) : ordV a b = -1 := by unfold ordV; rw [if_pos h]
theorem ordV_gt {a b : V} (h : b.k < a.k) : ordV a b = 1 := by unfold ordV; rw [if_neg (by omega), if_pos h]
theorem ordV_same {a b : V} (h : a.k = b.k) : ordV a b = if a.k = 1 then 0 else if a.k = 4 then cmpS a.s b.s else if a.n < b.n then -1 else if b.n < a.n then 1 else 0 := by
  unfold ordV; rw [if_neg (by omega), if_neg (by omega)]
theorem ordV_trans (a b c : V) : ordV a b ≤ 0 → ordV b c ≤ 0 → ordV a c ≤ 0 := by
  intro h1 h2
  rcases Int.lt_trichotomy a.k b.k with h | h | h
  · rcases Int.lt_trichotomy b.k c.k with k | k | k
    · rw [ordV_lt (by omega)]; omega
    · rw [ordV_lt (by omega)]; omega
    · rw [ordV_gt k] at h2; omega
  · rcases Int.lt_trichotomy b.k c.k with k | k | k
    · rw [ordV_lt (by omega)]; omega
    · rw [ordV_same h] at h1
      rw [ordV_same k] at h2
      rw [ordV_same (h.trans k)]
      rw [h] at h1 ⊢
      by_cases e1 : b.k = 1
      · simp [e1]
      · by_cases e4 : b.k = 4
        · simp only [e4] at h1 h2 ⊢
          exact cmpS_trans a.s b.s c.s h1 h2
        · simp only [e1, e4, if_false] at h1 h2 ⊢
          repeat' split at h1
          all_goals repeat' split at h2
          all_goals repeat' split
          all_goals omega
    · rw [ordV_gt k] at h2; omega
  · rw [ordV_gt h] at h1; omega
theorem rowsG_swap (f : V → V → Int) (hf : ∀ a b, f b a = - f a b) : ∀ xs ys : List V, rowsG f ys xs = - rowsG f xs ys
  | [], [] => by simp [rowsG]
  | [], _ :: _ => by simp [rowsG]
  | _ :: _, [] => by simp [rowsG]
  | a :: l, b :: m => by
    have ih := rowsG_swap f hf l m
    have h := hf a b
    unfold rowsG
    rw [h]
    by_cases h0 : f a b = 0
    · simp [h0, ih]
    · rw [if_neg (by omega), if_neg h0]
theorem rows_cmp_ord : ∀ xs ys : List V, (∀ x ∈ xs, RV x) → (∀ y ∈ ys, RV y) → rowsG cmpV xs ys = rowsG ordV xs ys
  | [], [], _, _ => rfl
  | [], _ :: _, _, _ => rfl
  | _ :: _, [], _, _ => rfl
  | a :: l, b :: m, h, k => by
    unfold rowsG
    rw [cmp_ord a b (h a (by simp)) (k b (by simp)), rows_cmp_ord l m (fun x hx => h x (by simp [hx])) (fun y hy => k y (by simp [hy]))]
end Go.Proofs.Ytpgpecdiajmgmaa

namespace Go.Proofs.Ytpgpecdiajmgmaa
open Go.ChangeShapes Go.WideShapes Go.ChangeAt Go.RowKit Go.Calm
set_option maxRecDepth 100000
set_option linter.unusedVariables false
set_option linter.unusedSimpArgs false

section
variable {H : Type} {enc : TypeId × Value → H} {P : Program}

theorem trodAll_stays (hl : laidOutB P = true) {W W' : World} (hb : Below W.heap.size W W') {sp : Nat → Bool} : ∀ {ts : List TypeId} {vs : List Value} {ds : List (DataW H)} {ps : List MemPlace},
    (∀ t ∈ ts, P.readableRec t = true ∧ t < P.types.size) → DataW.TrodAll enc P W 0 (fun _ => true) true ts vs ds ps → (∀ p ∈ ps, p.block < W.heap.size) → (∀ p ∈ ps, sp p.block = true) → DataW.TrodAll enc P W' 0 sp true ts vs ds ps
  | [], [], [], _, _, h, _, _ => h
  | t :: ts, v :: vs, d :: ds, ps, hr, ⟨p, q, h1, h2, e⟩, hlt, hs => by
    subst e
    refine ⟨p, q, WideElems.Trod_stays hl (hr t (by simp)).1 (hr t (by simp)).2 h1 (fun x hx => hb.same (hlt x (List.mem_append_left _ hx))) (fun x hx => hs x (List.mem_append_left _ hx)), ?_, rfl⟩
    exact trodAll_stays hl hb (fun t' ht' => hr t' (List.mem_cons_of_mem _ ht')) h2 (fun x hx => hlt x (List.mem_append_right _ hx)) (fun x hx => hs x (List.mem_append_right _ hx))

theorem law_post {f : Func} {s : ChangeSpec} {W W' : World} {args : Array Value} {ds : List (DataW H)} {before : List MemPlace}
    (hvars : s.vars = []) (hfn : s.fn H (ds ++ []) = { results := [.lit (.bool true)], args := ds, vars := [] }) (tb : TypeId) (hres : f.resultTypes = #[tb]) (hbool : P.underlying tb = some .bool)
    (hl : laidOutB P = true) (hr : ∀ t ∈ f.params.toList, P.readableRec t = true ∧ t < P.types.size)
    (hW : DataW.Whole enc P f.params.toList s.vars false W args.toList ds [] before) (hg : Grow W W') :
    s.post enc P f false true false false W args (.bool true) W' := by
  have hW' := hW
  obtain ⟨p, q, hA, hV, rfl, hfz, hnd⟩ := hW
  have hq : q = [] := by
    rw [hvars] at hV
    exact hV
  subst hq
  have hlt : ∀ x ∈ p ++ [], x.block < W.heap.size := fun x hx => hW'.lt x hx
  have hlt' : ∀ x ∈ p, x.block < W.heap.size := fun x hx => hlt x (by simpa using hx)
  have hb := hg.below
  refine ⟨ds, [], p ++ [], [], p, [], hW', ?_, ?_, ?_, ?_, fun h => by cases h⟩
  · rw [hfn, hres]
    exact trodAll_cons_mk (shut_bool hbool _) trodAll_mk0
  · rw [hfn]
    exact trodAll_stays hl hb hr hA hlt' (fun x hx => by simpa using hlt' x hx)
  · rw [hvars, hfn]; exact rfl
  · exact World.keptBut_mono (fun x hx => ⟨hx, .inr (by simpa using hx)⟩) (hb.frame (· ∈ p ++ []))
end

section
variable {H : Type} {enc : TypeId × Value → H} {w : World} {base : Nat} {spare : Nat → Bool} {held : Bool}

def inI64 (n : Int) : Prop := -9223372036854775808 ≤ n ∧ n ≤ 9223372036854775807
theorem wf_i64 {n : Int} (h : (Lit.int .i64 n).wf = true) : inI64 n := by
  simpa [Lit.wf, IntKind.min, IntKind.max, IntKind.signed, IntKind.bits, inI64] using h
structure VB (v : V) : Prop where
  k : inI64 v.k
  n : inI64 v.n
  s : v.s.size ≤ maxLen

theorem val_cells {fuel : Nat} {cs : List Value} {x : DataW H × List MemPlace} (h : DataW.trod enc Try.prog w base spare held fuel 24 cs = some x) :
    ∃ v : V, cs = [.int .i64 v.k, .int .i64 v.n, .string v.s] ∧ VB v := by
  obtain ⟨xs, n, _, _, hlen, hxl, hf⟩ := DataW.trod_struct Try.underlying24 h
  have h3 : cs.length = 3 := by rw [hlen]; kernel_rfl
  match cs, h3 with
  | [a, b, c], _ =>
    have f0 := hf 0 _ rfl
    have f1 := hf 1 _ rfl
    have f2 := hf 2 _ rfl
    have g : ∀ i, i < 3 → ∃ y, xs[i]? = some y := fun i hi => ⟨xs[i]'(by rw [hxl]; exact hi), List.getElem?_eq_getElem _⟩
    obtain ⟨y0, e0⟩ := g 0 (by omega)
    obtain ⟨y1, e1⟩ := g 1 (by omega)
    obtain ⟨y2, e2⟩ := g 2 (by omega)
    rw [e0] at f0
    rw [e1] at f1
    rw [e2] at f2
    obtain ⟨k, hk, _, wk⟩ := DataW.trod_int Try.underlying3 f0
    obtain ⟨m, hm, _, wm⟩ := DataW.trod_int Try.underlying2 f1
    obtain ⟨s, hs, _, ws⟩ := DataW.trod_string Try.underlying9 f2
    have c0 : Try.prog.cellsOf 3 = 1 := by kernel_rfl
    have c1 : Try.prog.cellsOf 2 = 1 := by kernel_rfl
    have c2 : Try.prog.cellsOf 9 = 1 := by kernel_rfl
    simp [c0] at hk
    simp [c1] at hm
    simp [c2] at hs
    exact ⟨⟨k, m, s⟩, by simp [hk, hm, hs], ⟨wf_i64 wk, wf_i64 wm, ws⟩⟩

theorem spot_none {w : World} {a : Addr} {j : Nat} {v : Value} (h : w.cell? (a.add j) = some v) : a.spot = none ∨ j ≠ 0 := by
  by_cases hj : j = 0
  · subst hj
    left
    unfold Addr.add at h
    simp only [if_true] at h
    unfold World.cell? at h
    split at h
    · split at h
      · cases h
      · rename_i hs; simpa using hs
    · cases h
  · exact .inr hj

theorem add_flat {g o n : Nat} : (Addr.mk g o none).add n = ⟨g, o + n, none⟩ := by
  unfold Addr.add
  split
  · rename_i h; subst h; rfl
  · rfl

theorem slice_cells {t e : TypeId} {fuel c : Nat} {cs : List Value} {x : DataW H × List MemPlace} (ht : Try.prog.underlying t = some (.slice e)) (hc : Try.prog.cellsOf e = c) (hc0 : 0 < c) (h : DataW.trod enc Try.prog w base spare held fuel t cs = some x) :
    ∃ (A : Option Addr) (len cap n : Nat) (D : Nat → DataW H × List MemPlace), cs = [.slice A len cap] ∧ len ≤ maxLen ∧ len ≤ cap ∧ ∀ i, i < len → ∃ g o ys, A = some ⟨g, o, none⟩ ∧ ys.length = c ∧ (∀ j y, ys[j]? = some y → w.cell? ⟨g, o + i * c + j, none⟩ = some y) ∧ DataW.trod enc Try.prog w base spare held n e ys = some (D i) := by
  rcases DataW.trod_slice ht h with ⟨h0, _⟩ | ⟨a, len, cap, elems, rest, n, _, hcs, _, hb, hl, hm, hlen, hel, _, _⟩
  · exact ⟨none, 0, 0, 0, fun _ => (.nil, []), h0, Nat.zero_le _, Nat.le_refl _, fun i hi => by omega⟩
  · refine ⟨some a, len, cap, n, fun i => elems.getD i (.nil, []), hcs, by omega, hl, fun i hi => ?_⟩
    have get : ∀ i, i < len → ∃ ys, w.cells? base (a.add (i * c)) c = some ys ∧ DataW.trod enc Try.prog w base spare held n e ys = some (elems.getD i (.nil, [])) := fun i hi => by
      have h1 := hel i hi
      rw [hc] at h1
      have h2 : elems[i]? = some (elems.getD i (.nil, [])) := by simp [hlen, hi]
      rw [h2] at h1
      cases hcell : w.cells? base (a.add (i * c)) c with
      | none => rw [hcell] at h1; cases h1
      | some ys => rw [hcell] at h1; exact ⟨ys, rfl, h1⟩
    have hsp : a.spot = none := by
      obtain ⟨ys, hcell, _⟩ := get 0 (by omega)
      obtain ⟨_, hyl, hat⟩ := World.cells?_some hcell
      have h1 := hat 0 hc0
      have h2 : ys[0]? = some (ys[0]'(by omega)) := List.getElem?_eq_getElem _
      rw [h2, Nat.zero_mul] at h1
      have e : (a.add 0) = a := rfl
      rw [e] at h1
      rcases spot_none h1 with h3 | h3
      · exact h3
      · exact absurd rfl h3
    obtain ⟨g, o, sp⟩ := a
    simp only at hsp
    subst hsp
    obtain ⟨ys, hcell, hd⟩ := get i hi
    obtain ⟨_, hyl, hat⟩ := World.cells?_some hcell
    refine ⟨g, o, ys, rfl, hyl, fun j y hy => ?_, hd⟩
    have hj : j < c := by rw [← hyl]; exact (List.getElem?_eq_some_iff.1 hy).1
    have := hat j hj
    rw [hy, add_flat, add_flat] at this
    exact this

end
end Go.Proofs.Ytpgpecdiajmgmaa
