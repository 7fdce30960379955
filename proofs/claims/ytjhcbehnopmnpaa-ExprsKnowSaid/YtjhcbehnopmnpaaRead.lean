/-
  How a law's arguments are read out of memory, and how its row is closed: for every law of this seat.
-/
import Derived.Test.YtjhcbehnopmnpaaRows
import Derived.Test.YtjhcbehnopmnpaaSl
import Derived.ProofKit
import Derived.OpenShut
namespace Go.Proofs.Ytjhcbehnopmnpaa
open Go.ChangeShapes Go.WideShapes Go.ChangeAt Go.RowKit Go.Calm
set_option maxRecDepth 100000
set_option linter.unusedVariables false
set_option linter.unusedSimpArgs false

section
variable {H : Type} {enc : TypeId × Value → H} {P : Program}

theorem trodAll_stays (hl : laidOutB P = true) {W W' : World} (hb : Below W.heap.size W W') {sp : Nat → Bool} : ∀ {ts : List TypeId} {vs : List Value} {ds : List (DataW H)} {ps : List MemPlace},
    (∀ t ∈ ts, P.readableRec t = true ∧ t < P.types.size) → DataW.TrodAll enc P W 0 (fun _ => true) true ts vs ds ps → (∀ p ∈ ps, p.block < W.heap.size) → (∀ p ∈ ps, sp p.block = true) → DataW.TrodAll enc P W' 0 sp true ts vs ds ps
  | [], [], [], _, _, h, _, _ => h
  | t :: ts, v :: vs, d :: ds, ps, hr, ⟨p, q, h1, h2, e⟩, hlt, hs => by
    subst e
    refine ⟨p, q, WideElems.Trod_stays hl (hr t (by simp)).1 (hr t (by simp)).2 h1 (fun x hx => hb.same (hlt x (List.mem_append_left _ hx))) (fun x hx => hs x (List.mem_append_left _ hx)), ?_, rfl⟩
    exact trodAll_stays hl hb (fun t' ht' => hr t' (List.mem_cons_of_mem _ ht')) h2 (fun x hx => hlt x (List.mem_append_right _ hx)) (fun x hx => hs x (List.mem_append_right _ hx))

/-- What is left once the walk has said: true, and the world has grown. -/
theorem law_post {f : Func} {s : ChangeSpec} {W W' : World} {args : Array Value} {ds : List (DataW H)} {before : List MemPlace}
    (hvars : s.vars = []) (hfn : s.fn H (ds ++ []) = { results := [.lit (.bool true)], args := ds, vars := [] }) (tb : TypeId) (hres : f.resultTypes = #[tb]) (hbool : P.underlying tb = some .bool)
    (hl : laidOutB P = true) (hr : ∀ t ∈ f.params.toList, P.readableRec t = true ∧ t < P.types.size)
    (hW : DataW.Whole enc P f.params.toList s.vars false W args.toList ds [] before) (hg : Grow W W') :
    s.post enc P f false true false false W args (.bool true) W' := by
  have hW' := hW
  obtain ⟨p, q, hA, hV, rfl, hfz, hnd⟩ := hW
  have hq : q = [] := by
    rw [hvars] at hV
    exact hV
  subst hq
  have hlt : ∀ x ∈ p ++ [], x.block < W.heap.size := fun x hx => hW'.lt x hx
  have hlt' : ∀ x ∈ p, x.block < W.heap.size := fun x hx => hlt x (by simpa using hx)
  have hb := hg.below
  refine ⟨ds, [], p ++ [], [], p, [], hW', ?_, ?_, ?_, ?_, fun h => by cases h⟩
  · rw [hfn, hres]
    exact trodAll_cons_mk (shut_bool hbool _) trodAll_mk0
  · rw [hfn]
    exact trodAll_stays hl hb hr hA hlt' (fun x hx => by simpa using hlt' x hx)
  · rw [hvars, hfn]; exact rfl
  · exact World.keptBut_mono (fun x hx => ⟨hx, .inr (by simpa using hx)⟩) (hb.frame (· ∈ p ++ []))
end

section
variable {H : Type} {enc : TypeId × Value → H} {w : World} {base : Nat} {spare : Nat → Bool} {held : Bool}

def inI64 (n : Int) : Prop := -9223372036854775808 ≤ n ∧ n ≤ 9223372036854775807
theorem wf_i64 {n : Int} (h : (Lit.int .i64 n).wf = true) : inI64 n := by
  simpa [Lit.wf, IntKind.min, IntKind.max, IntKind.signed, IntKind.bits, inI64] using h
structure VB (v : V) : Prop where
  k : inI64 v.k
  n : inI64 v.n
  s : v.s.size ≤ maxLen

theorem val_cells {fuel : Nat} {cs : List Value} {x : DataW H × List MemPlace} (h : DataW.trod enc Try.prog w base spare held fuel 29 cs = some x) :
    ∃ v : V, cs = [.int .i64 v.k, .int .i64 v.n, .string v.s] ∧ VB v := by
  obtain ⟨xs, n, _, _, hlen, hxl, hf⟩ := DataW.trod_struct Try.underlying29 h
  have h3 : cs.length = 3 := by rw [hlen]; kernel_rfl
  match cs, h3 with
  | [a, b, c], _ =>
    have f0 := hf 0 _ rfl
    have f1 := hf 1 _ rfl
    have f2 := hf 2 _ rfl
    have g : ∀ i, i < 3 → ∃ y, xs[i]? = some y := fun i hi => ⟨xs[i]'(by rw [hxl]; exact hi), List.getElem?_eq_getElem _⟩
    obtain ⟨y0, e0⟩ := g 0 (by omega)
    obtain ⟨y1, e1⟩ := g 1 (by omega)
    obtain ⟨y2, e2⟩ := g 2 (by omega)
    rw [e0] at f0
    rw [e1] at f1
    rw [e2] at f2
    obtain ⟨k, hk, _, wk⟩ := DataW.trod_int Try.underlying3 f0
    obtain ⟨m, hm, _, wm⟩ := DataW.trod_int Try.underlying2 f1
    obtain ⟨s, hs, _, ws⟩ := DataW.trod_string Try.underlying9 f2
    have c0 : Try.prog.cellsOf 3 = 1 := by kernel_rfl
    have c1 : Try.prog.cellsOf 2 = 1 := by kernel_rfl
    have c2 : Try.prog.cellsOf 9 = 1 := by kernel_rfl
    simp [c0] at hk
    simp [c1] at hm
    simp [c2] at hs
    exact ⟨⟨k, m, s⟩, by simp [hk, hm, hs], ⟨wf_i64 wk, wf_i64 wm, ws⟩⟩

theorem val_read {r : Reach} {b0 : Nat} {v : Value} {d : DataW H} {p : List MemPlace} (hv : Value.okWide Try.prog w r b0 29 v) (h : DataW.Trod enc Try.prog w base spare held 29 v d p) : ∃ x : V, v = x.val ∧ VB x := by
  obtain ⟨cs, rfl, _⟩ := okWide_struct Try.underlying29 hv
  obtain ⟨fuel, hf⟩ := h
  obtain ⟨x, hx, hb⟩ := val_cells hf
  refine ⟨x, ?_, hb⟩
  have : cs.toList = [.int .i64 x.k, .int .i64 x.n, .string x.s] := by simpa [Value.cells] using hx
  cases cs
  simp at this
  rw [this]

theorem spot_none {w : World} {a : Addr} {j : Nat} {v : Value} (h : w.cell? (a.add j) = some v) : a.spot = none ∨ j ≠ 0 := by
  by_cases hj : j = 0
  · subst hj
    left
    unfold Addr.add at h
    simp only [if_true] at h
    unfold World.cell? at h
    split at h
    · split at h
      · cases h
      · rename_i hs; simpa using hs
    · cases h
  · exact .inr hj

theorem add_flat {g o n : Nat} : (Addr.mk g o none).add n = ⟨g, o + n, none⟩ := by
  unfold Addr.add
  split
  · rename_i h; subst h; rfl
  · rfl

/-- The cells of a slice whose elements have c cells, c > 0. -/
theorem slice_cells {t e : TypeId} {fuel c : Nat} {cs : List Value} {x : DataW H × List MemPlace} (ht : Try.prog.underlying t = some (.slice e)) (hc : Try.prog.cellsOf e = c) (hc0 : 0 < c) (h : DataW.trod enc Try.prog w base spare held fuel t cs = some x) :
    ∃ (A : Option Addr) (len cap n : Nat) (D : Nat → DataW H × List MemPlace), cs = [.slice A len cap] ∧ len ≤ maxLen ∧ len ≤ cap ∧ ∀ i, i < len → ∃ g o ys, A = some ⟨g, o, none⟩ ∧ ys.length = c ∧ (∀ j y, ys[j]? = some y → w.cell? ⟨g, o + i * c + j, none⟩ = some y) ∧ DataW.trod enc Try.prog w base spare held n e ys = some (D i) := by
  rcases DataW.trod_slice ht h with ⟨h0, _⟩ | ⟨a, len, cap, elems, rest, n, _, hcs, _, hb, hl, hm, hlen, hel, _, _⟩
  · exact ⟨none, 0, 0, 0, fun _ => (.nil, []), h0, Nat.zero_le _, Nat.le_refl _, fun i hi => by omega⟩
  · refine ⟨some a, len, cap, n, fun i => elems.getD i (.nil, []), hcs, by omega, hl, fun i hi => ?_⟩
    have get : ∀ i, i < len → ∃ ys, w.cells? base (a.add (i * c)) c = some ys ∧ DataW.trod enc Try.prog w base spare held n e ys = some (elems.getD i (.nil, [])) := fun i hi => by
      have h1 := hel i hi
      rw [hc] at h1
      have h2 : elems[i]? = some (elems.getD i (.nil, [])) := by simp [hlen, hi]
      rw [h2] at h1
      cases hcell : w.cells? base (a.add (i * c)) c with
      | none => rw [hcell] at h1; cases h1
      | some ys => rw [hcell] at h1; exact ⟨ys, rfl, h1⟩
    have hsp : a.spot = none := by
      obtain ⟨ys, hcell, _⟩ := get 0 (by omega)
      obtain ⟨_, hyl, hat⟩ := World.cells?_some hcell
      have h1 := hat 0 hc0
      have h2 : ys[0]? = some (ys[0]'(by omega)) := List.getElem?_eq_getElem _
      rw [h2, Nat.zero_mul] at h1
      have e : (a.add 0) = a := rfl
      rw [e] at h1
      rcases spot_none h1 with h3 | h3
      · exact h3
      · exact absurd rfl h3
    obtain ⟨g, o, sp⟩ := a
    simp only at hsp
    subst hsp
    obtain ⟨ys, hcell, hd⟩ := get i hi
    obtain ⟨_, hyl, hat⟩ := World.cells?_some hcell
    refine ⟨g, o, ys, rfl, hyl, fun j y hy => ?_, hd⟩
    have hj : j < c := by rw [← hyl]; exact (List.getElem?_eq_some_iff.1 hy).1
    have := hat j hj
    rw [hy, add_flat, add_flat] at this
    exact this

theorem vals_cells {fuel : Nat} {cs : List Value} {x : DataW H × List MemPlace} (h : DataW.trod enc Try.prog w base spare held fuel 22 cs = some x) :
    ∃ (A : Option Addr) (xs : List V) (cap : Nat), cs = [.slice A xs.length cap] ∧ VSl w A xs ∧ xs.length ≤ maxLen ∧ ∀ v ∈ xs, VB v := by
  obtain ⟨A, len, cap, n, D, hcs, hl, _, hi⟩ := slice_cells (c := 3) Try.underlying22 (by kernel_rfl) (by omega) h
  have pick : ∀ i, i < len → ∃ v : V, VB v ∧ ∃ g o, A = some ⟨g, o, none⟩ ∧ VCells w g (o + i * 3) v := fun i hlt => by
    obtain ⟨g, o, ys, hA, hyl, hat, hd⟩ := hi i hlt
    obtain ⟨v, hv, hb⟩ := val_cells hd
    subst hv
    exact ⟨v, hb, g, o, hA, hat 0 _ rfl, hat 1 _ rfl, hat 2 _ rfl⟩
  have build : ∀ m, m ≤ len → ∃ xs : List V, xs.length = m ∧ (∀ v ∈ xs, VB v) ∧ VSl w A xs := by
    intro m
    induction m with
    | zero => exact fun _ => ⟨[], rfl, by simp, fun i x hx => by simp at hx⟩
    | succ m ih =>
      intro hm
      obtain ⟨xs, hxl, hxb, hxs⟩ := ih (by omega)
      obtain ⟨v, hb, g, o, hA, hc⟩ := pick m (by omega)
      refine ⟨xs ++ [v], by simp [hxl], fun u hu => ?_, fun i x hx => ?_⟩
      · rcases List.mem_append.1 hu with h' | h'
        · exact hxb u h'
        · simp at h'; subst h'; exact hb
      · rcases Nat.lt_or_ge i xs.length with h' | h'
        · rw [List.getElem?_append_left h'] at hx
          exact hxs i x hx
        · rw [List.getElem?_append_right h'] at hx
          have : i - xs.length = 0 := by
            rcases Nat.eq_zero_or_pos (i - xs.length) with h0 | h0
            · exact h0
            · rw [List.getElem?_eq_none (by simp; omega)] at hx; cases hx
          rw [this] at hx
          simp at hx
          subst hx
          have hi' : i = m := by omega
          subst hi'
          exact ⟨g, o, hA, hc⟩
  obtain ⟨xs, hxl, hxb, hxs⟩ := build len (Nat.le_refl _)
  exact ⟨A, xs, cap, by rw [hcs, hxl], hxs, by omega, hxb⟩

theorem vals_read {r : Reach} {b0 : Nat} {v : Value} {d : DataW H} {p : List MemPlace} (hv : Value.okWide Try.prog w r b0 22 v) (h : DataW.Trod enc Try.prog w base spare held 22 v d p) :
    ∃ (A : Option Addr) (xs : List V) (cap : Nat), v = .slice A xs.length cap ∧ VSl w A xs ∧ xs.length ≤ maxLen ∧ ∀ v ∈ xs, VB v := by
  obtain ⟨a, len, cap, rfl⟩ := okWide_slice Try.underlying22 hv
  obtain ⟨fuel, hf⟩ := h
  obtain ⟨A, xs, c, hcs, h1, h2, h3⟩ := vals_cells hf
  simp [Value.cells] at hcs
  obtain ⟨rfl, rfl, rfl⟩ := hcs
  exact ⟨_, xs, _, rfl, h1, h2, h3⟩
end
end Go.Proofs.Ytjhcbehnopmnpaa
