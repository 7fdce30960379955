/-
  Joined texts of this claim: Cat, Op7, Op8, Jn, Hit, Op9, OpA, ReadL. What each proves its own head says; no condition beside those that each theorem names.
-/
import Derived.Test.YtamfpppbjaelaaaGJ
import Derived.Test.YtamfpppbjaelaaaGD
import Derived.Lib.AppendZeros
import Derived.Test.YtamfpppbjaelaaaGS
import Derived.Maps.AppendAt
import Derived.Test.YtamfpppbjaelaaaGB
import Derived.SizedLaws
namespace Go.Proofs.Ytamfpppbjaelaaa
open Go.RowKit Go.Calm
set_option linter.unusedSimpArgs false
set_option linter.unusedVariables false
structure L2 (α : Type) where
  A : Option Addr
  xs : List α
  cap : Nat
theorem run_append_none_c {P : Program} {w : World} (base : Nat) (t ty e : TypeId) (i : TypeInfo) (size : Nat) (ht : P.underlying t = some (.slice e)) (hi : P.info? e = some i)
    (v : Value) (n : Nat) (xs : List Value) (hown : w.ownsRow base e size v n xs) (c : Nat) :
    (Builtin.append_ #[t, t] ty #[v, .slice none 0 c]).run P w = .ok v w := by
  rcases hown.2 with ⟨rfl, rfl⟩ | ⟨g, cap, cur, rfl, _, _, hnc, _⟩
  · simp [Builtin.append_, run_underlying ht, sizeOf, typeInfo, hi, Builtin.lenOf, Builtin.firstCells]
  · simp [Builtin.append_, run_underlying ht, sizeOf, typeInfo, hi, Builtin.lenOf, Builtin.firstCells, hnc, storeCells]
theorem wpList_append_none_c {P : Program} {w : World} {ops : Array Oper} {rest : List Oper} {o : Oper} {a : Act} {Q : Exit → Act → World → Prop} (hgd : o.guard = none) (s x : Operand) (t : TypeId)
    (ho : o.op = .call { callee := .builtin .append, args := #[s, x], argTypes := #[t, t] })
    (base : Nat) (e : TypeId) (i : TypeInfo) (size : Nat) (ht : P.underlying t = some (.slice e)) (hi : P.info? e = some i)
    (v : Value) (n : Nat) (xs : List Value) (hs : a.eval s = v) (hown : w.ownsRow base e size v n xs) (c : Nat) (hx : a.eval x = .slice none 0 c)
    (h : wpList P ops Q rest (a.put o.dst v) w) : wpList P ops Q (o :: rest) a w := by
  refine wpList_plain hgd fun K hK => ?_
  have hrun := run_append_none_c (P := P) (w := w) base t o.type e i size ht hi v n xs hown c
  unfold Oper.wp
  simp [execOp, ho, resolve, invoke, builtin, hs, hx, hrun, Result.andThen]
  exact hK _ _ h
theorem flatW_app : ∀ a b : List V, flatW (a ++ b) = flatW a ++ flatW b
  | [], b => rfl
  | x :: a, b => by simp [flatW, flatW_app a b]
theorem flatW_ones : ∀ (l : List V), ∀ u ∈ flatW l, u.oneCell' = true
  | [], u, hu => by simp [flatW] at hu
  | x :: l, u, hu => by
    simp only [flatW, List.mem_cons] at hu
    rcases hu with rfl | rfl | rfl | hu
    · rfl
    · rfl
    · rfl
    · exact flatW_ones l u hu
def flatN (l : List Int) : List Value := l.map (Value.int .i64)
theorem flatN_app (a b : List Int) : flatN (a ++ b) = flatN a ++ flatN b := by simp [flatN]
theorem flatN_len (a : List Int) : (flatN a).length = a.length * 1 := by simp [flatN]
theorem flatN_ones (l : List Int) : ∀ u ∈ flatN l, u.oneCell' = true := fun u hu => by
  obtain ⟨x, _, rfl⟩ := List.mem_map.1 hu
  rfl
theorem cells_W {w : World} {A : Option Addr} {xs : List V} (h : VSl w A xs) {ad : Addr} (hA : A = some ad) : ∀ j u, (flatW xs)[j]? = some u → w.cell? (ad.add j) = some u := fun j u hj => by
  have hlt : j < (flatW xs).length := (List.getElem?_eq_some_iff.1 hj).1
  rw [flatW_len] at hlt
  have hi : j / 3 < xs.length := by omega
  obtain ⟨x, hx⟩ : ∃ x, xs[j / 3]? = some x := ⟨_, List.getElem?_eq_getElem hi⟩
  obtain ⟨a, b, c⟩ := flatW_get _ _ _ hx
  obtain ⟨g, o, e, c1, c2, c3⟩ := h _ _ hx
  rw [hA] at e
  cases e
  rw [addr_add]
  have h3 : j % 3 = 0 ∨ j % 3 = 1 ∨ j % 3 = 2 := by omega
  rcases h3 with h3 | h3 | h3
  · rw [show j / 3 * 3 = j by omega] at a
    rw [a] at hj; cases hj
    rw [show o + j = o + j / 3 * 3 by omega]; exact c1
  · rw [show j / 3 * 3 + 1 = j by omega] at b
    rw [b] at hj; cases hj
    rw [show o + j = o + j / 3 * 3 + 1 by omega]; exact c2
  · rw [show j / 3 * 3 + 2 = j by omega] at c
    rw [c] at hj; cases hj
    rw [show o + j = o + j / 3 * 3 + 2 by omega]; exact c3
theorem nil_W {w : World} {xs : List V} (h : VSl w none xs) : xs = [] := by
  cases xs with
  | nil => rfl
  | cons x l => obtain ⟨g, o, e, _⟩ := h 0 x rfl; cases e
def SrcW (w : World) (src : Value) (L : List V) : Prop := (∃ c, src = .slice none 0 c ∧ L = []) ∨ ∃ ad c, src = .slice (some ad) L.length c ∧ ∀ j u, (flatW L)[j]? = some u → w.cell? (ad.add j) = some u
theorem srcW_of {w : World} {A : Option Addr} {xs : List V} {c : Nat} (h : VSl w A xs) : SrcW w (.slice A xs.length c) xs := by
  cases A with
  | none => have e := nil_W h; subst e; exact .inl ⟨c, rfl, rfl⟩
  | some ad => exact .inr ⟨ad, c, rfl, cells_W h rfl⟩
theorem wpList_append_srcW {w : World} {ops : Array Oper} {rest : List Oper} {o : Oper} {a : Act} {Q : Exit → Act → World → Prop} (hgd : o.guard = none) (s x : Operand)
    (ho : o.op = .call { callee := .builtin .append, args := #[s, x], argTypes := #[37, 37] })
    (base : Nat) (v : Value) (n : Nat) (xs : List V) (hs : a.eval s = v) (hown : w.ownsRow base 30 3 v n (flatW xs)) (src : Value) (L : List V) (hx : a.eval x = src) (hsrc : SrcW w src L) (hB : n + L.length ≤ 1000000) (hbase : base ≤ w.heap.size)
    (h : ∀ v' w', w'.ownsRow base 30 3 v' (n + L.length) (flatW (xs ++ L)) → w.grownBy w' v.ownBlock → wpList Try.prog ops Q rest (a.put o.dst v') w') : wpList Try.prog ops Q (o :: rest) a w := by
  obtain ⟨ti, hti, hz0, hz1, hz2⟩ := info_val2'
  rcases hsrc with ⟨c, rfl, rfl⟩ | ⟨ad, c, rfl, hc⟩
  · refine wpList_append_none_c hgd s x _ ho base 30 ti 3 Try.underlying37 hti v n (flatW xs) hs hown c hx ?_
    exact h v w (by simpa using hown) ⟨rfl, rfl, rfl, Nat.le_refl _, fun _ _ _ => rfl⟩
  · refine wpList_append_own _ hgd s x _ ho base 30 ti (.agg #[.int .i64 0, .int .i64 0, .string ⟨#[]⟩]) 3 32 Try.underlying37 hti hz0 hz1 hz2 rfl (by decide) v n (flatW xs) hs hown ad L.length c (flatW L) hx (by rw [flatW_len]) hc (flatW_ones _) (by unfold maxLen; omega) (by omega) hbase ?_
    intro v' w' h1 h2 _
    exact h v' w' (by rw [flatW_app]; exact h1) h2
def SrcN (w : World) (src : Value) (L : List Int) : Prop := (∃ c, src = .slice none 0 c ∧ L = []) ∨ ∃ ad c, src = .slice (some ad) L.length c ∧ ∀ j u, (flatN L)[j]? = some u → w.cell? (ad.add j) = some u
theorem wpList_append_srcN {w : World} {ops : Array Oper} {rest : List Oper} {o : Oper} {a : Act} {Q : Exit → Act → World → Prop} (hgd : o.guard = none) (s x : Operand)
    (ho : o.op = .call { callee := .builtin .append, args := #[s, x], argTypes := #[22, 22] })
    (base : Nat) (v : Value) (n : Nat) (xs : List Int) (hs : a.eval s = v) (hown : w.ownsRow base 3 1 v n (flatN xs)) (src : Value) (L : List Int) (hx : a.eval x = src) (hsrc : SrcN w src L) (hB : n + L.length ≤ 1000000) (hbase : base ≤ w.heap.size)
    (h : ∀ v' w', w'.ownsRow base 3 1 v' (n + L.length) (flatN (xs ++ L)) → w.grownBy w' v.ownBlock → wpList Try.prog ops Q rest (a.put o.dst v') w') : wpList Try.prog ops Q (o :: rest) a w := by
  obtain ⟨ti, hti, hz0, hz1, hz2⟩ := info_int'
  rcases hsrc with ⟨c, rfl, rfl⟩ | ⟨ad, c, rfl, hc⟩
  · refine wpList_append_none_c hgd s x _ ho base 3 ti 1 Try.underlying22 hti v n (flatN xs) hs hown c hx ?_
    exact h v w (by simpa using hown) ⟨rfl, rfl, rfl, Nat.le_refl _, fun _ _ _ => rfl⟩
  · refine wpList_append_own _ hgd s x _ ho base 3 ti (.int .i64 0) 1 8 Try.underlying22 hti hz0 hz1 hz2 rfl (by decide) v n (flatN xs) hs hown ad L.length c (flatN L) hx (by rw [flatN_len]) hc (flatN_ones _) (by unfold maxLen; omega) (by omega) hbase ?_
    intro v' w' h1 h2 _
    exact h v' w' (by rw [flatN_app]; exact h1) h2
theorem Blk.by {w w' : World} {q : Nat} {t : TypeId} {cs : Array Value} {row : Option Nat} (h : Blk w q t cs) (hg : w.grownBy w' row) (hne : some q ≠ row) : Blk w' q t cs := by
  unfold Blk at h ⊢
  rw [hg.block q (Blk.lt h) hne]
  exact h
theorem OwnR.other {w w' : World} {y : I} {g : Nat} {t : TypeId} {cs : Array Value} (h : OwnR w y) (hb : Blk w g t cs) (ht : t ≠ 30) (hg : w.grownBy w' (some g)) : OwnR w' y := by
  obtain ⟨base, h⟩ := h
  refine ⟨base, World.ownsRow.kept h hg ?_⟩
  rcases h.2 with ⟨e, _⟩ | ⟨g', cap, cur, e, hB, hgb, _⟩
  · rw [e]; exact .inl rfl
  · right
    rw [e]
    intro e2
    simp [Value.ownBlock] at e2
    subst e2
    unfold Blk at hb
    rw [hb] at hgb
    simp at hgb
    exact ht hgb.2
structure JSt (base go ga gb : Nat) (a b : S) (W : World) (v : Value) (out : List I) : Prop where
  bo : Blk W go 24 #[v]
  ba : Blk W ga 24 #[.slice a.A a.xs.length a.cap]
  bb : Blk W gb 24 #[.slice b.A b.xs.length b.cap]
  own : W.ownsRow base 39 2 v out.length (flatI out)
  rows : ∀ u ∈ out, OwnR W u
theorem JSt.grow {base go ga gb : Nat} {a b : S} {W W' : World} {v : Value} {out : List I} (h : JSt base go ga gb a b W v out) (hg : Grow W W') : JSt base go ga gb a b W' v out :=
  ⟨h.bo.grow hg, h.ba.grow hg, h.bb.grow hg, own_grow h.own hg, fun u hu => (h.rows u hu).grow hg⟩
structure JKeep (we w w' : World) (go : Nat) (v v' : Value) : Prop where
  grow : Grow we w → Grow we w'
  size : w.heap.size ≤ w'.heap.size
  blk : ∀ q t cs, Blk w q t cs → q ≠ go → some q ≠ v.ownBlock → Blk w' q t cs
  own : v'.ownBlock = v.ownBlock ∨ ∃ g', v'.ownBlock = some g' ∧ w.heap.size ≤ g'
theorem own_ge {w : World} {base n s : Nat} {e : TypeId} {v : Value} {xs : List Value} (h : w.ownsRow base e s v n xs) {q : Nat} (hq : q < base) : some q ≠ v.ownBlock := by
  rcases h.2 with ⟨rfl, _⟩ | ⟨g, cap, cur, rfl, hB, _⟩
  · simp [Value.ownBlock]
  · simp [Value.ownBlock]; omega
abbrev Hit := Nat × I × I
structure PairOk (x : E) (a b : S) : Prop where
  la : a.xs.length ≤ 400
  lb : b.xs.length ≤ 400
  ra : ∀ y ∈ a.xs, y.row.length ≤ 8
  rb : ∀ y ∈ b.xs, y.row.length ≤ 8
  wa : ∀ y ∈ a.xs, -1000000 ≤ y.w ∧ y.w ≤ 1000000
  wb : ∀ y ∈ b.xs, -1000000 ≤ y.w ∧ y.w ≤ 1000000
  va : ∀ y ∈ a.xs, ∀ v ∈ y.row, RV v
  re : ∀ y ∈ a.xs, ∀ z ∈ b.xs, RE (y.row ++ z.row).length x ∧ (∀ v ∈ y.row ++ z.row, RV v) ∧ (y.row ++ z.row).length ≤ 8
structure PairFn (we : World) (base F : Nat) (caps : Array Value) (a b : S) (σ : Type) (St : World → σ → List Hit → Prop) (Fr : σ → Nat → Prop) : Prop where
  ent : ∀ args W, Sem.run Try.prog (callFunc F args) W = .ok (.enter F args) W
  grow : ∀ W W' s h, St W s h → Grow W W' → St W' s h
  new : ∀ W s h q, St W s h → W.heap.size ≤ q → Fr s q
  step : ∀ W s h (i k : Nat) (y z : I) (B : Option Addr) (cap : Nat), St W s h → Grow we W → base ≤ W.heap.size → a.xs[i]? = some y → b.xs[k]? = some z → h.length ≤ 200000 → (∃ bs, W.ownsRow bs 30 3 (.slice B (y.row ++ z.row).length cap) (y.row ++ z.row).length (flatW (y.row ++ z.row))) →
    Calls Try.prog F (#[.int .i64 i, .int .i64 k, .slice B (y.row ++ z.row).length cap] ++ caps) W fun en W' => en = .returned (.tuple #[]) ∧ ∃ s', St W' s' (h ++ [(i, y, z)]) ∧ Grow we W' ∧ W.heap.size ≤ W'.heap.size ∧ ∀ q t cs, Blk W q t cs → Fr s q → Blk W' q t cs ∧ Fr s' q
structure PInv (we : World) (base : Nat) {σ : Type} (St : World → σ → List Hit → Prop) (wr : World) (s : σ) (h : List Hit) : Prop where
  st : St wr s h
  grow : Grow we wr
  size : base ≤ wr.heap.size
theorem PInv.up {we : World} {base : Nat} {σ : Type} {St : World → σ → List Hit → Prop} {wr W : World} {s : σ} {h : List Hit} (hg0 : ∀ W W' s h, St W s h → Grow W W' → St W' s h) (p : PInv we base St wr s h) (hg : Grow wr W) : PInv we base St W s h :=
  ⟨hg0 _ _ _ _ p.st hg, p.grow.trans hg, by have := p.size; have := hg.size; omega⟩
end Go.Proofs.Ytamfpppbjaelaaa

namespace Go.Proofs.Ytamfpppbjaelaaa
open Go.ChangeShapes Go.WideShapes Go.ChangeAt Go.RowKit Go.Calm
section
variable {H : Type} {enc : TypeId × Value → H} {w : World} {base : Nat} {spare : Nat → Bool} {held : Bool}
theorem slice_bound {ts : List TypeId} {ds : List (DataW H)} (hsz : (DataW.weightsEach Try.prog ts ds).all (· ≤ reachBytes) = true) {t e : TypeId} {A : Option Addr} {n c : Nat} {d : DataW H} {p : List MemPlace} (j : Nat) (ht : ts[j]? = some t) (hd : ds[j]? = some d)
    (hu : Try.prog.underlying t = some (.slice e)) (hb : Nat.ble 1 (Try.prog.bytesOf e) = true) (h : DataW.Trod enc Try.prog w base spare held t (.slice A n c) d p) : n ≤ 140737488355328 := by
  obtain ⟨fuel, hf⟩ := h
  rcases DataW.trod_slice hu hf with ⟨h0, _⟩ | ⟨a, len, cap, elems, rest, m, _, hcs, hx, _, _, _, hl, _⟩
  · simp [Value.cells] at h0
    omega
  · simp [Value.cells] at hcs
    simp only [Prod.mk.injEq] at hx
    rw [hx.1] at hd
    have h1 := sized_slice hsz ht hd hu
    have h2 : 1 ≤ Try.prog.bytesOf e := Nat.le_of_ble_eq_true hb
    have h3 := Nat.mul_le_mul_left ((elems.map (·.1)).length + (rest.map (·.1)).length) h2
    have h4 := reachBytes_lt
    simp at h3 h1
    omega
end
end Go.Proofs.Ytamfpppbjaelaaa
