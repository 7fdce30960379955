/-
  Joined texts of this claim: Cat, Op7, Op8, Jn, Hit, Op9, OpA. What each proves its own head says; no condition beside those that each theorem names.
-/
import Derived.Test.YtpgpecdiajmgmaaGJ
import Derived.Test.YtpgpecdiajmgmaaGD
import Derived.Lib.AppendZeros
import Derived.Test.YtpgpecdiajmgmaaGS
import Derived.Maps.AppendAt
namespace Go.Proofs.Ytpgpecdiajmgmaa
open Go.RowKit Go.Calm
set_option linter.unusedSimpArgs false
set_option linter.unusedVariables false

structure L2 (α : Type) where
  A : Option Addr
  xs : List α
  cap : Nat
def LIn {α : Type} (P : World → Option Addr → List α → Prop) (w : World) (A : Option Addr) (ss : List (L2 α)) : Prop := ∀ i s, ss[i]? = some s → ∃ g o, A = some ⟨g, o, none⟩ ∧ w.cell? ⟨g, o + i, none⟩ = some (.slice s.A s.xs.length s.cap) ∧ P w s.A s.xs
def fl2 {α : Type} (ss : List (L2 α)) : List α := ss.flatMap L2.xs
theorem fl2_succ {α : Type} {ss : List (L2 α)} {k : Nat} {s : L2 α} (h : ss[k]? = some s) : fl2 (ss.take (k + 1)) = fl2 (ss.take k) ++ s.xs := by
  obtain ⟨h1, e1⟩ := List.getElem?_eq_some_iff.1 h
  rw [List.take_succ_eq_append_getElem h1, e1]; simp [fl2]
theorem fl2_len {α : Type} (ss : List (L2 α)) (k : Nat) : (fl2 (ss.take k)).length ≤ (fl2 ss).length := by
  have : fl2 ss = fl2 (ss.take k) ++ fl2 (ss.drop k) := by unfold fl2; rw [← List.flatMap_append, List.take_append_drop]
  rw [this, List.length_append]
  omega
theorem run_append_none_c {P : Program} {w : World} (base : Nat) (t ty e : TypeId) (i : TypeInfo) (size : Nat) (ht : P.underlying t = some (.slice e)) (hi : P.info? e = some i)
    (v : Value) (n : Nat) (xs : List Value) (hown : w.ownsRow base e size v n xs) (c : Nat) :
    (Builtin.append_ #[t, t] ty #[v, .slice none 0 c]).run P w = .ok v w := by
  rcases hown.2 with ⟨rfl, rfl⟩ | ⟨g, cap, cur, rfl, _, _, hnc, _⟩
  · simp [Builtin.append_, run_underlying ht, sizeOf, typeInfo, hi, Builtin.lenOf, Builtin.firstCells]
  · simp [Builtin.append_, run_underlying ht, sizeOf, typeInfo, hi, Builtin.lenOf, Builtin.firstCells, hnc, storeCells]
theorem wpList_append_none_c {P : Program} {w : World} {ops : Array Oper} {rest : List Oper} {o : Oper} {a : Act} {Q : Exit → Act → World → Prop} (hgd : o.guard = none) (s x : Operand) (t : TypeId)
    (ho : o.op = .call { callee := .builtin .append, args := #[s, x], argTypes := #[t, t] })
    (base : Nat) (e : TypeId) (i : TypeInfo) (size : Nat) (ht : P.underlying t = some (.slice e)) (hi : P.info? e = some i)
    (v : Value) (n : Nat) (xs : List Value) (hs : a.eval s = v) (hown : w.ownsRow base e size v n xs) (c : Nat) (hx : a.eval x = .slice none 0 c)
    (h : wpList P ops Q rest (a.put o.dst v) w) : wpList P ops Q (o :: rest) a w := by
  refine wpList_plain hgd fun K hK => ?_
  have hrun := run_append_none_c (P := P) (w := w) base t o.type e i size ht hi v n xs hown c
  unfold Oper.wp
  simp [execOp, ho, resolve, invoke, builtin, hs, hx, hrun, Result.andThen]
  exact hK _ _ h
def flatN (l : List Int) : List Value := l.map (Value.int .i64)
theorem flatN_app (a b : List Int) : flatN (a ++ b) = flatN a ++ flatN b := by simp [flatN]
theorem flatN_len (a : List Int) : (flatN a).length = a.length * 1 := by simp [flatN]
theorem flatN_ones (l : List Int) : ∀ u ∈ flatN l, u.oneCell' = true := fun u hu => by
  obtain ⟨x, _, rfl⟩ := List.mem_map.1 hu
  rfl
theorem cells_N {w : World} {A : Option Addr} {xs : List Int} (h : ISl w A xs) {ad : Addr} (hA : A = some ad) : ∀ j u, (flatN xs)[j]? = some u → w.cell? (ad.add j) = some u := fun j u hj => by
  unfold flatN at hj
  rw [List.getElem?_map] at hj
  cases hx : xs[j]? with
  | none => rw [hx] at hj; simp at hj
  | some x =>
    rw [hx] at hj
    simp at hj
    subst hj
    obtain ⟨g, o, e, c1⟩ := h _ _ hx
    rw [hA] at e
    cases e
    rw [addr_add]; exact c1
theorem nil_N {w : World} {xs : List Int} (h : ISl w none xs) : xs = [] := by
  cases xs with
  | nil => rfl
  | cons x l => obtain ⟨g, o, e, _⟩ := h 0 x rfl; cases e
theorem own_base {w : World} {b b' n s : Nat} {e : TypeId} {v : Value} {xs : List Value} (h : w.ownsRow b e s v n xs) (hb : b' ≤ b) : w.ownsRow b' e s v n xs := by
  obtain ⟨h1, h2⟩ := h
  refine ⟨h1, ?_⟩
  rcases h2 with h2 | ⟨g, cap, cur, a, c, d⟩
  · exact .inl h2
  · exact .inr ⟨g, cap, cur, a, by omega, d⟩

def SrcN (w : World) (src : Value) (L : List Int) : Prop := (∃ c, src = .slice none 0 c ∧ L = []) ∨ ∃ ad c, src = .slice (some ad) L.length c ∧ ∀ j u, (flatN L)[j]? = some u → w.cell? (ad.add j) = some u
theorem srcN_of {w : World} {A : Option Addr} {xs : List Int} {c : Nat} (h : ISl w A xs) : SrcN w (.slice A xs.length c) xs := by
  cases A with
  | none => have e := nil_N h; subst e; exact .inl ⟨c, rfl, rfl⟩
  | some ad => exact .inr ⟨ad, c, rfl, cells_N h rfl⟩
theorem wpList_append_srcN {w : World} {ops : Array Oper} {rest : List Oper} {o : Oper} {a : Act} {Q : Exit → Act → World → Prop} (hgd : o.guard = none) (s x : Operand)
    (ho : o.op = .call { callee := .builtin .append, args := #[s, x], argTypes := #[38, 38] })
    (base : Nat) (v : Value) (n : Nat) (xs : List Int) (hs : a.eval s = v) (hown : w.ownsRow base 3 1 v n (flatN xs)) (src : Value) (L : List Int) (hx : a.eval x = src) (hsrc : SrcN w src L) (hB : n + L.length ≤ 1000000) (hbase : base ≤ w.heap.size)
    (h : ∀ v' w', w'.ownsRow base 3 1 v' (n + L.length) (flatN (xs ++ L)) → w.grownBy w' v.ownBlock → wpList Try.prog ops Q rest (a.put o.dst v') w') : wpList Try.prog ops Q (o :: rest) a w := by
  obtain ⟨ti, hti, hz0, hz1, hz2⟩ := info_int'
  rcases hsrc with ⟨c, rfl, rfl⟩ | ⟨ad, c, rfl, hc⟩
  · refine wpList_append_none_c hgd s x _ ho base 3 ti 1 Try.underlying38 hti v n (flatN xs) hs hown c hx ?_
    exact h v w (by simpa using hown) ⟨rfl, rfl, rfl, Nat.le_refl _, fun _ _ _ => rfl⟩
  · refine wpList_append_own _ hgd s x _ ho base 3 ti (.int .i64 0) 1 8 Try.underlying38 hti hz0 hz1 hz2 rfl (by decide) v n (flatN xs) hs hown ad L.length c (flatN L) hx (by rw [flatN_len]) hc (flatN_ones _) (by unfold maxLen; omega) (by omega) hbase ?_
    intro v' w' h1 h2 _
    exact h v' w' (by rw [flatN_app]; exact h1) h2
set_option maxRecDepth 100000 in
set_option maxHeartbeats 4000000 in
theorem growN_any (n : Nat) (w : World) (hn : n ≤ 100000) :
    Calls Try.prog 105 #[.slice none 0 0, .int .i64 n] w fun e w' => ∃ v, e = .returned v ∧ w'.ownsRow w.heap.size 3 1 v 0 (flatN []) ∧ Grow w w' := by
  obtain ⟨ti, hti, hz0, hz1, hz2⟩ := info_int'
  go_enter Try.func105, Try.ntmps105
  by_cases h0 : n = 0
  · subst h0
    go_wp2
    go_ret
    exact ⟨_, rfl, World.ownsRow_nil _ _ _ _, Grow.refl _⟩
  · have hpos : decide ((0 : Int) < (n : Int)) = true := decide_eq_true (by omega)
    have hwp : IntKind.i64.wrap (n : Int) = (n : Int) := by rw [IntKind.wrap_i64]; omega
    have hrz := fun ty => Lib.run_append_nil_zeros w 38 3 ty 3 ti _ .i64 .i64 Try.underlying38 Try.underlying3 hti hz0 n (by omega) (by omega) (by omega) (by rw [hz2]; omega)
    have hge : n ≤ grownCap w n 0 3 := grownCap_ge w n 0 _
    have hmx := grownCap_le_maxLen w n 0 3 (by unfold maxLen; omega)
    obtain ⟨G, hG⟩ : ∃ G, grownCap w n 0 3 = G := ⟨_, rfl⟩
    rw [hG] at hrz hge hmx
    have HM := Lib.hid hmx
    have hG63 : G ≤ 9223372036854775807 := by unfold maxLen at hmx; omega
    clear hG hmx
    go_wp2_with (at_builtin; refine Lib.wpList_append_run _ rfl _ _ _ _ rfl _ _ rfl rfl _ _ (hrz _) ?_)
    go_ret
    refine ⟨_, rfl, World.ownsRow_made w.drew _ G (Nat.le_refl _) HM.out ?_, (Grow.refl w).drew.al _⟩
    simp [size_zeroCells, Value.cells]
    try omega
set_option maxRecDepth 100000 in
set_option maxHeartbeats 4000000 in
theorem concatN_any (ss : List (L2 Int)) (A : Option Addr) (c : Nat) (w : World) (hlen : ss.length ≤ 1000) (hs : LIn ISl w A ss) (hsum : (fl2 ss).length ≤ 10000) :
    Calls Try.prog 62 #[.slice A ss.length c] w fun en w' => ∃ (B : Option Addr) (cap : Nat), en = .returned (.slice B (fl2 ss).length cap) ∧ w'.ownsRow w.heap.size 3 1 (.slice B (fl2 ss).length cap) (fl2 ss).length (flatN (fl2 ss)) ∧ Grow w w' := by
  have Hs := Lib.hid (fun i s (h : ss[i]? = some s) W (hg : Grow w W) => (by obtain ⟨g, o, a, b, c⟩ := hs i s h; exact ⟨g, o, a, hg.cell b, ISl.grow c hg⟩ : ∃ g o, A = some ⟨g, o, none⟩ ∧ W.cell? ⟨g, o + i, none⟩ = some (.slice s.A s.xs.length s.cap) ∧ ISl W s.A s.xs))
  clear hs
  go_enter Try.func62, Try.ntmps62
  go_wp2
  go_loopw [3, 11] (fun n i wr => ∃ (k m : Nat), k ≤ ss.length ∧ i = .int .i64 k ∧ n = .int .i64 m ∧ m = (fl2 (ss.take k)).length ∧ Grow w wr) (fun _ i _ => ss.length - (intOf i).toNat)
  case atStart => exact ⟨0, 0, Nat.zero_le _, rfl, rfl, rfl, Grow.refl _⟩
  case round =>
    rename World => wa
    obtain ⟨k, m, hk, rfl, rfl, hm, hg⟩ := hrel
    have Hm := Lib.hid hm
    clear hm
    by_cases hlt : k < ss.length
    · obtain ⟨s, hsk⟩ : ∃ s, ss[k]? = some s := ⟨_, List.getElem?_eq_getElem hlt⟩
      obtain ⟨g, o, rfl, c1, hz⟩ := Hs.out k s hsk _ hg
      have hm2 : m + s.xs.length = (fl2 (ss.take (k + 1))).length := by rw [fl2_succ hsk, List.length_append, ← Hm.out]
      have hb := fl2_len ss (k + 1)
      rw [← hm2] at hb
      have Hm2 := Lib.hid hm2
      have hwp : IntKind.i64.wrap ((m : Int) + (s.xs.length : Int)) = ((m + s.xs.length : Nat) : Int) := by rw [IntKind.wrap_i64]; omega
      have d0 : decide (((m + s.xs.length : Nat) : Int) < 0) = false := decide_eq_false (by omega)
      clear hm2 hsk hz
      go_wp2
      go_roundw
      case rel => exact ⟨k + 1, m + s.xs.length, by omega, by go_num, by go_num, Hm2.out, hg⟩
      case measure => simp [intOf]; omega
    · obtain rfl : k = ss.length := by omega
      have hm2 : m ≤ 10000 := by rw [Hm.out, List.take_length]; exact hsum
      have cg := fun W => growN_any m W (by omega)
      go_upto_region 10 with (go_at_call 105; ((with_reducible refine (cg _).mono ?_); rintro en w2 ⟨v, rfl, hown, hg2⟩; have Own := Lib.hid hown; clear hown))
      have G2 := hg.trans hg2
      go_wp2
      go_loopw [6, 27] (fun t i wq => ∃ (k n : Nat), k ≤ ss.length ∧ i = .int .i64 k ∧ n = (fl2 (ss.take k)).length ∧ wq.ownsRow wa.heap.size 3 1 t n (flatN (fl2 (ss.take k))) ∧ Grow wa wq) (fun _ i _ => ss.length - (intOf i).toNat)
      case atStart => exact ⟨0, 0, Nat.zero_le _, rfl, rfl, Own.out, hg2⟩
      case round =>
        obtain ⟨k, n, hk, rfl, hn, hown, hg3⟩ := hrel
        have Own3 := Lib.hid hown
        have Hn := Lib.hid hn
        clear hown hn
        by_cases hlt : k < ss.length
        · obtain ⟨s, hsk⟩ : ∃ s, ss[k]? = some s := ⟨_, List.getElem?_eq_getElem hlt⟩
          obtain ⟨g, o, rfl, c1, hz⟩ := Hs.out k s hsk _ (hg.trans hg3)
          have src := Lib.hid (srcN_of (c := s.cap) hz)
          have hn2 : n + s.xs.length = (fl2 (ss.take (k + 1))).length := by rw [fl2_succ hsk, List.length_append, ← Hn.out]
          have hfl := Lib.hid (fl2_succ hsk)
          have hb := fl2_len ss (k + 1)
          rw [← hn2] at hb
          have Hn2 := Lib.hid hn2
          clear hn2 hsk hz
          go_wp2_with (at_builtin; refine wpList_append_srcN rfl _ _ rfl wa.heap.size _ n (fl2 (ss.take k)) rfl Own3.out _ s.xs rfl src.out (by omega) hg3.size ?_; intro v' w7 hown' hgrow)
          have hg7 : Grow wa w7 := grow_own hg3 hgrow Own3.out
          have Own7 := Lib.hid hown'
          clear hgrow hown'
          go_wp2
          go_roundw
          case rel => exact ⟨k + 1, n + s.xs.length, by omega, by go_num, Hn2.out, by rw [hfl.out]; exact Own7.out, hg7⟩
          case measure => simp [intOf]; omega
        · obtain rfl : k = ss.length := by omega
          have own := Own3.out
          have hn := Hn.out
          rw [List.take_length] at own hn
          subst hn
          have hfin : ∃ (B : Option Addr) (cap : Nat), u6 = .slice B (fl2 ss).length cap := by
            rcases own.2 with ⟨rfl, h0⟩ | ⟨gb, cap, cur, rfl, _⟩
            · exact ⟨none, 0, by rw [h0]⟩
            · exact ⟨_, _, rfl⟩
          obtain ⟨B, cap, rfl⟩ := hfin
          have Fin := Lib.hid (own_base own hg.size)
          clear own
          go_wp2
          go_ret
          exact ⟨B, cap, rfl, Fin.out, hg.trans hg3⟩
theorem concatN_two (x y : L2 Int) (g : Nat) (t : TypeId) (w : World) (h : Blk w g t #[.slice x.A x.xs.length x.cap, .slice y.A y.xs.length y.cap]) (hx : ISl w x.A x.xs) (hy : ISl w y.A y.xs) (hl : x.xs.length + y.xs.length ≤ 10000) :
    Calls Try.prog 62 #[.slice (some ⟨g, 0, none⟩) 2 2] w fun en w' => ∃ (B : Option Addr) (cap : Nat), en = .returned (.slice B (x.xs ++ y.xs).length cap) ∧ w'.ownsRow w.heap.size 3 1 (.slice B (x.xs ++ y.xs).length cap) (x.xs ++ y.xs).length (flatN (x.xs ++ y.xs)) ∧ Grow w w' := by
  have := concatN_any [x, y] (some ⟨g, 0, none⟩) 2 w (by simp) (fun i s hs => by
    match i, hs with
    | 0, hs => simp at hs; subst hs; exact ⟨g, 0, rfl, by rw [h.cell]; rfl, hx⟩
    | 1, hs => simp at hs; subst hs; exact ⟨g, 0, rfl, by rw [h.cell]; rfl, hy⟩) (by simp [fl2]; omega)
  have e : fl2 [x, y] = x.xs ++ y.xs := by simp [fl2]
  rw [e] at this
  exact this
end Go.Proofs.Ytpgpecdiajmgmaa

namespace Go.Proofs.Ytpgpecdiajmgmaa
open Go.RowKit Go.Calm
set_option linter.unusedSimpArgs false
set_option linter.unusedVariables false

theorem own_isl2 {w : World} {base n cap : Nat} {B : Option Addr} {ys : List Int} (h : w.ownsRow base 3 1 (.slice B n cap) n (flatN ys)) (hn : n = ys.length) : ISl w B ys := by
  obtain ⟨B', c', e, hv, _⟩ := own_isl h
  simp at e
  rw [e.1]; exact hv
def P2 (l r : L2 Int) (v : Value) (W : World) : Prop := ∃ g, v = .slice (some ⟨g, 0, none⟩) 2 2 ∧ Blk W g 38 #[.slice l.A l.xs.length l.cap, .slice r.A r.xs.length r.cap]
end Go.Proofs.Ytpgpecdiajmgmaa

namespace Go.Proofs.Ytpgpecdiajmgmaa
open Go.RowKit Go.Calm
set_option linter.unusedSimpArgs false
set_option linter.unusedVariables false

theorem Blk.by {w w' : World} {q : Nat} {t : TypeId} {cs : Array Value} {row : Option Nat} (h : Blk w q t cs) (hg : w.grownBy w' row) (hne : some q ≠ row) : Blk w' q t cs := by
  unfold Blk at h ⊢
  rw [hg.block q (Blk.lt h) hne]
  exact h
theorem OwnR.other {w w' : World} {y : I} {g : Nat} {t : TypeId} {cs : Array Value} (h : OwnR w y) (hb : Blk w g t cs) (ht : t ≠ 24) (hg : w.grownBy w' (some g)) : OwnR w' y := by
  obtain ⟨base, h⟩ := h
  refine ⟨base, World.ownsRow.kept h hg ?_⟩
  rcases h.2 with ⟨e, _⟩ | ⟨g', cap, cur, e, hB, hgb, _⟩
  · rw [e]; exact .inl rfl
  · right
    rw [e]
    intro e2
    simp [Value.ownBlock] at e2
    subst e2
    unfold Blk at hb
    rw [hb] at hgb
    simp at hgb
    exact ht hgb.2
structure JSt (base go ga gb : Nat) (a b : S) (W : World) (v : Value) (out : List I) : Prop where
  bo : Blk W go 42 #[v]
  ba : Blk W ga 42 #[.slice a.A a.xs.length a.cap]
  bb : Blk W gb 42 #[.slice b.A b.xs.length b.cap]
  own : W.ownsRow base 51 2 v out.length (flatI out)
  rows : ∀ u ∈ out, OwnR W u
theorem JSt.grow {base go ga gb : Nat} {a b : S} {W W' : World} {v : Value} {out : List I} (h : JSt base go ga gb a b W v out) (hg : Grow W W') : JSt base go ga gb a b W' v out :=
  ⟨h.bo.grow hg, h.ba.grow hg, h.bb.grow hg, own_grow h.own hg, fun u hu => (h.rows u hu).grow hg⟩
structure JKeep (we w w' : World) (go : Nat) (v v' : Value) : Prop where
  grow : Grow we w → Grow we w'
  size : w.heap.size ≤ w'.heap.size
  blk : ∀ q t cs, Blk w q t cs → q ≠ go → some q ≠ v.ownBlock → Blk w' q t cs
  own : v'.ownBlock = v.ownBlock ∨ ∃ g', v'.ownBlock = some g' ∧ w.heap.size ≤ g'
theorem own_ge {w : World} {base n s : Nat} {e : TypeId} {v : Value} {xs : List Value} (h : w.ownsRow base e s v n xs) {q : Nat} (hq : q < base) : some q ≠ v.ownBlock := by
  rcases h.2 with ⟨rfl, _⟩ | ⟨g, cap, cur, rfl, hB, _⟩
  · simp [Value.ownBlock]
  · simp [Value.ownBlock]; omega
end Go.Proofs.Ytpgpecdiajmgmaa

namespace Go.Proofs.Ytpgpecdiajmgmaa
open Go.RowKit Go.Calm
set_option linter.unusedSimpArgs false
set_option linter.unusedVariables false

end Go.Proofs.Ytpgpecdiajmgmaa

namespace Go.Proofs.Ytpgpecdiajmgmaa
open Go.RowKit Go.Calm
set_option linter.unusedSimpArgs false
set_option linter.unusedVariables false

abbrev Hit := Nat × I × I
structure PairOk (x : E) (a b : S) : Prop where
  la : a.xs.length ≤ 400
  lb : b.xs.length ≤ 400
  ra : ∀ y ∈ a.xs, y.row.length ≤ 8
  rb : ∀ y ∈ b.xs, y.row.length ≤ 8
  wa : ∀ y ∈ a.xs, -1000000 ≤ y.w ∧ y.w ≤ 1000000
  wb : ∀ y ∈ b.xs, -1000000 ≤ y.w ∧ y.w ≤ 1000000
  va : ∀ y ∈ a.xs, ∀ v ∈ y.row, RV v
  re : ∀ y ∈ a.xs, ∀ z ∈ b.xs, RE (y.row ++ z.row).length x ∧ (∀ v ∈ y.row ++ z.row, RV v) ∧ (y.row ++ z.row).length ≤ 8
structure PairFn (we : World) (base F : Nat) (caps : Array Value) (a b : S) (σ : Type) (St : World → σ → List Hit → Prop) (Fr : σ → Nat → Prop) : Prop where
  ent : ∀ args W, Sem.run Try.prog (callFunc F args) W = .ok (.enter F args) W
  grow : ∀ W W' s h, St W s h → Grow W W' → St W' s h
  new : ∀ W s h q, St W s h → W.heap.size ≤ q → Fr s q
  step : ∀ W s h (i k : Nat) (y z : I) (B : Option Addr) (cap : Nat), St W s h → Grow we W → base ≤ W.heap.size → a.xs[i]? = some y → b.xs[k]? = some z → h.length ≤ 200000 → (∃ bs, W.ownsRow bs 24 3 (.slice B (y.row ++ z.row).length cap) (y.row ++ z.row).length (flatW (y.row ++ z.row))) →
    Calls Try.prog F (#[.int .i64 i, .int .i64 k, .slice B (y.row ++ z.row).length cap] ++ caps) W fun en W' => en = .returned (.tuple #[]) ∧ ∃ s', St W' s' (h ++ [(i, y, z)]) ∧ Grow we W' ∧ W.heap.size ≤ W'.heap.size ∧ ∀ q t cs, Blk W q t cs → Fr s q → Blk W' q t cs ∧ Fr s' q
structure PInv (we : World) (base : Nat) {σ : Type} (St : World → σ → List Hit → Prop) (wr : World) (s : σ) (h : List Hit) : Prop where
  st : St wr s h
  grow : Grow we wr
  size : base ≤ wr.heap.size
theorem PInv.up {we : World} {base : Nat} {σ : Type} {St : World → σ → List Hit → Prop} {wr W : World} {s : σ} {h : List Hit} (hg0 : ∀ W W' s h, St W s h → Grow W W' → St W' s h) (p : PInv we base St wr s h) (hg : Grow wr W) : PInv we base St W s h :=
  ⟨hg0 _ _ _ _ p.st hg, p.grow.trans hg, by have := p.size; have := hg.size; omega⟩
end Go.Proofs.Ytpgpecdiajmgmaa

namespace Go.Proofs.Ytpgpecdiajmgmaa
open Go.RowKit Go.Calm
set_option linter.unusedSimpArgs false
set_option linter.unusedVariables false

end Go.Proofs.Ytpgpecdiajmgmaa

namespace Go.Proofs.Ytpgpecdiajmgmaa
open Go.RowKit Go.Calm
set_option linter.unusedSimpArgs false
set_option linter.unusedVariables false

end Go.Proofs.Ytpgpecdiajmgmaa
