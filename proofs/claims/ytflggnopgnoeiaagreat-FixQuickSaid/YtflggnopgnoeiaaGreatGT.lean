/- Parts of a proof. No condition. -/
import Derived.Test.YtflggnopgnoeiaaGreatGS
import Derived.Maps.AppendAt
import Derived.SizedLaws
set_option maxRecDepth 100000
set_option maxHeartbeats 8000000
set_option maxRecDepth 100000
set_option linter.unusedSimpArgs false
set_option linter.unusedVariables false
namespace Go
variable {p : Prop}
theorem oG_ (h : p := by simp [results, Tryz.results167, go_sem] <;> rfl) : p := h
theorem wj_ (h : p := by
 obtain rfl : k = ss.length := by omega
 have own := Own3.out; have hn := Hn.out; rw [List.take_length] at own hn; subst hn
 have hfin : ∃ (B : Option Addr) (cap : Nat), u6 = .slice B (XD ss).length cap := by
  rcases own.2 with ⟨rfl, h0⟩ | ⟨gb, cap, cur, rfl, _⟩
  ·exact ⟨none, 0, by rw [h0]⟩
  ·exact ⟨_, _, rfl⟩
 obtain ⟨B, cap, rfl⟩ := hfin; have Fin := hh_ (P6 own hg.size); clear own; go_wp2; go_ret; exact ⟨B, cap, rfl, Fin.out, hg.trans hg3⟩) : p := h
theorem xv_ (h : p := by
 rcases own.2 with ⟨e, h0⟩ | ⟨g', cap', cur', e, _⟩
 ·exact ⟨none, 0, by rw [h0]; exact e⟩
 ·exact ⟨_, _, e⟩) : p := h
theorem x9_ (h : p := by
 cases xs with
 | nil => rfl
 | cons x l => obtain ⟨g, o, e, _⟩ := h 0 x rfl; cases e) : p := h
theorem yq_ (h : p := by
 exact ⟨fun v w w' hg ⟨g, e, h⟩ => ⟨g, e, h.grow hg⟩, trivial⟩) : p := h
theorem yA_ (h : p := by
 unfold qg; rw [List.range_succ, List.flatMap_append]; simp [JM, h]) : p := h
theorem yS_ (h : p := by
 obtain ⟨s, hsk⟩ : ∃ s, ss[k]? = some s := ⟨_, qQ_ hlt⟩
 obtain ⟨g, o, rfl, c1, hz⟩ := Hs.out k s hsk _ hg; have hm2 : m + s.xs.length = (XD (ss.take (k + 1))).length := by rw [Xg hsk, List.length_append, <- Hm.out]
 have hb := W8 ss (k + 1); rw [<- hm2] at hb; have Hm2 := hh_ hm2; have hwp : IntKind.i64.wrap ((m : Int) + (s.xs.length : Int)) = ((m + s.xs.length : Nat) : Int) := by rw [IntKind.wrap_i64]; omega
 have d0 : decide (((m + s.xs.length : Nat) : Int) < 0) = false := decide_eq_false uX_; clear hm2 hsk hz; go_wp2; go_roundw
 case rel => exact xk_
 case measure => exact u1_) : p := h
end Go
namespace Go.Proofs.YtflggnopgnoeiaaGreat
open Go.RowKit Go.Calm
structure L2 (α : Type) where
 A : Option Addr
 xs : List α
 cap : Nat
def BO {α : Type} (P : World -> Option Addr -> List α -> Prop) (w : World) (A : Option Addr) (ss : List (L2 α)) : Prop := ∀ i s, ss[i]? = some s -> ∃ g o, A = some ⟨g, o, none⟩ /\ w.cell? ⟨g, o + i, none⟩ = some (.slice s.A s.xs.length s.cap) /\ P w s.A s.xs
def XD {α : Type} (ss : List (L2 α)) : List α := ss.flatMap L2.xs
theorem Xg {α : Type} {ss : List (L2 α)} {k : Nat} {s : L2 α} (h : ss[k]? = some s) : XD (ss.take (k + 1)) = XD (ss.take k) ++ s.xs := by
 obtain ⟨h1, e1⟩ := qQ9.1 h; rw [List.take_succ_eq_append_getElem h1, e1]; simp [XD]
theorem W8 {α : Type} (ss : List (L2 α)) (k : Nat) : (XD (ss.take k)).length <= (XD ss).length := by
 have : XD ss = XD (ss.take k) ++ XD (ss.drop k) := by unfold XD; rw [<- List.flatMap_append, List.take_append_drop]
 rw [this, List.length_append]; omega
theorem kT {P : Program} {w : World} (base : Nat) (t ty e : TypeId) (i : TypeInfo) (size : Nat) (ht : P.underlying t = some (.slice e)) (hi : P.info? e = some i)
  (v : Value) (n : Nat) (xs : List Value) (hown : w.ownsRow base e size v n xs) (c : Nat) :
  (Builtin.append_ #[t, t] ty #[v, .slice none 0 c]).run P w = .ok v w := by
 rcases hown.2 with ⟨rfl, rfl⟩ | ⟨g, cap, cur, rfl, _, _, hnc, _⟩
 ·simp [Builtin.append_, run_underlying ht, sizeOf, typeInfo, hi, Builtin.lenOf, Builtin.firstCells]
 ·simp [Builtin.append_, run_underlying ht, sizeOf, typeInfo, hi, Builtin.lenOf, Builtin.firstCells, hnc, storeCells]
theorem qn {P : Program} {w : World} {ops : Array Oper} {rest : List Oper} {o : Oper} {a : Act} {Q : Exit -> Act -> World -> Prop} (hgd : o.guard = none) (s x : Operand) (t : TypeId)
  (ho : o.op = .call { callee := .builtin .append, args := #[s, x], argTypes := #[t, t] })
  (base : Nat) (e : TypeId) (i : TypeInfo) (size : Nat) (ht : P.underlying t = some (.slice e)) (hi : P.info? e = some i)
  (v : Value) (n : Nat) (xs : List Value) (hs : a.eval s = v) (hown : w.ownsRow base e size v n xs) (c : Nat) (hx : a.eval x = .slice none 0 c)
  (h : wpList P ops Q rest (a.put o.dst v) w) : wpList P ops Q (o :: rest) a w := by
 refine wpList_plain hgd fun K hK => ?_
 have hrun := kT (P := P) (w := w) base t o.type e i size ht hi v n xs hown c; unfold Oper.wp; simp [execOp, ho, resolve, invoke, builtin, hs, hx, hrun, Result.andThen]; exact hK _ _ h
theorem LV : ∀ a b : List V, zN (a ++ b) = zN a ++ zN b
 | [], b => rfl
 | x :: a, b => by simp [zN, LV a b]
theorem JI : ∀ (l : List V), ∀ u ∈ zN l, u.oneCell' = true
 | [], u, hu => by simp [zN] at hu
 | x :: l, u, hu => by
  simp only [zN, List.mem_cons] at hu; rcases hu with rfl | rfl | rfl | hu
  ·rfl
  ·rfl
  ·rfl
  ·exact JI l u hu
def yH (l : List Int) : List Value := l.map (Value.int .i64)
theorem QR (a b : List Int) : yH (a ++ b) = yH a ++ yH b := by simp [yH]
theorem U5 (a : List Int) : (yH a).length = a.length * 1 := by simp [yH]
theorem Sn (l : List Int) : ∀ u ∈ yH l, u.oneCell' = true := fun u hu => by
 obtain ⟨x, _, rfl⟩ := List.mem_map.1 hu; rfl
theorem Gm {w : World} {A : Option Addr} {xs : List V} (h : xi w A xs) {ad : Addr} (hA : A = some ad) : ∀ j u, (zN xs)[j]? = some u -> w.cell? (ad.add j) = some u := fun j u hj => by
 have hlt : j < (zN xs).length := (qQ9.1 hj).1; rw [YT] at hlt; have hi : j / 3 < xs.length := by omega
 obtain ⟨x, hx⟩ : ∃ x, xs[j / 3]? = some x := ⟨_, qQ_ hi⟩
 obtain ⟨a, b, c⟩ := Xh _ _ _ hx; obtain ⟨g, o, e, c1, c2, c3⟩ := h _ _ hx; rw [hA] at e; cases e; rw [zQ]; have h3 : j % 3 = 0 \/ j % 3 = 1 \/ j % 3 = 2 := by omega
 rcases h3 with h3 | h3 | h3
 ·rw [show j / 3 * 3 = j by omega] at a; rw [a] at hj; cases hj; rw [show o + j = o + j / 3 * 3 by omega]; exact c1
 ·rw [show j / 3 * 3 + 1 = j by omega] at b; rw [b] at hj; cases hj; rw [show o + j = o + j / 3 * 3 + 1 by omega]; exact c2
 ·rw [show j / 3 * 3 + 2 = j by omega] at c; rw [c] at hj; cases hj; rw [show o + j = o + j / 3 * 3 + 2 by omega]; exact c3
theorem Gl {w : World} {A : Option Addr} {xs : List Int} (h : yU w A xs) {ad : Addr} (hA : A = some ad) : ∀ j u, (yH xs)[j]? = some u -> w.cell? (ad.add j) = some u := fun j u hj => by
 unfold yH at hj; rw [List.getElem?_map] at hj; cases hx : xs[j]? with
 | none => rw [hx] at hj; simp at hj
 | some x =>
  rw [hx] at hj; simp at hj; subst hj; obtain ⟨g, o, e, c1⟩ := h _ _ hx; rw [hA] at e; cases e; rw [zQ]; exact c1
theorem zaJ {w : World} {xs : List V} (h : xi w none xs) : xs = [] := x9_
theorem zaI {w : World} {xs : List Int} (h : yU w none xs) : xs = [] := x9_
theorem P6 {w : World} {b b' n s : Nat} {e : TypeId} {v : Value} {xs : List Value} (h : w.ownsRow b e s v n xs) (hb : b' <= b) : w.ownsRow b' e s v n xs := by
 obtain ⟨h1, h2⟩ := h; refine ⟨h1, ?_⟩; rcases h2 with h2 | ⟨g, cap, cur, a, c, d⟩
 ·exact .inl h2
 ·exact .inr ⟨g, cap, cur, a, by omega, d⟩
def zaV (w : World) (src : Value) (L : List V) : Prop := (∃ c, src = .slice none 0 c /\ L = []) \/ ∃ ad c, src = .slice (some ad) L.length c /\ ∀ j u, (zN L)[j]? = some u -> w.cell? (ad.add j) = some u
theorem T8 {w : World} {A : Option Addr} {xs : List V} {c : Nat} (h : xi w A xs) : zaV w (.slice A xs.length c) xs := by
 cases A with
 | none => have e := zaJ h; subst e; exact .inl ⟨c, rfl, rfl⟩
 | some ad => exact .inr ⟨ad, c, rfl, Gm h rfl⟩
theorem xO {w : World} {ops : Array Oper} {rest : List Oper} {o : Oper} {a : Act} {Q : Exit -> Act -> World -> Prop} (hgd : o.guard = none) (s x : Operand)
  (ho : o.op = .call { callee := .builtin .append, args := #[s, x], argTypes := #[51, 51] })
  (base : Nat) (v : Value) (n : Nat) (xs : List V) (hs : a.eval s = v) (hown : w.ownsRow base 33 3 v n (zN xs)) (src : Value) (L : List V) (hx : a.eval x = src) (hsrc : zaV w src L) (hB : n + L.length <= 1000000) (hbase : base <= w.heap.size)
  (h : ∀ v' w', w'.ownsRow base 33 3 v' (n + L.length) (zN (xs ++ L)) -> w.grownBy w' v.ownBlock -> wpList Tryz.prog ops Q rest (a.put o.dst v') w') : wpList Tryz.prog ops Q (o :: rest) a w := by
 obtain ⟨ti, hti, hz0, hz1, hz2⟩ := XH; rcases hsrc with ⟨c, rfl, rfl⟩ | ⟨ad, c, rfl, hc⟩
 ·refine qn hgd s x _ ho base 33 ti 3 Tryz.underlying51 hti v n (zN xs) hs hown c hx ?_; exact h v w uq_ ⟨rfl, rfl, rfl, Nat.le_refl _, fun _ _ _ => rfl⟩
 ·refine wpList_append_own _ hgd s x _ ho base 33 ti (.agg #[.int .i64 0, .int .i64 0, .string ⟨#[]⟩]) 3 32 Tryz.underlying51 hti hz0 hz1 hz2 rfl uW_ v n (zN xs) hs hown ad L.length c (zN L) hx (by rw [YT]) hc (JI _) uh_ uX_ hbase ?_; intro v' w' h1 h2 _; exact h v' w' (by rw [LV]; exact h1) h2
theorem Ve (n : Nat) (w : World) (hn : n <= 100000) :
  Calls Tryz.prog 220 #[.slice none 0 0, .int .i64 n] w fun e w' => ∃ v, e = .returned v /\ w'.ownsRow w.heap.size 33 3 v 0 (zN []) /\ za w w' := by
 obtain ⟨ti, hti, hz0, hz1, hz2⟩ := XH; go_enter Tryz.func220, Tryz.ntmps220
 by_cases h0 : n = 0
 ·exact xh_
 ·have hpos : decide ((0 : Int) < (n : Int)) = true := decide_eq_true uX_; have hwp : IntKind.i64.wrap (n : Int) = (n : Int) := by rw [IntKind.wrap_i64]; omega
  have hrz := fun ty => Lib.run_append_nil_zeros w 51 3 ty 33 ti _ .i64 .i64 Tryz.underlying51 Tryz.underlying3 hti hz0 n uX_ uX_ uX_ ut_
  have hge : n <= grownCap w n 0 33 := grownCap_ge w n 0 _; have hmx := grownCap_le_maxLen w n 0 33 uh_; obtain ⟨G, hG⟩ : ∃ G, grownCap w n 0 33 = G := ⟨_, rfl⟩
  rw [hG] at hrz hge hmx; have HM := hh_ hmx; have hG63 : G <= 9223372036854775807 := by unfold maxLen at hmx; omega
  clear hG hmx
  go_wp2_with (at_builtin; refine Lib.wpList_append_run _ rfl _ _ _ _ rfl _ _ rfl rfl _ _ (hrz _) ?_)
  go_ret; refine ⟨_, rfl, World.ownsRow_made w.drew _ G (Nat.le_refl _) HM.out ?_, (za.refl w).drew.al _⟩; simp [size_zeroCells, Value.cells]
  try omega
theorem Pt (ss : List (L2 V)) (A : Option Addr) (c : Nat) (w : World) (hlen : ss.length <= 1000) (hs : BO xi w A ss) (hsum : (XD ss).length <= 10000) :
  Calls Tryz.prog 216 #[.slice A ss.length c] w fun en w' => ∃ (B : Option Addr) (cap : Nat), en = .returned (.slice B (XD ss).length cap) /\ w'.ownsRow w.heap.size 33 3 (.slice B (XD ss).length cap) (XD ss).length (zN (XD ss)) /\ za w w' := by
 have Hs := hh_ (fun i s (h : ss[i]? = some s) W (hg : za w W) => (by obtain ⟨g, o, a, b, c⟩ := hs i s h; exact ⟨g, o, a, hg.cell b, xi.grow c hg⟩ : ∃ g o, A = some ⟨g, o, none⟩ /\ W.cell? ⟨g, o + i, none⟩ = some (.slice s.A s.xs.length s.cap) /\ xi W s.A s.xs)); clear hs; go_enter Tryz.func216, Tryz.ntmps216; go_wp2
 go_loopw [3, 11] (fun n i wr => ∃ (k m : Nat), k <= ss.length /\ i = .int .i64 k /\ n = .int .i64 m /\ m = (XD (ss.take k)).length /\ za w wr) (fun _ i _ => ss.length - (intOf i).toNat)
 case atStart => exact xN_
 case round =>
  rename World => wa
  obtain ⟨k, m, hk, rfl, rfl, hm, hg⟩ := hrel; have Hm := hh_ hm; clear hm
  by_cases hlt : k < ss.length
  ·exact yS_
  ·obtain rfl : k = ss.length := by omega
   have hm2 : m <= 10000 := by rw [Hm.out, List.take_length]; exact hsum
   have cg := fun W => Ve m W uX_
   go_upto_region 10 with (go_at_call 220; ((with_reducible refine (cg _).mono ?_); rintro en w2 ⟨v, rfl, hown, hg2⟩; have Own := hh_ hown; clear hown)); have G2 := hg.trans hg2; go_wp2
   go_loopw [6, 27] (fun t i wq => ∃ (k n : Nat), k <= ss.length /\ i = .int .i64 k /\ n = (XD (ss.take k)).length /\ wq.ownsRow wa.heap.size 33 3 t n (zN (XD (ss.take k))) /\ za wa wq) (fun _ i _ => ss.length - (intOf i).toNat)
   case atStart => exact xS_
   case round =>
    obtain ⟨k, n, hk, rfl, hn, hown, hg3⟩ := hrel; have Own3 := hh_ hown; have Hn := hh_ hn; clear hown hn
    by_cases hlt : k < ss.length
    ·obtain ⟨s, hsk⟩ : ∃ s, ss[k]? = some s := ⟨_, qQ_ hlt⟩
     obtain ⟨g, o, rfl, c1, hz⟩ := Hs.out k s hsk _ (hg.trans hg3); have src := hh_ (T8 (c := s.cap) hz); have hn2 : n + s.xs.length = (XD (ss.take (k + 1))).length := by rw [Xg hsk, List.length_append, <- Hn.out]
     have hfl := hh_ (Xg hsk); have hb := W8 ss (k + 1); rw [<- hn2] at hb; have Hn2 := hh_ hn2; clear hn2 hsk hz
     go_wp2_with (at_builtin; refine xO rfl _ _ rfl wa.heap.size _ n (XD (ss.take k)) rfl Own3.out _ s.xs rfl src.out uX_ hg3.size ?_; intro v' w7 hown' hgrow)
     have hg7 : za wa w7 := zy hg3 hgrow Own3.out; have Own7 := hh_ hown'; clear hgrow hown'; go_wp2; go_roundw
     case rel => exact wY_
     case measure => exact u1_
    ·exact wj_
theorem Pu (x y : L2 V) (g : Nat) (t : TypeId) (w : World) (h : zb w g t #[.slice x.A x.xs.length x.cap, .slice y.A y.xs.length y.cap]) (hx : xi w x.A x.xs) (hy : xi w y.A y.xs) (hl : x.xs.length + y.xs.length <= 10000) :
  Calls Tryz.prog 216 #[.slice (some ⟨g, 0, none⟩) 2 2] w fun en w' => ∃ (B : Option Addr) (cap : Nat), en = .returned (.slice B (x.xs ++ y.xs).length cap) /\ w'.ownsRow w.heap.size 33 3 (.slice B (x.xs ++ y.xs).length cap) (x.xs ++ y.xs).length (zN (x.xs ++ y.xs)) /\ za w w' := by
 have := Pt [x, y] (some ⟨g, 0, none⟩) 2 w uY_ (fun i s hs => by
  match i, hs with
  | 0, hs => simp at hs; subst hs; exact ⟨g, 0, rfl, by rw [h.cell]; rfl, hx⟩
  | 1, hs => simp at hs; subst hs; exact ⟨g, 0, rfl, by rw [h.cell]; rfl, hy⟩) (by simp [XD]; omega)
 have e : XD [x, y] = x.xs ++ y.xs := by simp [XD]
 rw [e] at this; exact this
def zaU (w : World) (src : Value) (L : List Int) : Prop := (∃ c, src = .slice none 0 c /\ L = []) \/ ∃ ad c, src = .slice (some ad) L.length c /\ ∀ j u, (yH L)[j]? = some u -> w.cell? (ad.add j) = some u
theorem XQ {w : World} {A : Option Addr} {xs : List Int} {c : Nat} (h : yU w A xs) : zaU w (.slice A xs.length c) xs := by
 cases A with
 | none => have e := zaI h; subst e; exact .inl ⟨c, rfl, rfl⟩
 | some ad => exact .inr ⟨ad, c, rfl, Gl h rfl⟩
theorem zm {w : World} {ops : Array Oper} {rest : List Oper} {o : Oper} {a : Act} {Q : Exit -> Act -> World -> Prop} (hgd : o.guard = none) (s x : Operand)
  (ho : o.op = .call { callee := .builtin .append, args := #[s, x], argTypes := #[22, 22] })
  (base : Nat) (v : Value) (n : Nat) (xs : List Int) (hs : a.eval s = v) (hown : w.ownsRow base 3 1 v n (yH xs)) (src : Value) (L : List Int) (hx : a.eval x = src) (hsrc : zaU w src L) (hB : n + L.length <= 1000000) (hbase : base <= w.heap.size)
  (h : ∀ v' w', w'.ownsRow base 3 1 v' (n + L.length) (yH (xs ++ L)) -> w.grownBy w' v.ownBlock -> wpList Tryz.prog ops Q rest (a.put o.dst v') w') : wpList Tryz.prog ops Q (o :: rest) a w := by
 obtain ⟨ti, hti, hz0, hz1, hz2⟩ := qV; rcases hsrc with ⟨c, rfl, rfl⟩ | ⟨ad, c, rfl, hc⟩
 ·refine qn hgd s x _ ho base 3 ti 1 Tryz.underlying22 hti v n (yH xs) hs hown c hx ?_; exact h v w uq_ ⟨rfl, rfl, rfl, Nat.le_refl _, fun _ _ _ => rfl⟩
 ·refine wpList_append_own _ hgd s x _ ho base 3 ti (.int .i64 0) 1 8 Tryz.underlying22 hti hz0 hz1 hz2 rfl uW_ v n (yH xs) hs hown ad L.length c (yH L) hx (by rw [U5]) hc (Sn _) uh_ uX_ hbase ?_; intro v' w' h1 h2 _; exact h v' w' (by rw [QR]; exact h1) h2
theorem Vd (n : Nat) (w : World) (hn : n <= 100000) :
  Calls Tryz.prog 190 #[.slice none 0 0, .int .i64 n] w fun e w' => ∃ v, e = .returned v /\ w'.ownsRow w.heap.size 3 1 v 0 (yH []) /\ za w w' := by
 obtain ⟨ti, hti, hz0, hz1, hz2⟩ := qV; go_enter Tryz.func190, Tryz.ntmps190
 by_cases h0 : n = 0
 ·exact xh_
 ·have hpos : decide ((0 : Int) < (n : Int)) = true := decide_eq_true uX_; have hwp : IntKind.i64.wrap (n : Int) = (n : Int) := by rw [IntKind.wrap_i64]; omega
  have hrz := fun ty => Lib.run_append_nil_zeros w 22 3 ty 3 ti _ .i64 .i64 Tryz.underlying22 Tryz.underlying3 hti hz0 n uX_ uX_ uX_ ut_
  have hge : n <= grownCap w n 0 3 := grownCap_ge w n 0 _; have hmx := grownCap_le_maxLen w n 0 3 uh_; obtain ⟨G, hG⟩ : ∃ G, grownCap w n 0 3 = G := ⟨_, rfl⟩
  rw [hG] at hrz hge hmx; have HM := hh_ hmx; have hG63 : G <= 9223372036854775807 := by unfold maxLen at hmx; omega
  clear hG hmx
  go_wp2_with (at_builtin; refine Lib.wpList_append_run _ rfl _ _ _ _ rfl _ _ rfl rfl _ _ (hrz _) ?_)
  go_ret; refine ⟨_, rfl, World.ownsRow_made w.drew _ G (Nat.le_refl _) HM.out ?_, (za.refl w).drew.al _⟩; simp [size_zeroCells, Value.cells]
  try omega
theorem Ps (ss : List (L2 Int)) (A : Option Addr) (c : Nat) (w : World) (hlen : ss.length <= 1000) (hs : BO yU w A ss) (hsum : (XD ss).length <= 10000) :
  Calls Tryz.prog 164 #[.slice A ss.length c] w fun en w' => ∃ (B : Option Addr) (cap : Nat), en = .returned (.slice B (XD ss).length cap) /\ w'.ownsRow w.heap.size 3 1 (.slice B (XD ss).length cap) (XD ss).length (yH (XD ss)) /\ za w w' := by
 have Hs := hh_ (fun i s (h : ss[i]? = some s) W (hg : za w W) => (by obtain ⟨g, o, a, b, c⟩ := hs i s h; exact ⟨g, o, a, hg.cell b, yU.grow c hg⟩ : ∃ g o, A = some ⟨g, o, none⟩ /\ W.cell? ⟨g, o + i, none⟩ = some (.slice s.A s.xs.length s.cap) /\ yU W s.A s.xs)); clear hs; go_enter Tryz.func164, Tryz.ntmps164; go_wp2
 go_loopw [3, 11] (fun n i wr => ∃ (k m : Nat), k <= ss.length /\ i = .int .i64 k /\ n = .int .i64 m /\ m = (XD (ss.take k)).length /\ za w wr) (fun _ i _ => ss.length - (intOf i).toNat)
 case atStart => exact xN_
 case round =>
  rename World => wa
  obtain ⟨k, m, hk, rfl, rfl, hm, hg⟩ := hrel; have Hm := hh_ hm; clear hm
  by_cases hlt : k < ss.length
  ·exact yS_
  ·obtain rfl : k = ss.length := by omega
   have hm2 : m <= 10000 := by rw [Hm.out, List.take_length]; exact hsum
   have cg := fun W => Vd m W uX_
   go_upto_region 10 with (go_at_call 190; ((with_reducible refine (cg _).mono ?_); rintro en w2 ⟨v, rfl, hown, hg2⟩; have Own := hh_ hown; clear hown)); have G2 := hg.trans hg2; go_wp2
   go_loopw [6, 27] (fun t i wq => ∃ (k n : Nat), k <= ss.length /\ i = .int .i64 k /\ n = (XD (ss.take k)).length /\ wq.ownsRow wa.heap.size 3 1 t n (yH (XD (ss.take k))) /\ za wa wq) (fun _ i _ => ss.length - (intOf i).toNat)
   case atStart => exact xS_
   case round =>
    obtain ⟨k, n, hk, rfl, hn, hown, hg3⟩ := hrel; have Own3 := hh_ hown; have Hn := hh_ hn; clear hown hn
    by_cases hlt : k < ss.length
    ·obtain ⟨s, hsk⟩ : ∃ s, ss[k]? = some s := ⟨_, qQ_ hlt⟩
     obtain ⟨g, o, rfl, c1, hz⟩ := Hs.out k s hsk _ (hg.trans hg3); have src := hh_ (XQ (c := s.cap) hz); have hn2 : n + s.xs.length = (XD (ss.take (k + 1))).length := by rw [Xg hsk, List.length_append, <- Hn.out]
     have hfl := hh_ (Xg hsk); have hb := W8 ss (k + 1); rw [<- hn2] at hb; have Hn2 := hh_ hn2; clear hn2 hsk hz
     go_wp2_with (at_builtin; refine zm rfl _ _ rfl wa.heap.size _ n (XD (ss.take k)) rfl Own3.out _ s.xs rfl src.out uX_ hg3.size ?_; intro v' w7 hown' hgrow)
     have hg7 : za wa w7 := zy hg3 hgrow Own3.out; have Own7 := hh_ hown'; clear hgrow hown'; go_wp2; go_roundw
     case rel => exact wY_
     case measure => exact u1_
    ·exact wj_
theorem Yg (x y : L2 Int) (g : Nat) (t : TypeId) (w : World) (h : zb w g t #[.slice x.A x.xs.length x.cap, .slice y.A y.xs.length y.cap]) (hx : yU w x.A x.xs) (hy : yU w y.A y.xs) (hl : x.xs.length + y.xs.length <= 10000) :
  Calls Tryz.prog 164 #[.slice (some ⟨g, 0, none⟩) 2 2] w fun en w' => ∃ (B : Option Addr) (cap : Nat), en = .returned (.slice B (x.xs ++ y.xs).length cap) /\ w'.ownsRow w.heap.size 3 1 (.slice B (x.xs ++ y.xs).length cap) (x.xs ++ y.xs).length (yH (x.xs ++ y.xs)) /\ za w w' := by
 have := Ps [x, y] (some ⟨g, 0, none⟩) 2 w uY_ (fun i s hs => by
  match i, hs with
  | 0, hs => simp at hs; subst hs; exact ⟨g, 0, rfl, by rw [h.cell]; rfl, hx⟩
  | 1, hs => simp at hs; subst hs; exact ⟨g, 0, rfl, by rw [h.cell]; rfl, hy⟩) (by simp [XD]; omega)
 have e : XD [x, y] = x.xs ++ y.xs := by simp [XD]
 rw [e] at this; exact this
def qv (l r : List Int) (x : E) (a b : List Z) : Int := if 8 < l.length + r.length then 5 else RT [yG (l ++ r) x, zo l a, zo r b]
theorem P4 : ∀ {xs : List Int}, RT xs = 0 -> ∀ x ∈ xs, x = 0
 | [], _, x, hx => by simp at hx
 | y :: l, h, x, hx => by
  unfold RT at h; split at h
  ·exact wX_
  ·rename_i h1; rcases List.mem_cons.1 hx with rfl | hx
   ·simpa using h1
   ·exact P4 h x hx
theorem xZ {l r : List Int} {x : E} {a b : List Z} (h : qv l r x a b = 0) : l.length + r.length <= 8 /\ yG (l ++ r) x = 0 /\ zo l a = 0 /\ zo r b = 0 := by
 unfold qv at h; split at h
 ·simp at h
 ·have := P4 h; exact ⟨by omega, this _ uY_, this _ uY_, this _ uY_⟩
theorem qI {w : World} {base n cap : Nat} {B : Option Addr} {ys : List Int} (h : w.ownsRow base 3 1 (.slice B n cap) n (yH ys)) (hn : n = ys.length) : yU w B ys := by
 obtain ⟨B', c', e, hv, _⟩ := Y5 h; simp at e; rw [e.1]; exact hv
def P2 (l r : L2 Int) (v : Value) (W : World) : Prop := ∃ g, v = .slice (some ⟨g, 0, none⟩) 2 2 /\ zb W g 22 #[.slice l.A l.xs.length l.cap, .slice r.A r.xs.length r.cap]
def PC (lr : List Int) (v : Value) (W : World) : Prop := ∃ (B : Option Addr) (cap : Nat), v = .slice B lr.length cap /\ yU W B lr
def P3 (a b c : Int) (v : Value) (W : World) : Prop := ∃ g, v = .slice (some ⟨g, 0, none⟩) 3 3 /\ zb W g 26 #[.int .i64 a, .int .i64 b, .int .i64 c]
theorem Pp (a b c : Int) (g : Nat) (w : World) (t : TypeId) (hb : zb w g t #[.int .i64 a, .int .i64 b, .int .i64 c]) :
  Calls Tryz.prog 191 #[.slice (some ⟨g, 0, none⟩) 3 3] w fun en w' => en = .returned (.int .i64 (RT [a, b, c])) /\ za w w' :=
 Lv [a, b, c] (some ⟨g, 0, none⟩) 3 w uY_ (fun i x hx => by
  match i, hx with
  | 0, hx => simp at hx; subst hx; exact ⟨g, 0, rfl, by rw [hb.cell]; rfl⟩
  | 1, hx => simp at hx; subst hx; exact ⟨g, 0, rfl, by rw [hb.cell]; rfl⟩
  | 2, hx => simp at hx; subst hx; exact ⟨g, 0, rfl, by rw [hb.cell]; rfl⟩)
theorem Je (l r : L2 Int) (x : E) (a b : S) (w : World) (hll : l.xs.length <= 140737488355328) (hlr : r.xs.length <= 140737488355328) (hl : yU w l.A l.xs) (hr : yU w r.A r.xs) (hE : EX w x) (ha : In w a) (hb : In w b) :
  Calls Tryz.prog 193 #[.slice l.A l.xs.length l.cap, .slice r.A r.xs.length r.cap, x.val, .slice a.A a.xs.length a.cap, .slice b.A b.xs.length b.cap] w fun en w' => en = .returned (.int .i64 (qv l.xs r.xs x a.z b.z)) /\ za w w' := by
 have HL := hh_ hl; have HR := hh_ hr; have HX := hh_ hE; have Ha := hh_ ha; have Hb := hh_ hb; have hlen3 : (l.xs ++ r.xs).length <= 9223372036854775807 := by simp; omega
 obtain ⟨LR, hLR⟩ : ∃ LR, l.xs ++ r.xs = LR := ⟨_, rfl⟩
 have cc := hh_ (fun (g : Nat) W (h1 : zb W g 22 #[.slice l.A l.xs.length l.cap, .slice r.A r.xs.length r.cap]) (hg : za w W) (h8 : l.xs.length + r.xs.length <= 10000) => by have := Yg l r g _ W h1 (HL.out.grow hg) (HR.out.grow hg) h8; rw [hLR] at this; exact this); rw [hLR] at hlen3; have ct0 := fun (B : Option Addr) (cap : Nat) W (hg : za w W) (h : yU W B LR) => Pv LR B cap x W hlen3 h (HX.out.grow hg)
 have c1 := fun W (hg : za w W) => jw l.xs l.A l.cap a.xs a.A a.cap W uX_ (HL.out.grow hg) (Ha.out.grow hg)
 have c2 := fun W (hg : za w W) => jw r.xs r.A r.cap b.xs b.A b.cap W uX_ (HR.out.grow hg) (Hb.out.grow hg)
 obtain ⟨CE, hCE⟩ : ∃ CE, yG LR x = CE := ⟨_, rfl⟩
 obtain ⟨I1, hI1⟩ : ∃ I1, zo l.xs a.z = I1 := ⟨_, rfl⟩
 obtain ⟨I2, hI2⟩ : ∃ I2, zo r.xs b.z = I2 := ⟨_, rfl⟩
 rw [show a.xs.map zh = a.z from rfl, hI1] at c1; rw [show b.xs.map zh = b.z from rfl, hI2] at c2; rw [hCE] at ct0; unfold E.val at ct0; have ct := hh_ ct0; obtain ⟨R, hR⟩ : ∃ R, qv l.xs r.xs x a.z b.z = R := ⟨_, rfl⟩
 have fin : R = if 8 < l.xs.length + r.xs.length then 5 else RT [CE, I1, I2] := by rw [<- hR, <- hCE, <- hI1, <- hI2, <- hLR]; rfl
 rw [hR]; have Fin := hh_ fin; clear hLR hlen3 ct0 hl hr hE ha hb hCE hI1 hI2 hR fin; unfold E.val; go_enter Tryz.func193, Tryz.ntmps193; go_upto_region 1 with fail
 refine zc (fun X => zb X w.heap.size 35 #[.int .i64 x.kind, .int .i64 x.v.k, .int .i64 x.v.n, .string x.v.s, .int .i64 x.col, .slice x.A x.n x.cap] /\ za w X) ⟨zb.new _ _ _, (za.refl w).al _⟩ ?_; rintro X ⟨Bx, G⟩; have hwp : IntKind.i64.wrap ((l.xs.length : Int) + (r.xs.length : Int)) = ((l.xs.length + r.xs.length : Nat) : Int) := by rw [IntKind.wrap_i64]; omega
 by_cases h8 : 8 < l.xs.length + r.xs.length
 ·have d8 : decide ((8 : Int) < ((l.xs.length + r.xs.length : Nat) : Int)) = true := decide_eq_true uX_; go_wp2; go_ret; exact zk (by rw [Fin.out, if_pos h8]) G
 ·have d8 : decide ((8 : Int) < ((l.xs.length + r.xs.length : Nat) : Int)) = false := decide_eq_false uX_; have eR : R = RT [CE, I1, I2] := by rw [Fin.out, if_neg h8]
  subst eR; go_upto_region 3 with fail
  clear hwp d8; apply wp_region_calm 15 uQ_ uQ_
  case h' =>
   intro Q0 hQ0; simp only [List.take_succ_cons, List.take_zero]
   repeat ((first | ((first | apply calm_p rfl | apply zu rfl rfl rfl); case h1 => (intro w1 hw1 hF K hK; obtain ⟨bx, fx⟩ := (Bx.grow hw1).rules; go_simp; first | exact hK _ (za.refl _))) | apply zw rfl rfl rfl rfl); intro K hK; go_simp; apply hK; clear hK K)
   apply calm_fp (P2 l r) rfl
   case h1 => exact wa_
   intro v19 K hK; go_simp; apply hK; clear hK K; apply calm_fp (PC LR) rfl
   case h1 =>
    intro w1 hw1 hF K hK; obtain ⟨g, hv, h1⟩ := hF _ (List.mem_cons_self ..) ⟨_, rfl, by decide⟩; subst hv; go_simp
    go_at_call 164
    refine (cc.out g w1 h1 (G.trans hw1) uX_).mono ?_; rintro en w' ⟨B, cap, rfl, ho, hg'⟩; exact ⟨_, rfl, hK _ _ hg' ⟨B, cap, rfl, qI ho rfl⟩⟩
   intro v20 K hK; go_simp; apply hK; clear hK K
   repeat ((first | ((first | apply calm_p rfl | apply zu rfl rfl rfl); case h1 => (intro w1 hw1 hF K hK; obtain ⟨bx, fx⟩ := (Bx.grow hw1).rules; go_simp; first | exact hK _ (za.refl _))) | apply zw rfl rfl rfl rfl); intro K hK; go_simp; apply hK; clear hK K)
   apply calm_p rfl
   case h1 =>
    intro w1 hw1 hF K hK; obtain ⟨B, cap, hv, h1⟩ := hF _ (List.mem_cons_self ..) ⟨_, rfl, by decide⟩; subst hv; go_simp
    go_at_call 192
    with_reducible refine (ct.out B cap w1 (G.trans hw1) h1).mono ?_
    rintro en w' ⟨rfl, hg'⟩; exact ⟨_, rfl, hK _ hg'⟩
   intro K hK; go_simp; apply hK; clear hK K
   repeat ((first | ((first | apply calm_p rfl | apply zu rfl rfl rfl); case h1 => (intro w1 hw1 hF K hK; obtain ⟨bx, fx⟩ := (Bx.grow hw1).rules; go_simp; first | exact hK _ (za.refl _) | (go_at_call 23; ((with_reducible refine (c1 _ (G.trans hw1)).mono ?_); rintro e w' ⟨rfl, hg⟩; exact ⟨_, rfl, hK _ hg⟩)) | (go_at_call 23; ((with_reducible refine (c2 _ (G.trans hw1)).mono ?_); rintro e w' ⟨rfl, hg⟩; exact ⟨_, rfl, hK _ hg⟩)))) | apply zw rfl rfl rfl rfl); intro K hK; go_simp; apply hK; clear hK K)
   apply calm_fp (P3 CE I1 I2) rfl
   case h1 => exact wa_
   intro v29 K hK; go_simp; apply hK; clear hK K; apply calm_p rfl
   case h1 =>
    intro w1 hw1 hF K hK; obtain ⟨g, hv, h1⟩ := hF _ (List.mem_cons_self ..) ⟨_, rfl, by decide⟩; subst hv; go_simp
    go_at_call 191
    refine (Pp CE I1 I2 g w1 _ h1).mono ?_; rintro en w' ⟨rfl, hg'⟩; exact ⟨_, rfl, hK _ hg'⟩
   intro K hK; go_simp; apply hK; clear hK K
   repeat ((first | ((first | apply calm_p rfl | apply zu rfl rfl rfl); case h1 => (intro w1 hw1 hF K hK; obtain ⟨bx, fx⟩ := (Bx.grow hw1).rules; go_simp; first | exact hK _ (za.refl _))) | apply zw rfl rfl rfl rfl); intro K hK; go_simp; apply hK; clear hK K)
   refine calm_nil ?_; intro w1 hw1 hF; apply hQ0; clear hQ0; simp only [List.drop_succ_cons, List.drop_zero]; clear hF; go_wp2; go_ret; exact zk rfl (G.trans hw1)
  case hp' => exact ⟨fun v w w' hg ⟨g, e, h⟩ => ⟨g, e, h.grow hg⟩, fun v w w' hg ⟨B, c, e, h⟩ => ⟨B, c, e, h.grow hg⟩, fun v w w' hg ⟨g, e, h⟩ => ⟨g, e, h.grow hg⟩, trivial⟩
theorem Xv {w : World} {ops : Array Oper} {rest : List Oper} {o : Oper} {a : Act} {Q : Exit -> Act -> World -> Prop} (hgd : o.guard = none) (s x : Operand)
  (ho : o.op = .call { callee := .builtin .append, args := #[s, x], argTypes := #[25, 25] })
  (base : Nat) (v : Value) (n : Nat) (xs : List I) (hs : a.eval s = v) (hown : w.ownsRow base 53 2 v n (zr xs)) (g : Nat) (y : I) (hx : a.eval x = .slice (some ⟨g, 0, none⟩) 1 1) (hb : zb w g 53 #[.slice y.A y.row.length y.cap, .int .i64 y.w]) (hB : n + 1 <= 1000000) (hbase : base <= w.heap.size)
  (h : ∀ v' w', w'.ownsRow base 53 2 v' (n + 1) (zr (xs ++ [y])) -> w.grownBy w' v.ownBlock -> (v'.ownBlock = v.ownBlock \/ v'.ownBlock = some w.heap.size) -> wpList Tryz.prog ops Q rest (a.put o.dst v') w') : wpList Tryz.prog ops Q (o :: rest) a w := by
 obtain ⟨ti, hti, hz0, hz1, hz2⟩ := qO; refine wpList_append_own_at _ hgd s x _ ho base 53 ti (.agg #[.slice none 0 0, .int .i64 0]) 2 32 Tryz.underlying25 hti hz0 hz1 hz2 rfl uW_ v n (zr xs) hs hown ⟨g, 0, none⟩ 1 1 (zr [y]) hx (by rw [xv]; rfl) (fun j u hj => ?_) (YS _) uh_ uX_ hbase ?_
 ·rw [zQ, hb.cell]
  match j, hj with
  | 0, hj => simp [zr] at hj; subst hj; rfl
  | 1, hj => simp [zr] at hj; subst hj; rfl
 ·intro v' w' h1 h2 _ h4; exact h v' w' (by rw [xM]; exact h1) h2 h4
theorem zb.by {w w' : World} {q : Nat} {t : TypeId} {cs : Array Value} {row : Option Nat} (h : zb w q t cs) (hg : w.grownBy w' row) (hne : some q ≠ row) : zb w' q t cs := by
 unfold zb at h ⊢; rw [hg.block q (zb.lt h) hne]; exact h
theorem jM.other {w w' : World} {y : I} {g : Nat} {t : TypeId} {cs : Array Value} (h : jM w y) (hb : zb w g t cs) (ht : t ≠ 33) (hg : w.grownBy w' (some g)) : jM w' y := by
 obtain ⟨base, h⟩ := h; refine ⟨base, World.ownsRow.kept h hg ?_⟩; rcases h.2 with ⟨e, _⟩ | ⟨g', cap, cur, e, hB, hgb, _⟩
 ·rw [e]; exact .inl rfl
 ·right; rw [e]; intro e2; simp [Value.ownBlock] at e2; subst e2; unfold zb at hb; rw [hb] at hgb; simp at hgb; exact ht hgb.2
theorem Du {w : World} {g : Nat} (hlt : g < w.heap.size) (u : Value) : w.grownBy (w.setCell ⟨g, 0, none⟩ u) (some g) := by
 have h := (GX.refl g w).set 0 u; exact h
structure JSt (base go ga gb : Nat) (a b : S) (W : World) (v : Value) (out : List I) : Prop where
 bo : zb W go 25 #[v]
 ba : zb W ga 25 #[.slice a.A a.xs.length a.cap]
 bb : zb W gb 25 #[.slice b.A b.xs.length b.cap]
 own : W.ownsRow base 53 2 v out.length (zr out)
 rows : ∀ u ∈ out, jM W u
theorem JSt.grow {base go ga gb : Nat} {a b : S} {W W' : World} {v : Value} {out : List I} (h : JSt base go ga gb a b W v out) (hg : za W W') : JSt base go ga gb a b W' v out :=
 ⟨h.bo.grow hg, h.ba.grow hg, h.bb.grow hg, zi h.own hg, fun u hu => (h.rows u hu).grow hg⟩
structure zbW (we w w' : World) (go : Nat) (v v' : Value) : Prop where
 grow : za we w -> za we w'
 size : w.heap.size <= w'.heap.size
 blk : ∀ q t cs, zb w q t cs -> q ≠ go -> some q ≠ v.ownBlock -> zb w' q t cs
 own : v'.ownBlock = v.ownBlock \/ ∃ g', v'.ownBlock = some g' /\ w.heap.size <= g'
theorem jh {w : World} {base n s : Nat} {e : TypeId} {v : Value} {xs : List Value} (h : w.ownsRow base e s v n xs) {q : Nat} (hq : q < base) : some q ≠ v.ownBlock := by
 rcases h.2 with ⟨rfl, _⟩ | ⟨g, cap, cur, rfl, hB, _⟩
 ·simp [Value.ownBlock]
 ·simp [Value.ownBlock]; omega
def PN (m : Int) (r : L2 V) (v : Value) (W : World) : Prop := ∃ g, v = .slice (some ⟨g, 0, none⟩) 1 1 /\ zb W g 53 #[.slice r.A r.xs.length r.cap, .int .i64 m]
theorem Vk (we w : World) (base go ga gb : Nat) (a b : S) (v : Value) (out : List I) (i k : Nat) (y z : I) (r : L2 V) (hJ : JSt base go ga gb a b w v out) (hge : za we w) (hba : we.heap.size <= base) (hbw : base <= w.heap.size) (hgo : we.heap.size <= go) (hgb : go < base) (hga : ga < base) (hgb2 : gb < base) (hne1 : ga ≠ go) (hne2 : gb ≠ go)
  (ha : xe we a.A a.xs) (hb : xe we b.A b.xs) (hy : a.xs[i]? = some y) (hz : b.xs[k]? = some z) (hla : a.xs.length <= 400) (hlb : b.xs.length <= 400) (hwy : -1000000 <= y.w /\ y.w <= 1000000) (hwz : -1000000 <= z.w /\ z.w <= 1000000) (hout : out.length <= 200000) (hr : ∃ bs, w.ownsRow bs 33 3 (.slice r.A r.xs.length r.cap) r.xs.length (zN r.xs)) :
  Calls Tryz.prog 209 #[.int .i64 i, .int .i64 k, .slice r.A r.xs.length r.cap, .pointer (some ⟨go, 0, none⟩), .pointer (some ⟨ga, 0, none⟩), .pointer (some ⟨gb, 0, none⟩)] w fun en w' => en = .returned (.tuple #[]) /\ ∃ v', JSt base go ga gb a b w' v' (out ++ [I.mk r.A r.xs r.cap (y.w * z.w)]) /\ zbW we w w' go v v' := by
 obtain ⟨A0, n0, c0, rfl⟩ : ∃ A0 n0 c0, v = .slice A0 n0 c0 := by
  rcases hJ.own.2 with ⟨e, _⟩ | ⟨g', cap', cur', e, _⟩
  ·exact ⟨_, _, _, e⟩
  ·exact ⟨_, _, _, e⟩
 have HJ := hh_ hJ; have HR := hh_ hr; have hi : i < a.xs.length := (qQ9.1 hy).1; have hk : k < b.xs.length := (qQ9.1 hz).1; obtain ⟨g1, o1, eA, _, cy, _⟩ := (ha.grow hge) i y hy; obtain ⟨g2, o2, eB, _, cz, _⟩ := (hb.grow hge) k z hz
 have hmul : -1000000000000 <= y.w * z.w /\ y.w * z.w <= 1000000000000 := by
  obtain ⟨h1, h2⟩ := hwy; obtain ⟨h3, h4⟩ := hwz; have ha : (y.w).natAbs <= 1000000 := by omega
  have hb : (z.w).natAbs <= 1000000 := by omega
  have : (y.w * z.w).natAbs <= 1000000 * 1000000 := by rw [Int.natAbs_mul]; exact Nat.mul_le_mul ha hb
  omega
 have hwp : IntKind.i64.wrap (y.w * z.w) = y.w * z.w := by rw [IntKind.wrap_i64]; omega
 obtain ⟨Aa, as1, ca⟩ := a; obtain ⟨Ab, bs1, cb⟩ := b; simp only at eA eB hi hk hla hlb; subst eA eB; obtain ⟨m, hm⟩ : ∃ m, y.w * z.w = m := ⟨_, rfl⟩
 rw [hm] at hwp; have HM := hh_ hm; have mul : IntKind.i64.wrap (y.w * z.w) = m := by rw [hm]; exact hwp
 have C := hh_ (And.intro cy cz); have d1 : decide ((i : Int) < (as1.length : Int)) = true := decide_eq_true uX_; have d2 : decide ((k : Int) < (bs1.length : Int)) = true := decide_eq_true uX_; have p1 : (i : Int) < (as1.length : Int) := by omega
 have p2 : (k : Int) < (bs1.length : Int) := by omega
 clear hJ ha hb hy hz hm cy cz hmul hwp hr; go_enter Tryz.func209, Tryz.ntmps209; apply wp_region_calm 15 uQ_ uQ_
 case h' =>
  intro Q0 hQ0; simp only [List.take_succ_cons, List.take_zero]
  repeat ((first | ((first | apply calm_p rfl | apply zu rfl rfl rfl); case h1 => (intro w1 hw1 hF K hK; obtain ⟨bo, fo⟩ := (HJ.out.bo.grow hw1).rules; obtain ⟨ba, fa⟩ := (HJ.out.ba.grow hw1).rules; obtain ⟨bb, fb⟩ := (HJ.out.bb.grow hw1).rules; obtain ⟨cy, cz⟩ := And.intro (hw1.cell C.out.1) (hw1.cell C.out.2); go_simp; first | exact hK _ (za.refl _))) | apply zw rfl rfl rfl rfl); intro K hK; go_simp; apply hK; clear hK K)
  apply calm_fp (PN m r) rfl
  case h1 => exact wa_
  intro v23 K hK; go_simp; apply hK; clear hK K; refine calm_nil ?_; intro w1 hw1 hF; apply hQ0; clear hQ0; simp only [List.drop_succ_cons, List.drop_zero]; obtain ⟨g, hv, hB⟩ := hF _ (List.mem_cons_self ..); subst hv; clear hF; have J1 := HJ.out.grow hw1; have own1 := J1.own; have hq1 := jh own1 hgb
  go_wp2_with (at_builtin; refine Xv rfl _ _ rfl base _ _ out rfl own1 g (I.mk r.A r.xs r.cap m) rfl hB uX_ (by have := hw1.size; omega) ?_; intro v7 w7 own7 gr7 at7; obtain ⟨g7, cap7, rfl⟩ : ∃ g7 cap7, v7 = .slice (some ⟨g7, 0, none⟩) (out.length + 1) cap7 := (by rcases own7.2 with ⟨_, h0⟩ | ⟨g', cap', cur', e, _⟩; exact absurd h0 uX_; exact ⟨_, _, e⟩); obtain ⟨bo, fo⟩ := zb.rules (zb.by J1.bo gr7 hq1))
  have hB7 := zb.by J1.bo gr7 hq1; have lt7 : go < w7.heap.size := zb.lt hB7; have g7n : (Value.slice (some ⟨g7, 0, none⟩) (out.length + 1) cap7).ownBlock = none \/ (Value.slice (some ⟨g7, 0, none⟩) (out.length + 1) cap7).ownBlock ≠ some go := .inr (Ne.symm (jh own7 hgb)); have hm := HM.out; subst hm; have keep : ∀ u, jM w u -> jM (w7.setCell ⟨go, 0, none⟩ (.slice (some ⟨g7, 0, none⟩) (out.length + 1) cap7)) u := fun u hu => ((hu.grow hw1).kept own1 gr7).other hB7 uW_ (Du lt7 _)
  go_end0; refine ⟨rfl, .slice (some ⟨g7, 0, none⟩) (out.length + 1) cap7, ⟨?_, zb.far (zb.by J1.ba gr7 (jh own1 hga)) hne1 _, zb.far (zb.by J1.bb gr7 (jh own1 hgb2)) hne2 _, ?_, ?_⟩, ?_, ?_, ?_, ?_⟩
  ·simpa using zb.set hB7 0 (.slice (some ⟨g7, 0, none⟩) (out.length + 1) cap7)
  ·have := World.ownsRow.kept own7 (Du lt7 (.slice (some ⟨g7, 0, none⟩) (out.length + 1) cap7)) g7n; simpa using this
  ·intro u hu; rcases List.mem_append.1 hu with hu | hu
   ·exact keep u (HJ.out.rows u hu)
   ·simp at hu; subst hu; exact keep _ HR.out
  ·intro hg; refine za.set (za.own (hge.trans hw1) gr7 (fun i hi => ?_)) hgo _; rcases Nat.lt_or_ge i we.heap.size with h | h
   ·exact absurd hi.symm (jh own1 uX_)
   ·exact h
  ·have := hw1.size; have := gr7.size; simp; omega
  ·intro q t cs h h1 h2; exact zb.far (zb.by (zb.grow h hw1) gr7 h2) h1 _
  ·rcases at7 with h | h
   ·exact .inl h
   ·exact .inr ⟨_, h, hw1.size⟩
 case hp' => exact yq_
def qR (x : E) (y : Z) (b : List Z) : List Z := (b.filter (fun r => yD x (y.1 ++ r.1))).map (fun r => (y.1 ++ r.1, y.2 * r.2))
def yS (x : E) (a b : List Z) : List Z := a.flatMap (fun y => qR x y b)
def qy (l r : List Int) (x : E) (a b : List Z) : List Z × Int := if qv l r x a b ≠ 0 then ([], qv l r x a b) else yy (yS x a b)
theorem RI (x : E) (u : List V) (y : Z) : ∀ b : List Z, zW (qR x y b) u = y.2 * yn (fun q => jR x u (y.1 ++ q)) b
 | [] => by simp [qR, qM, yn]
 | r :: b => by
  have ih := RI x u y b; unfold qR at ih ⊢; rw [List.filter_cons, yn, Int.mul_add, <- ih]; unfold jR Q6; cases h : yD x (y.1 ++ r.1)
  ·simp
  ·rw [if_pos rfl, List.map_cons, zq]; simp only [if_true]
   by_cases h2 : zd (y.1 ++ r.1) = zd u
   ·rw [if_pos h2, if_pos h2]; simp
   ·rw [if_neg h2, if_neg h2]; simp
theorem qN (x : E) (u : List V) (b : List Z) : ∀ a : List Z, zW (yS x a b) u = yn (fun p => yn (fun q => jR x u (p ++ q)) b) a
 | [] => rfl
 | y :: a => by
  have ih := qN x u b a; unfold yS at ih ⊢; rw [List.flatMap_cons, qo, RI, ih, yn]
theorem j4 (p q : List V) : zd (p ++ q) = zd p ++ zd q := by simp [zd]
theorem Rb (x : E) (u p : List V) : KU (fun q => jR x u (p ++ q)) := fun r q h => Zx x u _ _ (by rw [j4, j4, h])
theorem P8 (x : E) (u : List V) (b : List Z) : KU (fun p => yn (fun q => jR x u (p ++ q)) b) := fun r q h => Ta _ _ b (fun y _ => Zx x u _ _ (by rw [j4, j4, h]))
theorem MD (f g : List V -> Int) : ∀ l : List Z, yn (fun r => f r + g r) l = yn f l + yn g l
 | [] => rfl
 | y :: l => by
  have ih := MD f g l; simp only [yn, ih, Int.mul_add]; omega
theorem QU (x : E) (a b : List Z) : (yS x a b).length <= a.length * b.length := by
 induction a with
 | nil => simp [yS]
 | cons y a ih =>
  unfold yS at ih ⊢; rw [List.flatMap_cons, List.length_append, List.length_cons, Nat.succ_mul]; have : (qR x y b).length <= b.length := by unfold qR; rw [List.length_map]; exact List.length_filter_le _ _
  omega
theorem Xi {x : E} {a b : List Z} {y : Z} (h : y ∈ yS x a b) : ∃ p ∈ a, ∃ q ∈ b, y = (p.1 ++ q.1, p.2 * q.2) := by
 obtain ⟨p, hp, h⟩ := List.mem_flatMap.1 h; obtain ⟨q, hq, rfl⟩ := List.mem_map.1 h; exact ⟨p, hp, q, (List.mem_filter.1 hq).1, rfl⟩
theorem je {l r : List Int} {x : E} {a b : List Z} (h : qv l r x a b = 0) : Xk (yS x a b) := fun y hy => by
 obtain ⟨h8, hc, ha, hb⟩ := xZ h; obtain ⟨p, hp, q, hq, rfl⟩ := Xi hy; obtain ⟨lp, vp⟩ := (y7 _ _).1 ((zE ha).2.2 p hp); obtain ⟨lq, vq⟩ := (y7 _ _).1 ((zE hb).2.2 q hq); refine ⟨by simp; omega, fun v hv => ?_⟩; rcases List.mem_append.1 hv with hv | hv
 ·obtain ⟨i, hi⟩ := List.getElem?_of_mem hv; exact (vp i v hi).1
 ·obtain ⟨i, hi⟩ := List.getElem?_of_mem hv; exact (vq i v hi).1
theorem Nq {l r : List Int} {x : E} {a b z : List Z} (h : qy l r x a b = (z, 0)) : qv l r x a b = 0 /\ yA z /\ zC z = 0 /\ ∀ u, zW z u = yn (fun p => yn (fun q => jR x u (p ++ q)) b) a := by
 unfold qy at h; split at h
 ·exact u8_
 ·rename_i h1; have h1 : qv l r x a b = 0 := by simpa using h1
  obtain ⟨c, w, e⟩ := qC (je h1) h; exact ⟨h1, c, w, fun u => by rw [e, qN]⟩
abbrev WZ := Nat × I × I
def qq (x : E) (i : Nat) (y : I) (b : List I) : List WZ := (b.filter (fun z => yD x (y.row ++ z.row))).map (fun z => (i, y, z))
def JM (x : E) (a b : List I) (i : Nat) : List WZ := match a[i]? with
 | some y => qq x i y b
 | none => []
def qg (x : E) (a b : List I) (k : Nat) : List WZ := (List.range k).flatMap (JM x a b)
theorem Yk {x : E} {a b : List I} {k : Nat} {y : I} (h : a[k]? = some y) : qg x a b (k + 1) = qg x a b k ++ qq x k y b := yA_
theorem Nl {x : E} {i : Nat} {y : I} {b : List I} {k : Nat} {z : I} (h : b[k]? = some z) : qq x i y (b.take (k + 1)) = qq x i y (b.take k) ++ if yD x (y.row ++ z.row) then [(i, y, z)] else [] := by
 obtain ⟨h1, e1⟩ := qQ9.1 h; unfold qq; rw [List.take_succ_eq_append_getElem h1, e1, List.filter_append, List.map_append]; cases hh : yD x (y.row ++ z.row) <;> simp [hh]
theorem Wx (x : E) (i : Nat) (y : I) (b : List I) : (qq x i y b).length <= b.length := by
 unfold qq; rw [List.length_map]; exact List.length_filter_le _ _
theorem JN (x : E) (a b : List I) : ∀ k, (qg x a b k).length <= k * b.length
 | 0 => by simp [qg]
 | k + 1 => by
  have ih := JN x a b k; rw [Nat.succ_mul]; cases h : a[k]? with
  | some y => rw [Yk h, List.length_append]; have := Wx x k y b; omega
  | none =>
   have : qg x a b (k + 1) = qg x a b k := yA_
   rw [this]; omega
def za6 (h : WZ) : Z := (h.2.1.row ++ h.2.2.row, h.2.1.w * h.2.2.w)
theorem La (x : E) (i : Nat) (y : I) (b : List I) : (qq x i y b).map za6 = qR x (zh y) (b.map zh) := by
 unfold qq qR; rw [List.map_map, List.filter_map, List.map_map]; rfl
theorem L8 (x : E) (a b : List I) : ∀ k, k <= a.length -> (qg x a b k).map za6 = yS x ((a.take k).map zh) (b.map zh)
 | 0, _ => by simp [qg, yS]
 | k + 1, h => by
  have ih := L8 x a b k uX_; have e : a[k]? = some a[k] := qQ_ uX_; rw [Yk e, List.map_append, ih, La, yi zh e]; unfold yS; rw [List.flatMap_append]; simp
theorem PF {x : E} {i : Nat} {y : I} {b : List I} {h : WZ} (hh : h ∈ qq x i y b) : h.1 = i /\ h.2.1 = y /\ h.2.2 ∈ b /\ yD x (y.row ++ h.2.2.row) = true := by
 obtain ⟨z, hz, rfl⟩ := List.mem_map.1 hh; obtain ⟨h1, h2⟩ := List.mem_filter.1 hz; exact ⟨rfl, rfl, h1, h2⟩
theorem Sv {x : E} {a b : List I} {k : Nat} {h : WZ} (hh : h ∈ qg x a b k) : h.1 < k /\ a[h.1]? = some h.2.1 /\ h.2.2 ∈ b /\ yD x (h.2.1.row ++ h.2.2.row) = true := by
 obtain ⟨i, hi, h1⟩ := List.mem_flatMap.1 hh; unfold JM at h1; split at h1
 ·rename_i y e; obtain ⟨r1, r2, r3, r4⟩ := PF h1; rw [r1, r2]; exact ⟨by simpa using hi, e, r3, r4⟩
 ·simp at h1
theorem QY {w : World} {base n s : Nat} {e : TypeId} {v : Value} {xs : List Value} (h : w.ownsRow base e s v n xs) {q : Nat} (hq : w.heap.size <= q) : some q ≠ v.ownBlock := by
 rcases h.2 with ⟨rfl, _⟩ | ⟨g, cap, cur, rfl, hB, hgb, _⟩
 ·simp [Value.ownBlock]
 ·simp only [Value.ownBlock]; intro e2; cases e2; have := (Array.getElem?_eq_some_iff.1 hgb).1; omega
structure Yb (x : E) (a b : S) : Prop where
 la : a.xs.length <= 400
 lb : b.xs.length <= 400
 ra : ∀ y ∈ a.xs, y.row.length <= 8
 rb : ∀ y ∈ b.xs, y.row.length <= 8
 wa : ∀ y ∈ a.xs, -1000000 <= y.w /\ y.w <= 1000000
 wb : ∀ y ∈ b.xs, -1000000 <= y.w /\ y.w <= 1000000
 va : ∀ y ∈ a.xs, ∀ v ∈ y.row, RV v
 re : ∀ y ∈ a.xs, ∀ z ∈ b.xs, RE (y.row ++ z.row).length x /\ (∀ v ∈ y.row ++ z.row, RV v) /\ (y.row ++ z.row).length <= 8
theorem Kw {l r : List Int} {x : E} {a b : S} (h : qv l r x a.z b.z = 0) : Yb x a b := by
 obtain ⟨h8, hc, ha, hb⟩ := xZ h; have fa := zE ha; have fb := zE hb; obtain ⟨a1, a2, a3, a4⟩ := S.facts fa.2.1; obtain ⟨b1, b2, b3, b4⟩ := S.facts fb.2.1; refine ⟨a1, b1, a2, b2, a4, b4, a3, fun y hy z hz => ?_⟩; have ly := ((y7 _ _).1 (fa.2.2 (zh y) (qZ9 hy))).1; have lz := ((y7 _ _).1 (fb.2.2 (zh z) (qZ9 hz))).1; have ly : y.row.length = l.length := ly; have lz : z.row.length = r.length := lz; refine ⟨?_, fun v hv => ?_, by simp; omega⟩
 ·obtain ⟨T, hok⟩ := kR (Jv hc).1; have := QH x hok.ty; rw [List.length_append, ly, lz]; rw [List.length_append] at this; exact this
 ·rcases List.mem_append.1 hv with hv | hv
  ·exact a3 y hy v hv
  ·exact b3 z hz v hv
theorem Dd {P : Program} {f : FuncId} {fn : Func} {c : Code} (hf : P.funcs[f]? = some fn) (hn : (fn.name == "runtime.NumGoroutine") = false) (hb : fn.body = some c) (args : Array Value) (w : World) : Sem.run P (callFunc f args) w = .ok (.enter f args) w := by
 have h1 : fn.name ≠ "runtime.NumGoroutine" := by simpa using hn
 simp [callFunc, hf, h1, hb]
structure RU (we : World) (base F : Nat) (caps : Array Value) (a b : S) (σ : Type) (St : World -> σ -> List WZ -> Prop) (Fr : σ -> Nat -> Prop) : Prop where
 ent : ∀ args W, Sem.run Tryz.prog (callFunc F args) W = .ok (.enter F args) W
 grow : ∀ W W' s h, St W s h -> za W W' -> St W' s h
 new : ∀ W s h q, St W s h -> W.heap.size <= q -> Fr s q
 step : ∀ W s h (i k : Nat) (y z : I) (B : Option Addr) (cap : Nat), St W s h -> za we W -> base <= W.heap.size -> a.xs[i]? = some y -> b.xs[k]? = some z -> h.length <= 200000 -> (∃ bs, W.ownsRow bs 33 3 (.slice B (y.row ++ z.row).length cap) (y.row ++ z.row).length (zN (y.row ++ z.row))) ->
  Calls Tryz.prog F (#[.int .i64 i, .int .i64 k, .slice B (y.row ++ z.row).length cap] ++ caps) W fun en W' => en = .returned (.tuple #[]) /\ ∃ s', St W' s' (h ++ [(i, y, z)]) /\ za we W' /\ W.heap.size <= W'.heap.size /\ ∀ q t cs, zb W q t cs -> Fr s q -> zb W' q t cs /\ Fr s' q
structure Ut (we : World) (base : Nat) {σ : Type} (St : World -> σ -> List WZ -> Prop) (wr : World) (s : σ) (h : List WZ) : Prop where
 st : St wr s h
 grow : za we wr
 size : base <= wr.heap.size
theorem Ut.up {we : World} {base : Nat} {σ : Type} {St : World -> σ -> List WZ -> Prop} {wr W : World} {s : σ} {h : List WZ} (hg0 : ∀ W W' s h, St W s h -> za W W' -> St W' s h) (p : Ut we base St wr s h) (hg : za wr W) : Ut we base St W s h :=
 ⟨hg0 _ _ _ _ p.st hg, p.grow.trans hg, by have := p.size; have := hg.size; omega⟩
theorem zbz {w : World} {base cap : Nat} {B : Option Addr} {ys : List V} (h : w.ownsRow base 33 3 (.slice B ys.length cap) ys.length (zN ys)) : xi w B ys := by
 obtain ⟨B', c', e, hv⟩ := Qq h; simp at e; rw [e.1]; exact hv
theorem Mo (F : Nat) (caps : Array Value) (we : World) (gx ox : Nat) (x : E) (a b : S) (w : World) {σ : Type} {St : World -> σ -> List WZ -> Prop} {Fr : σ -> Nat -> Prop} (hF : RU we w.heap.size F caps a b σ St Fr) (s0 : σ) (h0 : St w s0 []) (hge : za we w) (hx : EX we x) (hc : zF we gx ox x) (ha : xe we a.A a.xs) (hb : xe we b.A b.xs) (hok : Yb x a b) :
  Calls Tryz.prog 208 #[.pointer (some ⟨gx, ox, none⟩), .slice a.A a.xs.length a.cap, .slice b.A b.xs.length b.cap, .func (.func F) #[] caps] w fun en w' => en = .returned (.tuple #[]) /\ ∃ s, St w' s (qg x a.xs b.xs a.xs.length) /\ za we w' := by
 obtain ⟨Aa, as1, ca⟩ := a; obtain ⟨Ab, bs1, cb⟩ := b; simp only at ha hb ⊢; have HF := hh_ hF; have HX := hh_ hx; have HC := hh_ hc; have Ha := hh_ ha; have Hb := hh_ hb; have Ok := hh_ hok; have la : as1.length <= 400 := hok.la; have lb : bs1.length <= 400 := hok.lb; have P0 := hh_ (Ut.mk (base := w.heap.size) h0 hge (Nat.le_refl _)); clear hF hx hc ha hb hok h0 hge; go_enter Tryz.func208, Tryz.ntmps208; go_wp2
 go_loopw [15] (fun i wr => ∃ (k : Nat) (s : σ), k <= as1.length /\ i = .int .i64 k /\ Ut we w.heap.size St wr s (qg x as1 bs1 k)) (fun i _ => as1.length - (intOf i).toNat)
 case atStart => exact ⟨0, s0, Nat.zero_le _, rfl, P0.out⟩
 case round =>
  rename World => wr
  obtain ⟨k, s, hk, rfl, hp⟩ := hrel; have P := hh_ hp; clear hp
  by_cases hlt : k < as1.length
  ·obtain ⟨y, hyk⟩ : ∃ y, as1[k]? = some y := ⟨_, qQ_ hlt⟩
   obtain ⟨g1, o1, rfl, c1, c2, hyv⟩ := (Ha.out.grow P.out.grow) k y hyk; have HV := hh_ (show xi we y.A y.row from by obtain ⟨_, _, _, _, _, h⟩ := Ha.out k y hyk; exact h); have hyk := hh_ hyk; clear hyv; go_upto_region 3 with fail
   refine zc (fun Z => zb Z wr.heap.size 53 #[.slice y.A y.row.length y.cap, .int .i64 y.w] /\ za wr Z) ⟨zb.new _ _ _, (za.refl wr).al _⟩ ?_; rintro Z ⟨Bz, Gz⟩; have BY := hh_ Bz; have PZ := hh_ (P.out.up HF.out.grow Gz); have fr0 := hh_ (HF.out.new wr s _ wr.heap.size P.out.st (Nat.le_refl _)); have L0 : (qg x as1 bs1 k).length <= 160000 := by have := JN x as1 bs1 k; have := Nat.mul_le_mul (show k <= 400 by omega) lb; omega
   clear Bz c1 c2; generalize wr.heap.size = gp at *; go_wp2
   go_loopw [22] (fun i W => ∃ (k2 : Nat) (s2 : σ), k2 <= bs1.length /\ i = .int .i64 k2 /\ Ut we w.heap.size St W s2 (qg x as1 bs1 k ++ qq x k y (bs1.take k2)) /\ zb W gp 53 #[.slice y.A y.row.length y.cap, .int .i64 y.w] /\ Fr s2 gp) (fun i _ => bs1.length - (intOf i).toNat)
   case atStart => exact ⟨0, s, Nat.zero_le _, rfl, by simpa [qq] using PZ.out, BY.out, fr0.out⟩
   case round =>
    rename World => W1
    obtain ⟨k2, s2, hk2, rfl, hp2, hb2, hf2⟩ := hrel; have P2 := hh_ hp2; have B2 := hh_ hb2; have F2 := hh_ hf2; clear hp2 hb2 hf2
    by_cases hlt2 : k2 < bs1.length
    ·obtain ⟨z, hzk⟩ : ∃ z, bs1[k2]? = some z := ⟨_, qQ_ hlt2⟩
     obtain ⟨g2, o2, rfl, c3, c4, hzv⟩ := (Hb.out.grow P2.out.grow) k2 z hzk; have HZ := hh_ hzv; have hzk' := hh_ hzk; have es := hh_ (Nl (x := x) (i := k) (y := y) hzk); have re := hh_ (Ok.out.re y (qZ_ hyk.out) z (qZ_ hzk)); clear hzv hzk; go_upto_region 6 with fail
     refine zc (fun Z2 => zb Z2 W1.heap.size 53 #[.slice z.A z.row.length z.cap, .int .i64 z.w] /\ za W1 Z2) ⟨zb.new _ _ _, (za.refl W1).al _⟩ ?_; rintro Z2 ⟨Bz2, Gz2⟩; have BY2 := B2.out.grow Gz2; clear c3 c4; have G2 := P2.out.grow; have P3 := hh_ (P2.out.up HF.out.grow Gz2); have f3 := hh_ (HF.out.new W1 s2 _ W1.heap.size P2.out.st (Nat.le_refl _)); have V3 := hh_ (HV.out.grow P3.out.grow); have Z3 := hh_ (HZ.out.grow Gz2); have B3 := hh_ BY2; have C3 := hh_ Bz2; clear HZ B2 BY2 Bz2; generalize W1.heap.size = gq at *; obtain ⟨b3, f3'⟩ := B3.out.rules; obtain ⟨b4, f4'⟩ := C3.out.rules; have cc := fun (g : Nat) W (h1 : zb W g 51 #[.slice y.A y.row.length y.cap, .slice z.A z.row.length z.cap]) (hg : za Z2 W) => Pu ⟨y.A, y.row, y.cap⟩ ⟨z.A, z.row, z.cap⟩ g 51 W h1 (V3.out.grow hg) (Z3.out.grow hg) (by have := re.out.2.2; simp at this ⊢; omega)
     simp only at cc; have stp := hh_ (fun W B cap (hg : za Z2 W) => HF.out.step W s2 (qg x as1 bs1 k ++ qq x k y (bs1.take k2)) k k2 y z B cap (P3.out.up HF.out.grow hg).st (P3.out.grow.trans hg) (P3.out.up HF.out.grow hg).size hyk.out hzk'.out (by have h1 := Wx x k y (bs1.take k2); rw [List.length_append]; simp at h1; omega)); obtain ⟨R, hR⟩ : ∃ R, y.row ++ z.row = R := ⟨_, rfl⟩
     rw [hR] at cc re es stp; clear hR; obtain ⟨hit, hb⟩ : ∃ t, yD x R = t := ⟨_, rfl⟩
     rw [hb] at es; have lr : R.length <= 9223372036854775807 := by have := re.out.2.2; omega
     have rv := Qu R re.out.2.1 x re.out.1; have co := fun B cap W (hg : za Z2 W) (hv : xi W B R) => Ny R B cap lr re.out.2.1 x re.out.1 gx ox W W (HX.out.grow (P3.out.grow.trans hg)) (HC.out.grow (P3.out.grow.trans hg)) hv (za.refl W)
     have cv := fun W => QD (yu R x) (fun hk => by rcases rv.bool hk with h | h <;> omega) W
     rw [show (yB (yu R x) == 2) = hit from hb] at cv; generalize yu R x = V9 at co cv; unfold V.val at co cv; clear rv hb; go_upto_region 7 with (go_at_call 216; (refine (cc _ _ (zb.new _ _ _) ((za.refl _).al _)).mono ?_); rintro e w3 ⟨B, cap, rfl, own3, hg3⟩); have G3 : za Z2 w3 := ((za.refl Z2).al _).trans hg3; have O3 := hh_ own3; have hv3 := zbz own3; clear cc own3; cases hit with
     | false =>
      go_wp2_with (first
       | (go_at_call 67; ((with_reducible refine (co _ _ _ G3 hv3).mono ?_); rintro e w5 ⟨rfl, hg5⟩))
       | (go_at_call 122; ((with_reducible refine (cv _).mono ?_); rintro e w6 ⟨rfl, hg6⟩)))
      have G6 := G3.trans (hg5.trans hg6); go_roundw
      case rel => exact ⟨k2 + 1, s2, by omega, by go_num, by rw [es.out]; simpa using P3.out.up HF.out.grow G6, B3.out.grow G6, F2.out⟩
      case measure => exact u1_
     | true =>
      go_upto_region 8 with (first
       | (go_at_call 67; ((with_reducible refine (co _ _ _ G3 hv3).mono ?_); rintro e w5 ⟨rfl, hg5⟩))
       | (go_at_call 122; ((with_reducible refine (cv _).mono ?_); rintro e w6 ⟨rfl, hg6⟩)))
      have G6 := G3.trans (hg5.trans hg6); have st := stp.out w6 B cap G6 ⟨_, zi O3.out (hg5.trans hg6)⟩; clear co cv hv3; have bsz := (P3.out.up HF.out.grow G6).size; go_wp2; rw [HF.out.ent, Oper.upon_enter]; refine st.mono ?_; rintro e w7 ⟨rfl, s7, st7, g7, sz7, kp7⟩; rename_i K9 hK9; apply hK9; clear hK9 K9; go_simp; go_wp2; have K7 := hh_ (kp7 gp _ _ (B3.out.grow G6) F2.out); go_roundw
      case rel => exact ⟨k2 + 1, s7, by omega, by go_num, ⟨by rw [es.out]; simpa using st7, g7, by omega⟩, K7.out.1, K7.out.2⟩
      case measure => exact u1_
    ·obtain rfl : k2 = bs1.length := by omega
     go_wp2; go_roundw
     case rel => exact ⟨k + 1, s2, by omega, by go_num, by rw [Yk hyk.out]; simpa using P2.out⟩
     case measure => exact u1_
  ·obtain rfl : k = as1.length := by omega
   go_wp2; go_end0; exact ⟨rfl, s, P.out.st, P.out.grow⟩
theorem Yo {w : World} {base b2 n s : Nat} {e : TypeId} {v : Value} {xs : List Value} (h : w.ownsRow base e s v n xs) (hb : b2 <= base) : w.ownsRow b2 e s v n xs := by
 refine ⟨h.1, ?_⟩; rcases h.2 with h | ⟨g, cap, cur, e1, e2, h⟩
 ·exact .inl h
 ·exact .inr ⟨g, cap, cur, e1, by omega, h⟩
def JS (base go ga gb : Nat) (a b : S) (W : World) (s : Value × List I) (h : List WZ) : Prop := JSt base go ga gb a b W s.1 s.2 /\ s.2.map zh = h.map za6
theorem Vl (we : World) (base go ga gb : Nat) (a b : S) (x : E) (hba : we.heap.size <= base) (hgo : we.heap.size <= go) (hgb : go < base) (hga : ga < base) (hgb2 : gb < base) (hne1 : ga ≠ go) (hne2 : gb ≠ go) (ha : xe we a.A a.xs) (hb : xe we b.A b.xs) (ok : Yb x a b) :
  RU we base 209 #[.pointer (some ⟨go, 0, none⟩), .pointer (some ⟨ga, 0, none⟩), .pointer (some ⟨gb, 0, none⟩)] a b (Value × List I) (JS base go ga gb a b) (fun s q => q ≠ go /\ some q ≠ s.1.ownBlock) where
 ent := fun args W => Dd Tryz.func209 uQ_ rfl args W
 grow := fun W W' s h hs hg => ⟨hs.1.grow hg, hs.2⟩
 new := fun W s h q hs hq => ⟨fun e => by have := hs.1.bo.lt; omega, QY hs.1.own hq⟩
 step := fun W s h i k y z B cap hs hge hbw hy hz hl hr => by
  have ln : s.2.length = h.length := by have := congrArg List.length hs.2; simpa using this
  refine (Vk we W base go ga gb a b s.1 s.2 i k y z ⟨B, y.row ++ z.row, cap⟩ hs.1 hge hba hbw hgo hgb hga hgb2 hne1 hne2 ha hb hy hz ok.la ok.lb (ok.wa y (qZ_ hy)) (ok.wb z (qZ_ hz)) uX_ hr).mono ?_; rintro en W' ⟨rfl, v', hJ, hK⟩; refine ⟨rfl, (v', s.2 ++ [I.mk B (y.row ++ z.row) cap (y.w * z.w)]), ⟨hJ, ?_⟩, hK.grow hge, hK.size, fun q t cs hB hq => ⟨hK.blk q t cs hB hq.1 hq.2, hq.1, ?_⟩⟩
  ·rw [List.map_append, List.map_append, hs.2]; rfl
  ·rcases hK.own with e | ⟨g', e, hg'⟩
   ·rw [e]; exact hq.2
   ·rw [e]; have := hB.lt; intro e2; cases e2; omega
theorem JT (gx ox : Nat) (x : E) (a b : S) (w : World) (hx : EX w x) (hc : zF w gx ox x) (ha : xe w a.A a.xs) (hb : xe w b.A b.xs) (hok : Yb x a b) :
  Calls Tryz.prog 194 #[.pointer (some ⟨gx, ox, none⟩), .slice a.A a.xs.length a.cap, .slice b.A b.xs.length b.cap] w fun en w' => ∃ (B : Option Addr) (ys : List I) (cap : Nat), en = .returned (.slice B ys.length cap) /\ w'.ownsRow w.heap.size 53 2 (.slice B ys.length cap) ys.length (zr ys) /\ (∀ u ∈ ys, jM w' u) /\ ys.map zh = yS x a.z b.z /\ za w w' := by
 have HX := hh_ hx; have HC := hh_ hc; have Ha := hh_ ha; have Hb := hh_ hb; have Ok := hh_ hok; have cp := hh_ (fun (X : World) (hs : w.heap.size + 3 <= X.heap.size) (h : JS X.heap.size (w.heap.size + 2) w.heap.size (w.heap.size + 1) a b X (.slice none 0 0, []) []) (G : za w X) => Mo 209 _ w gx ox x a b X (Vl w X.heap.size (w.heap.size + 2) w.heap.size (w.heap.size + 1) a b x uX_ uX_ uX_ uX_ uX_ uX_ uX_ ha hb hok) _ h G hx hc ha hb hok); clear hx hc ha hb hok; go_enter Tryz.func194, Tryz.ntmps194; go_upto_region 2 with fail
 refine zc (fun X => zb X w.heap.size 25 #[.slice a.A a.xs.length a.cap] /\ zb X (w.heap.size + 1) 25 #[.slice b.A b.xs.length b.cap] /\ zb X (w.heap.size + 2) 25 #[.slice none 0 0] /\ za w X /\ w.heap.size + 3 <= X.heap.size) ⟨(zb.new _ _ _).grow (((za.refl _).al _).al _), (zb.new' _ _ _ uY_).grow ((za.refl _).al _), zb.new' _ _ _ uY_, (((za.refl _).al _).al _).al _, by simp⟩ ?_; rintro X ⟨B1, B2, B3, G, hs⟩; have c := cp.out X hs ⟨⟨B3, B1, B2, World.ownsRow_nil _ _ _ _, fun u hu => by simp at hu⟩, rfl⟩ G; obtain ⟨b1, f1⟩ := B1.rules; obtain ⟨b2, f2⟩ := B2.rules; clear cp B1 B2 B3; generalize w.heap.size + 2 = go at *; generalize w.heap.size + 1 = gb at *; generalize w.heap.size = ga at *; go_upto_region 3 with (go_at_call 208; (with_reducible refine c.mono ?_); rintro en w2 ⟨rfl, ⟨v, out⟩, ⟨J, M⟩, hg2⟩); have own := J.own
 have hv : ∃ (B : Option Addr) (cap : Nat), v = .slice B out.length cap := xv_
 obtain ⟨B, cap, rfl⟩ := hv; have JJ := hh_ (And.intro own (And.intro J.rows M)); obtain ⟨b3, f3⟩ := J.bo.rules; clear J M own b1 f1 b2 f2; go_wp2; go_ret; exact ⟨B, out, cap, rfl, Yo JJ.out.1 G.size, JJ.out.2.1, by rw [JJ.out.2.2, L8 _ _ _ _ (Nat.le_refl _), List.take_length]; rfl, hg2⟩
theorem El {w : World} {base cap : Nat} {B : Option Addr} {ys : List I} (h : w.ownsRow base 53 2 (.slice B ys.length cap) ys.length (zr ys)) (hv : ∀ y ∈ ys, jM w y) : xe w B ys /\ yf B ys.length cap := by
 obtain ⟨B', c', e, hz, hk⟩ := Xm h (fun y hy => (hv y hy).vsl); simp at e; rw [e.1, e.2]; exact ⟨hz, hk⟩
theorem Dz {x : E} {a b : S} {ys : List I} (ok : Yb x a b) (m : ys.map zh = yS x a.z b.z) : ys.length <= 160000 /\ (∀ y ∈ ys, y.row.length <= 8) /\ (∀ y ∈ ys, ∀ v ∈ y.row, RV v) /\ ∀ y ∈ ys, -1000000000000 <= y.w /\ y.w <= 1000000000000 := by
 have mem : ∀ y ∈ ys, ∃ p ∈ a.xs, ∃ q ∈ b.xs, y.row = p.row ++ q.row /\ y.w = p.w * q.w := fun y hy => by
  have h : zh y ∈ yS x a.z b.z := by rw [<- m]; exact qZ9 hy
  obtain ⟨p, hp, q, hq, e⟩ := Xi h; obtain ⟨p', hp', rfl⟩ := List.mem_map.1 hp; obtain ⟨q', hq', rfl⟩ := List.mem_map.1 hq; exact ⟨p', hp', q', hq', congrArg Prod.fst e, congrArg Prod.snd e⟩
 refine ⟨?_, fun y hy => ?_, fun y hy => ?_, fun y hy => ?_⟩
 ·have h1 := congrArg List.length m; have h2 := QU x a.z b.z; have h3 := ok.la; have h4 := ok.lb; simp [S.z] at h1 h2; have := Nat.mul_le_mul h3 h4; omega
 ·obtain ⟨p, hp, q, hq, e, _⟩ := mem y hy; rw [e]; exact (ok.re p hp q hq).2.2
 ·obtain ⟨p, hp, q, hq, e, _⟩ := mem y hy; rw [e]; exact (ok.re p hp q hq).2.1
 ·obtain ⟨p, hp, q, hq, _, e⟩ := mem y hy; rw [e]; obtain ⟨h1, h2⟩ := ok.wa p hp; obtain ⟨h3, h4⟩ := ok.wb q hq; have ha : (p.w).natAbs <= 1000000 := by omega
  have hb : (q.w).natAbs <= 1000000 := by omega
  have : (p.w * q.w).natAbs <= 1000000 * 1000000 := by rw [Int.natAbs_mul]; exact Nat.mul_le_mul ha hb
  omega
theorem Vv (l r : L2 Int) (x : E) (a b : S) (w : World) (hll : l.xs.length <= 140737488355328) (hlr : r.xs.length <= 140737488355328) (hl : yU w l.A l.xs) (hr : yU w r.A r.xs) (hE : EX w x) (ha : In w a) (hb : In w b) :
  Calls Tryz.prog 167 #[.slice l.A l.xs.length l.cap, .slice r.A r.xs.length r.cap, x.val, .slice a.A a.xs.length a.cap, .slice b.A b.xs.length b.cap] w fun en w' => yr w w' en (qy l.xs r.xs x a.z b.z) := by
 have HX := hh_ hE; have Ha := hh_ ha; have Hb := hh_ hb; have ct := fun W (hg : za w W) => Je l r x a b W hll hlr (hl.grow hg) (hr.grow hg) (hE.grow hg) (ha.grow hg) (hb.grow hg)
 obtain ⟨E2, hE2⟩ : ∃ e, qv l.xs r.xs x a.z b.z = e := ⟨_, rfl⟩
 rw [hE2] at ct; obtain ⟨Q, hQ⟩ : ∃ Q, qy l.xs r.xs x a.z b.z = Q := ⟨_, rfl⟩
 rw [hQ]; have fin : Q = if E2 ≠ 0 then ([], E2) else yy (yS x a.z b.z) := by rw [<- hQ]; unfold qy; rw [hE2]
 have Fin := hh_ fin; have H2 := hh_ hE2; have HE : ∀ W g, zb W g 35 #[.int .i64 x.kind, .int .i64 x.v.k, .int .i64 x.v.n, .string x.v.s, .int .i64 x.col, .slice x.A x.n x.cap] -> zF W g 0 x := fun W g B => ⟨B.cells rfl, B.cells rfl, B.cells rfl, B.cells rfl, B.cells rfl, B.cells rfl⟩
 clear hl hr hE ha hb hE2 hQ fin; unfold E.val at *; go_enter Tryz.func167, Tryz.ntmps167; go_upto_region 1 with fail
 refine zc (fun X => zb X w.heap.size 35 #[.int .i64 x.kind, .int .i64 x.v.k, .int .i64 x.v.n, .string x.v.s, .int .i64 x.col, .slice x.A x.n x.cap] /\ za w X) ⟨zb.new _ _ _, (za.refl w).al _⟩ ?_; rintro X ⟨Bx, G⟩; obtain ⟨bx, fx⟩ := Bx.rules
 by_cases h0 : E2 = 0
 ·subst h0; have eQ : Q = yy (yS x a.z b.z) := by rw [Fin.out]; simp
  have EQ := hh_ eQ; clear eQ; go_upto_region 4 with (go_at_call 193; ((with_reducible refine (ct _ G).mono ?_); rintro e w2 ⟨rfl, hg2⟩)); have G2 := hh_ (G.trans hg2); have ok := hh_ (Kw H2.out); have cj := JT w.heap.size 0 x a b w2 (HX.out.grow G2.out) (HE _ _ (Bx.grow hg2)) (Ha.out.z.grow G2.out) (Hb.out.z.grow G2.out) ok.out; clear ct bx fx
  go_wp2_with (first
   | (go_at_call 194; (with_reducible refine cj.mono ?_); rintro e w3 ⟨B, ys, cap, rfl, own3, Ec, m3, hg3⟩; have zs := El own3 Ec; have fa := Dz ok.out m3; have cs := NQ ys B cap w3 (by have := fa.1; omega) zs.1 (fun y hy => by have := fa.2.1 y hy; omega) fa.2.2.1 fa.2.2.2; rw [m3, <- EQ.out] at cs; clear own3 Ec m3 zs fa)
   | (go_at_call 29; ((with_reducible refine cs.mono ?_); rintro en w4 ⟨C, zs, cap2, rfl, hz3, hm3, hk3, hg4⟩; have Out := hh_ (And.intro hz3 (And.intro hm3 hk3)); clear hz3 hm3 hk3)))
  refine qX_ oG_ rfl ?_; exact ⟨C, zs, cap2, rfl, Out.out.1, Out.out.2.1, Out.out.2.2, G2.out.trans (hg3.trans hg4)⟩
 ·have d0 : (E2 != 0) = true := by simpa using h0
  have eQ : Q = ([], E2) := by rw [Fin.out, if_pos h0]
  go_wp2_with (go_at_call 193; ((with_reducible refine (ct _ G).mono ?_); rintro e w2 ⟨rfl, hg2⟩))
  refine qX_ oG_ rfl ?_; exact ⟨none, [], 0, by rw [eQ]; rfl, zX _ _, by rw [eQ]; rfl, yf.nil, G.trans hg2⟩
end Go.Proofs.YtflggnopgnoeiaaGreat
namespace Go.Proofs.YtflggnopgnoeiaaGreat
open Go.ChangeShapes Go.WideShapes Go.ChangeAt Go.RowKit Go.Calm
section
variable {H : Type} {enc : TypeId × Value -> H} {w : World} {base : Nat} {spare : Nat -> Bool} {held : Bool}
end
