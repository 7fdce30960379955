/- Parts of a proof. No condition. -/
import Derived.Test.YthhbiemnbkfobaaGreatGS
import Derived.Maps.AppendAt
set_option maxRecDepth 100000
set_option maxHeartbeats 8000000
set_option maxRecDepth 100000
set_option linter.unusedSimpArgs false
set_option linter.unusedVariables false
namespace Go
variable {p : Prop}
theorem oA_ (h : p := by simp [results, Tryz.results50, go_sem] <;> rfl) : p := h
theorem vL_ (h : p := by rw [yr, yr, h]) : p := h
theorem v9_ (h : p := by
 obtain rfl : k = ss.length := by omega
 have own := Own3.out; have hn := Hn.out; rw [List.take_length] at own hn; subst hn
 have hfin : ∃ (B : Option Addr) (cap : Nat), u6 = .slice B (ko ss).length cap := by
   rcases own.2 with ⟨rfl, h0⟩ | ⟨gb, cap, cur, rfl, _⟩
   · exact ⟨none, 0, by rw [h0]⟩
   · exact ⟨_, _, rfl⟩
 obtain ⟨B, cap, rfl⟩ := hfin; have Fin := hh_ (Mn own hg.size); clear own; go_wp2; go_ret; exact ⟨B, cap, rfl, Fin.out, hg.trans hg3⟩) : p := h
theorem uQ_ (h : p := by
 rcases own.2 with ⟨e, h0⟩ | ⟨g', cap', cur', e, _⟩
 · exact ⟨none, 0, by rw [h0]; exact e⟩
 · exact ⟨_, _, e⟩) : p := h
theorem wc_ (h : p := by
 cases xs with
 | nil => rfl
 | cons x l => obtain ⟨g, o, e, _⟩ := h 0 x rfl; cases e) : p := h
theorem wq_ (h : p := by
 exact ⟨fun v w w' hg ⟨g, e, h⟩ => ⟨g, e, h.grow hg⟩, trivial⟩) : p := h
theorem wv_ (h : p := by
 unfold xD; rw [List.range_succ, List.flatMap_append]; simp [QX, h]) : p := h
theorem wK_ (h : p := by
 obtain ⟨s, hsk⟩ : ∃ s, ss[k]? = some s := ⟨_, qQ_ hlt⟩
 obtain ⟨g, o, rfl, c1, hz⟩ := Hs.out k s hsk _ hg; have hm2 : m + s.xs.length = (ko (ss.take (k + 1))).length := by rw [jQ hsk, List.length_append, <- Hm.out]
 have hb := Qb ss (k + 1); rw [<- hm2] at hb; have Hm2 := hh_ hm2; have hwp : IntKind.i64.wrap ((m : Int) + (s.xs.length : Int)) = ((m + s.xs.length : Nat) : Int) := by rw [IntKind.wrap_i64]; omega
 have d0 : decide (((m + s.xs.length : Nat) : Int) < 0) = false := decide_eq_false vU_; clear hm2 hsk hz; go_wp2; go_roundw
 case rel => exact uL_
 case measure => exact vZ_) : p := h
end Go
namespace Go.Proofs.YthhbiemnbkfobaaGreat
open Go.RowKit Go.Calm
structure L2 (α : Type) where
  A : Option Addr
  xs : List α
  cap : Nat
def Er {α : Type} (P : World -> Option Addr -> List α -> Prop) (w : World) (A : Option Addr) (ss : List (L2 α)) : Prop := ∀ i s, ss[i]? = some s -> ∃ g o, A = some ⟨g, o, none⟩ /\ w.cell? ⟨g, o + i, none⟩ = some (.slice s.A s.xs.length s.cap) /\ P w s.A s.xs
def ko {α : Type} (ss : List (L2 α)) : List α := ss.flatMap L2.xs
theorem jQ {α : Type} {ss : List (L2 α)} {k : Nat} {s : L2 α} (h : ss[k]? = some s) : ko (ss.take (k + 1)) = ko (ss.take k) ++ s.xs := by
  obtain ⟨h1, e1⟩ := qQ9.1 h; rw [List.take_succ_eq_append_getElem h1, e1]; simp [ko]
theorem Qb {α : Type} (ss : List (L2 α)) (k : Nat) : (ko (ss.take k)).length <= (ko ss).length := by
  have : ko ss = ko (ss.take k) ++ ko (ss.drop k) := by unfold ko; rw [<- List.flatMap_append, List.take_append_drop]
  rw [this, List.length_append]; omega
theorem YT {P : Program} {w : World} (base : Nat) (t ty e : TypeId) (i : TypeInfo) (size : Nat) (ht : P.underlying t = some (.slice e)) (hi : P.info? e = some i)
    (v : Value) (n : Nat) (xs : List Value) (hown : w.ownsRow base e size v n xs) (c : Nat) :
    (Builtin.append_ #[t, t] ty #[v, .slice none 0 c]).run P w = .ok v w := by
  rcases hown.2 with ⟨rfl, rfl⟩ | ⟨g, cap, cur, rfl, _, _, hnc, _⟩
  · simp [Builtin.append_, run_underlying ht, sizeOf, typeInfo, hi, Builtin.lenOf, Builtin.firstCells]
  · simp [Builtin.append_, run_underlying ht, sizeOf, typeInfo, hi, Builtin.lenOf, Builtin.firstCells, hnc, storeCells]
theorem qP {P : Program} {w : World} {ops : Array Oper} {rest : List Oper} {o : Oper} {a : Act} {Q : Exit -> Act -> World -> Prop} (hgd : o.guard = none) (s x : Operand) (t : TypeId)
    (ho : o.op = .call { callee := .builtin .append, args := #[s, x], argTypes := #[t, t] })
    (base : Nat) (e : TypeId) (i : TypeInfo) (size : Nat) (ht : P.underlying t = some (.slice e)) (hi : P.info? e = some i)
    (v : Value) (n : Nat) (xs : List Value) (hs : a.eval s = v) (hown : w.ownsRow base e size v n xs) (c : Nat) (hx : a.eval x = .slice none 0 c)
    (h : wpList P ops Q rest (a.put o.dst v) w) : wpList P ops Q (o :: rest) a w := by
  refine wpList_plain hgd fun K hK => ?_
  have hrun := YT (P := P) (w := w) base t o.type e i size ht hi v n xs hown c; unfold Oper.wp; simp [execOp, ho, resolve, invoke, builtin, hs, hx, hrun, Result.andThen]; exact hK _ _ h
theorem Jk : ∀ a b : List V, zG (a ++ b) = zG a ++ zG b
  | [], b => rfl
  | x :: a, b => by simp [zG, Jk a b]
theorem QT : ∀ (l : List V), ∀ u ∈ zG l, u.oneCell' = true
  | [], u, hu => by simp [zG] at hu
  | x :: l, u, hu => by
    simp only [zG, List.mem_cons] at hu; rcases hu with rfl | rfl | rfl | hu
    · rfl
    · rfl
    · rfl
    · exact QT l u hu
def xp (l : List Int) : List Value := l.map (Value.int .i64)
theorem RR (a b : List Int) : xp (a ++ b) = xp a ++ xp b := by simp [xp]
theorem RS (a : List Int) : (xp a).length = a.length * 1 := by simp [xp]
theorem Nx (l : List Int) : ∀ u ∈ xp l, u.oneCell' = true := fun u hu => by
  obtain ⟨x, _, rfl⟩ := List.mem_map.1 hu; rfl
theorem Vo {w : World} {A : Option Addr} {xs : List V} (h : xd w A xs) {ad : Addr} (hA : A = some ad) : ∀ j u, (zG xs)[j]? = some u -> w.cell? (ad.add j) = some u := fun j u hj => by
  have hlt : j < (zG xs).length := (qQ9.1 hj).1; rw [Xy] at hlt; have hi : j / 3 < xs.length := by omega
  obtain ⟨x, hx⟩ : ∃ x, xs[j / 3]? = some x := ⟨_, qQ_ hi⟩
  obtain ⟨a, b, c⟩ := jR _ _ _ hx; obtain ⟨g, o, e, c1, c2, c3⟩ := h _ _ hx; rw [hA] at e; cases e; rw [yw]; have h3 : j % 3 = 0 \/ j % 3 = 1 \/ j % 3 = 2 := by omega
  rcases h3 with h3 | h3 | h3
  · rw [show j / 3 * 3 = j by omega] at a
    rw [a] at hj; cases hj; rw [show o + j = o + j / 3 * 3 by omega]; exact c1
  · rw [show j / 3 * 3 + 1 = j by omega] at b
    rw [b] at hj; cases hj; rw [show o + j = o + j / 3 * 3 + 1 by omega]; exact c2
  · rw [show j / 3 * 3 + 2 = j by omega] at c
    rw [c] at hj; cases hj; rw [show o + j = o + j / 3 * 3 + 2 by omega]; exact c3
theorem Vn {w : World} {A : Option Addr} {xs : List Int} (h : xc w A xs) {ad : Addr} (hA : A = some ad) : ∀ j u, (xp xs)[j]? = some u -> w.cell? (ad.add j) = some u := fun j u hj => by
  unfold xp at hj; rw [List.getElem?_map] at hj; cases hx : xs[j]? with
  | none => rw [hx] at hj; simp at hj
  | some x =>
    rw [hx] at hj; simp at hj; subst hj; obtain ⟨g, o, e, c1⟩ := h _ _ hx; rw [hA] at e; cases e; rw [yw]; exact c1
theorem CB {w : World} {xs : List V} (h : xd w none xs) : xs = [] := wc_
theorem Cz {w : World} {xs : List Int} (h : xc w none xs) : xs = [] := wc_
theorem Mn {w : World} {b b' n s : Nat} {e : TypeId} {v : Value} {xs : List Value} (h : w.ownsRow b e s v n xs) (hb : b' <= b) : w.ownsRow b' e s v n xs := by
  obtain ⟨h1, h2⟩ := h; refine ⟨h1, ?_⟩; rcases h2 with h2 | ⟨g, cap, cur, a, c, d⟩
  · exact .inl h2
  · exact .inr ⟨g, cap, cur, a, by omega, d⟩
def Df (w : World) (src : Value) (L : List V) : Prop := (∃ c, src = .slice none 0 c /\ L = []) \/ ∃ ad c, src = .slice (some ad) L.length c /\ ∀ j u, (zG L)[j]? = some u -> w.cell? (ad.add j) = some u
theorem PQ {w : World} {A : Option Addr} {xs : List V} {c : Nat} (h : xd w A xs) : Df w (.slice A xs.length c) xs := by
  cases A with
  | none => have e := CB h; subst e; exact .inl ⟨c, rfl, rfl⟩
  | some ad => exact .inr ⟨ad, c, rfl, Vo h rfl⟩
theorem xm {w : World} {ops : Array Oper} {rest : List Oper} {o : Oper} {a : Act} {Q : Exit -> Act -> World -> Prop} (hgd : o.guard = none) (s x : Operand)
    (ho : o.op = .call { callee := .builtin .append, args := #[s, x], argTypes := #[52, 52] })
    (base : Nat) (v : Value) (n : Nat) (xs : List V) (hs : a.eval s = v) (hown : w.ownsRow base 24 3 v n (zG xs)) (src : Value) (L : List V) (hx : a.eval x = src) (hsrc : Df w src L) (hB : n + L.length <= 1000000) (hbase : base <= w.heap.size)
    (h : ∀ v' w', w'.ownsRow base 24 3 v' (n + L.length) (zG (xs ++ L)) -> w.grownBy w' v.ownBlock -> wpList Tryz.prog ops Q rest (a.put o.dst v') w') : wpList Tryz.prog ops Q (o :: rest) a w := by
  obtain ⟨ti, hti, hz0, hz1, hz2⟩ := X9; rcases hsrc with ⟨c, rfl, rfl⟩ | ⟨ad, c, rfl, hc⟩
  · refine qP hgd s x _ ho base 24 ti 3 Tryz.underlying52 hti v n (zG xs) hs hown c hx ?_
    exact h v w vz_ ⟨rfl, rfl, rfl, Nat.le_refl _, fun _ _ _ => rfl⟩
  · refine wpList_append_own _ hgd s x _ ho base 24 ti (.agg #[.int .i64 0, .int .i64 0, .string ⟨#[]⟩]) 3 32 Tryz.underlying52 hti hz0 hz1 hz2 rfl vT_ v n (zG xs) hs hown ad L.length c (zG L) hx (by rw [Xy]) hc (QT _) vr_ vU_ hbase ?_
    intro v' w' h1 h2 _; exact h v' w' (by rw [Jk]; exact h1) h2
theorem R0 (n : Nat) (w : World) (hn : n <= 100000) :
    Calls Tryz.prog 156 #[.slice none 0 0, .int .i64 n] w fun e w' => ∃ v, e = .returned v /\ w'.ownsRow w.heap.size 24 3 v 0 (zG []) /\ za w w' := by
  obtain ⟨ti, hti, hz0, hz1, hz2⟩ := X9; go_enter Tryz.func156, Tryz.ntmps156
  by_cases h0 : n = 0
  · exact uJ_
  · have hpos : decide ((0 : Int) < (n : Int)) = true := decide_eq_true vU_
    have hwp : IntKind.i64.wrap (n : Int) = (n : Int) := by rw [IntKind.wrap_i64]; omega
    have hrz := fun ty => Lib.run_append_nil_zeros w 52 3 ty 24 ti _ .i64 .i64 Tryz.underlying52 Tryz.underlying3 hti hz0 n vU_ vU_ vU_ vC_
    have hge : n <= grownCap w n 0 24 := grownCap_ge w n 0 _; have hmx := grownCap_le_maxLen w n 0 24 vr_; obtain ⟨G, hG⟩ : ∃ G, grownCap w n 0 24 = G := ⟨_, rfl⟩
    rw [hG] at hrz hge hmx; have HM := hh_ hmx; have hG63 : G <= 9223372036854775807 := by unfold maxLen at hmx; omega
    clear hG hmx
    go_wp2_with (at_builtin; refine Lib.wpList_append_run _ rfl _ _ _ _ rfl _ _ rfl rfl _ _ (hrz _) ?_)
    go_ret; refine ⟨_, rfl, World.ownsRow_made w.drew _ G (Nat.le_refl _) HM.out ?_, (za.refl w).drew.al _⟩; simp [size_zeroCells, Value.cells]
    try omega
theorem LK (ss : List (L2 V)) (A : Option Addr) (c : Nat) (w : World) (hlen : ss.length <= 1000) (hs : Er xd w A ss) (hsum : (ko ss).length <= 10000) :
    Calls Tryz.prog 131 #[.slice A ss.length c] w fun en w' => ∃ (B : Option Addr) (cap : Nat), en = .returned (.slice B (ko ss).length cap) /\ w'.ownsRow w.heap.size 24 3 (.slice B (ko ss).length cap) (ko ss).length (zG (ko ss)) /\ za w w' := by
  have Hs := hh_ (fun i s (h : ss[i]? = some s) W (hg : za w W) => (by obtain ⟨g, o, a, b, c⟩ := hs i s h; exact ⟨g, o, a, hg.cell b, xd.grow c hg⟩ : ∃ g o, A = some ⟨g, o, none⟩ /\ W.cell? ⟨g, o + i, none⟩ = some (.slice s.A s.xs.length s.cap) /\ xd W s.A s.xs)); clear hs; go_enter Tryz.func131, Tryz.ntmps131; go_wp2
  go_loopw [3, 11] (fun n i wr => ∃ (k m : Nat), k <= ss.length /\ i = .int .i64 k /\ n = .int .i64 m /\ m = (ko (ss.take k)).length /\ za w wr) (fun _ i _ => ss.length - (intOf i).toNat)
  case atStart => exact u4_
  case round =>
    rename World => wa
    obtain ⟨k, m, hk, rfl, rfl, hm, hg⟩ := hrel; have Hm := hh_ hm; clear hm
    by_cases hlt : k < ss.length
    · exact wK_
    · obtain rfl : k = ss.length := by omega
      have hm2 : m <= 10000 := by rw [Hm.out, List.take_length]; exact hsum
      have cg := fun W => R0 m W vU_
      go_upto_region 10 with (go_at_call 156; ((with_reducible refine (cg _).mono ?_); rintro en w2 ⟨v, rfl, hown, hg2⟩; have Own := hh_ hown; clear hown)); have G2 := hg.trans hg2; go_wp2
      go_loopw [6, 27] (fun t i wq => ∃ (k n : Nat), k <= ss.length /\ i = .int .i64 k /\ n = (ko (ss.take k)).length /\ wq.ownsRow wa.heap.size 24 3 t n (zG (ko (ss.take k))) /\ za wa wq) (fun _ i _ => ss.length - (intOf i).toNat)
      case atStart => exact u7_
      case round =>
        obtain ⟨k, n, hk, rfl, hn, hown, hg3⟩ := hrel; have Own3 := hh_ hown; have Hn := hh_ hn; clear hown hn
        by_cases hlt : k < ss.length
        · obtain ⟨s, hsk⟩ : ∃ s, ss[k]? = some s := ⟨_, qQ_ hlt⟩
          obtain ⟨g, o, rfl, c1, hz⟩ := Hs.out k s hsk _ (hg.trans hg3); have src := hh_ (PQ (c := s.cap) hz); have hn2 : n + s.xs.length = (ko (ss.take (k + 1))).length := by rw [jQ hsk, List.length_append, <- Hn.out]
          have hfl := hh_ (jQ hsk); have hb := Qb ss (k + 1); rw [<- hn2] at hb; have Hn2 := hh_ hn2; clear hn2 hsk hz
          go_wp2_with (at_builtin; refine xm rfl _ _ rfl wa.heap.size _ n (ko (ss.take k)) rfl Own3.out _ s.xs rfl src.out vU_ hg3.size ?_; intro v' w7 hown' hgrow)
          have hg7 : za wa w7 := yg hg3 hgrow Own3.out; have Own7 := hh_ hown'; clear hgrow hown'; go_wp2; go_roundw
          case rel => exact uz_
          case measure => exact vZ_
        · exact v9_
theorem LL (x y : L2 V) (g : Nat) (t : TypeId) (w : World) (h : zc w g t #[.slice x.A x.xs.length x.cap, .slice y.A y.xs.length y.cap]) (hx : xd w x.A x.xs) (hy : xd w y.A y.xs) (hl : x.xs.length + y.xs.length <= 10000) :
    Calls Tryz.prog 131 #[.slice (some ⟨g, 0, none⟩) 2 2] w fun en w' => ∃ (B : Option Addr) (cap : Nat), en = .returned (.slice B (x.xs ++ y.xs).length cap) /\ w'.ownsRow w.heap.size 24 3 (.slice B (x.xs ++ y.xs).length cap) (x.xs ++ y.xs).length (zG (x.xs ++ y.xs)) /\ za w w' := by
  have := LK [x, y] (some ⟨g, 0, none⟩) 2 w vV_ (fun i s hs => by
    match i, hs with
    | 0, hs => simp at hs; subst hs; exact ⟨g, 0, rfl, by rw [h.cell]; rfl, hx⟩
    | 1, hs => simp at hs; subst hs; exact ⟨g, 0, rfl, by rw [h.cell]; rfl, hy⟩) (by simp [ko]; omega)
  have e : ko [x, y] = x.xs ++ y.xs := by simp [ko]
  rw [e] at this; exact this
def De (w : World) (src : Value) (L : List Int) : Prop := (∃ c, src = .slice none 0 c /\ L = []) \/ ∃ ad c, src = .slice (some ad) L.length c /\ ∀ j u, (xp L)[j]? = some u -> w.cell? (ad.add j) = some u
theorem PP {w : World} {A : Option Addr} {xs : List Int} {c : Nat} (h : xc w A xs) : De w (.slice A xs.length c) xs := by
  cases A with
  | none => have e := Cz h; subst e; exact .inl ⟨c, rfl, rfl⟩
  | some ad => exact .inr ⟨ad, c, rfl, Vn h rfl⟩
theorem zT {w : World} {ops : Array Oper} {rest : List Oper} {o : Oper} {a : Act} {Q : Exit -> Act -> World -> Prop} (hgd : o.guard = none) (s x : Operand)
    (ho : o.op = .call { callee := .builtin .append, args := #[s, x], argTypes := #[55, 55] })
    (base : Nat) (v : Value) (n : Nat) (xs : List Int) (hs : a.eval s = v) (hown : w.ownsRow base 3 1 v n (xp xs)) (src : Value) (L : List Int) (hx : a.eval x = src) (hsrc : De w src L) (hB : n + L.length <= 1000000) (hbase : base <= w.heap.size)
    (h : ∀ v' w', w'.ownsRow base 3 1 v' (n + L.length) (xp (xs ++ L)) -> w.grownBy w' v.ownBlock -> wpList Tryz.prog ops Q rest (a.put o.dst v') w') : wpList Tryz.prog ops Q (o :: rest) a w := by
  obtain ⟨ti, hti, hz0, hz1, hz2⟩ := jb; rcases hsrc with ⟨c, rfl, rfl⟩ | ⟨ad, c, rfl, hc⟩
  · refine qP hgd s x _ ho base 3 ti 1 Tryz.underlying55 hti v n (xp xs) hs hown c hx ?_
    exact h v w vz_ ⟨rfl, rfl, rfl, Nat.le_refl _, fun _ _ _ => rfl⟩
  · refine wpList_append_own _ hgd s x _ ho base 3 ti (.int .i64 0) 1 8 Tryz.underlying55 hti hz0 hz1 hz2 rfl vT_ v n (xp xs) hs hown ad L.length c (xp L) hx (by rw [RS]) hc (Nx _) vr_ vU_ hbase ?_
    intro v' w' h1 h2 _; exact h v' w' (by rw [RR]; exact h1) h2
theorem RY (n : Nat) (w : World) (hn : n <= 100000) :
    Calls Tryz.prog 81 #[.slice none 0 0, .int .i64 n] w fun e w' => ∃ v, e = .returned v /\ w'.ownsRow w.heap.size 3 1 v 0 (xp []) /\ za w w' := by
  obtain ⟨ti, hti, hz0, hz1, hz2⟩ := jb; go_enter Tryz.func81, Tryz.ntmps81
  by_cases h0 : n = 0
  · exact uJ_
  · have hpos : decide ((0 : Int) < (n : Int)) = true := decide_eq_true vU_
    have hwp : IntKind.i64.wrap (n : Int) = (n : Int) := by rw [IntKind.wrap_i64]; omega
    have hrz := fun ty => Lib.run_append_nil_zeros w 55 3 ty 3 ti _ .i64 .i64 Tryz.underlying55 Tryz.underlying3 hti hz0 n vU_ vU_ vU_ vC_
    have hge : n <= grownCap w n 0 3 := grownCap_ge w n 0 _; have hmx := grownCap_le_maxLen w n 0 3 vr_; obtain ⟨G, hG⟩ : ∃ G, grownCap w n 0 3 = G := ⟨_, rfl⟩
    rw [hG] at hrz hge hmx; have HM := hh_ hmx; have hG63 : G <= 9223372036854775807 := by unfold maxLen at hmx; omega
    clear hG hmx
    go_wp2_with (at_builtin; refine Lib.wpList_append_run _ rfl _ _ _ _ rfl _ _ rfl rfl _ _ (hrz _) ?_)
    go_ret; refine ⟨_, rfl, World.ownsRow_made w.drew _ G (Nat.le_refl _) HM.out ?_, (za.refl w).drew.al _⟩; simp [size_zeroCells, Value.cells]
    try omega
theorem LJ (ss : List (L2 Int)) (A : Option Addr) (c : Nat) (w : World) (hlen : ss.length <= 1000) (hs : Er xc w A ss) (hsum : (ko ss).length <= 10000) :
    Calls Tryz.prog 45 #[.slice A ss.length c] w fun en w' => ∃ (B : Option Addr) (cap : Nat), en = .returned (.slice B (ko ss).length cap) /\ w'.ownsRow w.heap.size 3 1 (.slice B (ko ss).length cap) (ko ss).length (xp (ko ss)) /\ za w w' := by
  have Hs := hh_ (fun i s (h : ss[i]? = some s) W (hg : za w W) => (by obtain ⟨g, o, a, b, c⟩ := hs i s h; exact ⟨g, o, a, hg.cell b, xc.grow c hg⟩ : ∃ g o, A = some ⟨g, o, none⟩ /\ W.cell? ⟨g, o + i, none⟩ = some (.slice s.A s.xs.length s.cap) /\ xc W s.A s.xs)); clear hs; go_enter Tryz.func45, Tryz.ntmps45; go_wp2
  go_loopw [3, 11] (fun n i wr => ∃ (k m : Nat), k <= ss.length /\ i = .int .i64 k /\ n = .int .i64 m /\ m = (ko (ss.take k)).length /\ za w wr) (fun _ i _ => ss.length - (intOf i).toNat)
  case atStart => exact u4_
  case round =>
    rename World => wa
    obtain ⟨k, m, hk, rfl, rfl, hm, hg⟩ := hrel; have Hm := hh_ hm; clear hm
    by_cases hlt : k < ss.length
    · exact wK_
    · obtain rfl : k = ss.length := by omega
      have hm2 : m <= 10000 := by rw [Hm.out, List.take_length]; exact hsum
      have cg := fun W => RY m W vU_
      go_upto_region 10 with (go_at_call 81; ((with_reducible refine (cg _).mono ?_); rintro en w2 ⟨v, rfl, hown, hg2⟩; have Own := hh_ hown; clear hown)); have G2 := hg.trans hg2; go_wp2
      go_loopw [6, 27] (fun t i wq => ∃ (k n : Nat), k <= ss.length /\ i = .int .i64 k /\ n = (ko (ss.take k)).length /\ wq.ownsRow wa.heap.size 3 1 t n (xp (ko (ss.take k))) /\ za wa wq) (fun _ i _ => ss.length - (intOf i).toNat)
      case atStart => exact u7_
      case round =>
        obtain ⟨k, n, hk, rfl, hn, hown, hg3⟩ := hrel; have Own3 := hh_ hown; have Hn := hh_ hn; clear hown hn
        by_cases hlt : k < ss.length
        · obtain ⟨s, hsk⟩ : ∃ s, ss[k]? = some s := ⟨_, qQ_ hlt⟩
          obtain ⟨g, o, rfl, c1, hz⟩ := Hs.out k s hsk _ (hg.trans hg3); have src := hh_ (PP (c := s.cap) hz); have hn2 : n + s.xs.length = (ko (ss.take (k + 1))).length := by rw [jQ hsk, List.length_append, <- Hn.out]
          have hfl := hh_ (jQ hsk); have hb := Qb ss (k + 1); rw [<- hn2] at hb; have Hn2 := hh_ hn2; clear hn2 hsk hz
          go_wp2_with (at_builtin; refine zT rfl _ _ rfl wa.heap.size _ n (ko (ss.take k)) rfl Own3.out _ s.xs rfl src.out vU_ hg3.size ?_; intro v' w7 hown' hgrow)
          have hg7 : za wa w7 := yg hg3 hgrow Own3.out; have Own7 := hh_ hown'; clear hgrow hown'; go_wp2; go_roundw
          case rel => exact uz_
          case measure => exact vZ_
        · exact v9_
theorem kQ (x y : L2 Int) (g : Nat) (t : TypeId) (w : World) (h : zc w g t #[.slice x.A x.xs.length x.cap, .slice y.A y.xs.length y.cap]) (hx : xc w x.A x.xs) (hy : xc w y.A y.xs) (hl : x.xs.length + y.xs.length <= 10000) :
    Calls Tryz.prog 45 #[.slice (some ⟨g, 0, none⟩) 2 2] w fun en w' => ∃ (B : Option Addr) (cap : Nat), en = .returned (.slice B (x.xs ++ y.xs).length cap) /\ w'.ownsRow w.heap.size 3 1 (.slice B (x.xs ++ y.xs).length cap) (x.xs ++ y.xs).length (xp (x.xs ++ y.xs)) /\ za w w' := by
  have := LJ [x, y] (some ⟨g, 0, none⟩) 2 w vV_ (fun i s hs => by
    match i, hs with
    | 0, hs => simp at hs; subst hs; exact ⟨g, 0, rfl, by rw [h.cell]; rfl, hx⟩
    | 1, hs => simp at hs; subst hs; exact ⟨g, 0, rfl, by rw [h.cell]; rfl, hy⟩) (by simp [ko]; omega)
  have e : ko [x, y] = x.xs ++ y.xs := by simp [ko]
  rw [e] at this; exact this
def xQ (l r : List Int) (x : E) (a b : List Z) : Int := if 8 < l.length + r.length then 5 else MU [y6 (l ++ r) x, zz l a, zz r b]
theorem Ml : ∀ {xs : List Int}, MU xs = 0 -> ∀ x ∈ xs, x = 0
  | [], _, x, hx => by simp at hx
  | y :: l, h, x, hx => by
    unfold MU at h; split at h
    · exact uD_
    · rename_i h1
      rcases List.mem_cons.1 hx with rfl | hx
      · simpa using h1
      · exact Ml h x hx
theorem qy {l r : List Int} {x : E} {a b : List Z} (h : xQ l r x a b = 0) : l.length + r.length <= 8 /\ y6 (l ++ r) x = 0 /\ zz l a = 0 /\ zz r b = 0 := by
  unfold xQ at h; split at h
  · simp at h
  · have := Ml h
    exact ⟨by omega, this _ vV_, this _ vV_, this _ vV_⟩
theorem jo {w : World} {base n cap : Nat} {B : Option Addr} {ys : List Int} (h : w.ownsRow base 3 1 (.slice B n cap) n (xp ys)) (hn : n = ys.length) : xc w B ys := by
  obtain ⟨B', c', e, hv, _⟩ := Qg h; simp at e; rw [e.1]; exact hv
def P2 (l r : L2 Int) (v : Value) (W : World) : Prop := ∃ g, v = .slice (some ⟨g, 0, none⟩) 2 2 /\ zc W g 55 #[.slice l.A l.xs.length l.cap, .slice r.A r.xs.length r.cap]
def PC (lr : List Int) (v : Value) (W : World) : Prop := ∃ (B : Option Addr) (cap : Nat), v = .slice B lr.length cap /\ xc W B lr
def P3 (a b c : Int) (v : Value) (W : World) : Prop := ∃ g, v = .slice (some ⟨g, 0, none⟩) 3 3 /\ zc W g 35 #[.int .i64 a, .int .i64 b, .int .i64 c]
theorem LG (a b c : Int) (g : Nat) (w : World) (t : TypeId) (hb : zc w g t #[.int .i64 a, .int .i64 b, .int .i64 c]) :
    Calls Tryz.prog 84 #[.slice (some ⟨g, 0, none⟩) 3 3] w fun en w' => en = .returned (.int .i64 (MU [a, b, c])) /\ za w w' :=
  W3 [a, b, c] (some ⟨g, 0, none⟩) 3 w vV_ (fun i x hx => by
    match i, hx with
    | 0, hx => simp at hx; subst hx; exact ⟨g, 0, rfl, by rw [hb.cell]; rfl⟩
    | 1, hx => simp at hx; subst hx; exact ⟨g, 0, rfl, by rw [hb.cell]; rfl⟩
    | 2, hx => simp at hx; subst hx; exact ⟨g, 0, rfl, by rw [hb.cell]; rfl⟩)
theorem Ql (l r : L2 Int) (x : E) (a b : S) (w : World) (hll : l.xs.length <= 140737488355328) (hlr : r.xs.length <= 140737488355328) (hl : xc w l.A l.xs) (hr : xc w r.A r.xs) (hE : EX w x) (ha : In w a) (hb : In w b) :
    Calls Tryz.prog 89 #[.slice l.A l.xs.length l.cap, .slice r.A r.xs.length r.cap, x.val, .slice a.A a.xs.length a.cap, .slice b.A b.xs.length b.cap] w fun en w' => en = .returned (.int .i64 (xQ l.xs r.xs x a.z b.z)) /\ za w w' := by
  have HL := hh_ hl; have HR := hh_ hr; have HX := hh_ hE; have Ha := hh_ ha; have Hb := hh_ hb; have hlen3 : (l.xs ++ r.xs).length <= 9223372036854775807 := by simp; omega
  obtain ⟨LR, hLR⟩ : ∃ LR, l.xs ++ r.xs = LR := ⟨_, rfl⟩
  have cc := hh_ (fun (g : Nat) W (h1 : zc W g 55 #[.slice l.A l.xs.length l.cap, .slice r.A r.xs.length r.cap]) (hg : za w W) (h8 : l.xs.length + r.xs.length <= 10000) => by have := kQ l r g _ W h1 (HL.out.grow hg) (HR.out.grow hg) h8; rw [hLR] at this; exact this); rw [hLR] at hlen3; have ct0 := fun (B : Option Addr) (cap : Nat) W (hg : za w W) (h : xc W B LR) => LO LR B cap x W hlen3 h (HX.out.grow hg)
  have c1 := fun W (hg : za w W) => qu l.xs l.A l.cap a.xs a.A a.cap W vU_ (HL.out.grow hg) (Ha.out.grow hg)
  have c2 := fun W (hg : za w W) => qu r.xs r.A r.cap b.xs b.A b.cap W vU_ (HR.out.grow hg) (Hb.out.grow hg)
  obtain ⟨CE, hCE⟩ : ∃ CE, y6 LR x = CE := ⟨_, rfl⟩
  obtain ⟨I1, hI1⟩ : ∃ I1, zz l.xs a.z = I1 := ⟨_, rfl⟩
  obtain ⟨I2, hI2⟩ : ∃ I2, zz r.xs b.z = I2 := ⟨_, rfl⟩
  rw [show a.xs.map zp = a.z from rfl, hI1] at c1; rw [show b.xs.map zp = b.z from rfl, hI2] at c2; rw [hCE] at ct0; unfold E.val at ct0; have ct := hh_ ct0; obtain ⟨R, hR⟩ : ∃ R, xQ l.xs r.xs x a.z b.z = R := ⟨_, rfl⟩
  have fin : R = if 8 < l.xs.length + r.xs.length then 5 else MU [CE, I1, I2] := by rw [<- hR, <- hCE, <- hI1, <- hI2, <- hLR]; rfl
  rw [hR]; have Fin := hh_ fin; clear hLR hlen3 ct0 hl hr hE ha hb hCE hI1 hI2 hR fin; unfold E.val; go_enter Tryz.func89, Tryz.ntmps89; go_upto_region 1 with fail
  refine zd (fun X => zc X w.heap.size 27 #[.int .i64 x.kind, .int .i64 x.v.k, .int .i64 x.v.n, .string x.v.s, .int .i64 x.col, .slice x.A x.n x.cap] /\ za w X) ⟨zc.new _ _ _, (za.refl w).al _⟩ ?_; rintro X ⟨Bx, G⟩; have hwp : IntKind.i64.wrap ((l.xs.length : Int) + (r.xs.length : Int)) = ((l.xs.length + r.xs.length : Nat) : Int) := by rw [IntKind.wrap_i64]; omega
  by_cases h8 : 8 < l.xs.length + r.xs.length
  · have d8 : decide ((8 : Int) < ((l.xs.length + r.xs.length : Nat) : Int)) = true := decide_eq_true vU_
    go_wp2; go_ret; exact zx (by rw [Fin.out, if_pos h8]) G
  · have d8 : decide ((8 : Int) < ((l.xs.length + r.xs.length : Nat) : Int)) = false := decide_eq_false vU_
    have eR : R = MU [CE, I1, I2] := by rw [Fin.out, if_neg h8]
    subst eR; go_upto_region 3 with fail
    clear hwp d8; apply zb 15 vP_ vP_
    case h' =>
      intro Q0 hQ0; simp only [List.take_succ_cons, List.take_zero]
      repeat ((first | ((first | apply zh rfl | apply zo rfl rfl rfl); case h1 => (intro w1 hw1 hF K hK; obtain ⟨bx, fx⟩ := (Bx.grow hw1).rules; go_simp; first | exact hK _ (za.refl _))) | apply zm rfl rfl rfl rfl); intro K hK; go_simp; apply hK; clear hK K)
      apply ze (P2 l r) rfl
      case h1 => exact vY_
      intro v19 K hK; go_simp; apply hK; clear hK K; apply ze (PC LR) rfl
      case h1 =>
        intro w1 hw1 hF K hK; obtain ⟨g, hv, h1⟩ := hF _ (List.mem_cons_self ..) ⟨_, rfl, by decide⟩; subst hv; go_simp
        go_at_call 45
        refine (cc.out g w1 h1 (G.trans hw1) vU_).mono ?_; rintro en w' ⟨B, cap, rfl, ho, hg'⟩; exact ⟨_, rfl, hK _ _ hg' ⟨B, cap, rfl, jo ho rfl⟩⟩
      intro v20 K hK; go_simp; apply hK; clear hK K
      repeat ((first | ((first | apply zh rfl | apply zo rfl rfl rfl); case h1 => (intro w1 hw1 hF K hK; obtain ⟨bx, fx⟩ := (Bx.grow hw1).rules; go_simp; first | exact hK _ (za.refl _))) | apply zm rfl rfl rfl rfl); intro K hK; go_simp; apply hK; clear hK K)
      apply zh rfl
      case h1 =>
        intro w1 hw1 hF K hK; obtain ⟨B, cap, hv, h1⟩ := hF _ (List.mem_cons_self ..) ⟨_, rfl, by decide⟩; subst hv; go_simp
        go_at_call 85
        with_reducible refine (ct.out B cap w1 (G.trans hw1) h1).mono ?_
        rintro en w' ⟨rfl, hg'⟩; exact ⟨_, rfl, hK _ hg'⟩
      intro K hK; go_simp; apply hK; clear hK K
      repeat ((first | ((first | apply zh rfl | apply zo rfl rfl rfl); case h1 => (intro w1 hw1 hF K hK; obtain ⟨bx, fx⟩ := (Bx.grow hw1).rules; go_simp; first | exact hK _ (za.refl _) | (go_at_call 30; ((with_reducible refine (c1 _ (G.trans hw1)).mono ?_); rintro e w' ⟨rfl, hg⟩; exact ⟨_, rfl, hK _ hg⟩)) | (go_at_call 30; ((with_reducible refine (c2 _ (G.trans hw1)).mono ?_); rintro e w' ⟨rfl, hg⟩; exact ⟨_, rfl, hK _ hg⟩)))) | apply zm rfl rfl rfl rfl); intro K hK; go_simp; apply hK; clear hK K)
      apply ze (P3 CE I1 I2) rfl
      case h1 => exact vY_
      intro v29 K hK; go_simp; apply hK; clear hK K; apply zh rfl
      case h1 =>
        intro w1 hw1 hF K hK; obtain ⟨g, hv, h1⟩ := hF _ (List.mem_cons_self ..) ⟨_, rfl, by decide⟩; subst hv; go_simp
        go_at_call 84
        refine (LG CE I1 I2 g w1 _ h1).mono ?_; rintro en w' ⟨rfl, hg'⟩; exact ⟨_, rfl, hK _ hg'⟩
      intro K hK; go_simp; apply hK; clear hK K
      repeat ((first | ((first | apply zh rfl | apply zo rfl rfl rfl); case h1 => (intro w1 hw1 hF K hK; obtain ⟨bx, fx⟩ := (Bx.grow hw1).rules; go_simp; first | exact hK _ (za.refl _))) | apply zm rfl rfl rfl rfl); intro K hK; go_simp; apply hK; clear hK K)
      refine zk ?_; intro w1 hw1 hF; apply hQ0; clear hQ0; simp only [List.drop_succ_cons, List.drop_zero]; clear hF; go_wp2; go_ret; exact zx rfl (G.trans hw1)
    case hp' => exact ⟨fun v w w' hg ⟨g, e, h⟩ => ⟨g, e, h.grow hg⟩, fun v w w' hg ⟨B, c, e, h⟩ => ⟨B, c, e, h.grow hg⟩, fun v w w' hg ⟨g, e, h⟩ => ⟨g, e, h.grow hg⟩, trivial⟩
theorem j7 {w : World} {ops : Array Oper} {rest : List Oper} {o : Oper} {a : Act} {Q : Exit -> Act -> World -> Prop} (hgd : o.guard = none) (s x : Operand)
    (ho : o.op = .call { callee := .builtin .append, args := #[s, x], argTypes := #[34, 34] })
    (base : Nat) (v : Value) (n : Nat) (xs : List I) (hs : a.eval s = v) (hown : w.ownsRow base 54 2 v n (zq xs)) (g : Nat) (y : I) (hx : a.eval x = .slice (some ⟨g, 0, none⟩) 1 1) (hb : zc w g 54 #[.slice y.A y.row.length y.cap, .int .i64 y.w]) (hB : n + 1 <= 1000000) (hbase : base <= w.heap.size)
    (h : ∀ v' w', w'.ownsRow base 54 2 v' (n + 1) (zq (xs ++ [y])) -> w.grownBy w' v.ownBlock -> (v'.ownBlock = v.ownBlock \/ v'.ownBlock = some w.heap.size) -> wpList Tryz.prog ops Q rest (a.put o.dst v') w') : wpList Tryz.prog ops Q (o :: rest) a w := by
  obtain ⟨ti, hti, hz0, hz1, hz2⟩ := xX; refine wpList_append_own_at _ hgd s x _ ho base 54 ti (.agg #[.slice none 0 0, .int .i64 0]) 2 32 Tryz.underlying34 hti hz0 hz1 hz2 rfl vT_ v n (zq xs) hs hown ⟨g, 0, none⟩ 1 1 (zq [y]) hx (by rw [yS]; rfl) (fun j u hj => ?_) (Xx _) vr_ vU_ hbase ?_
  · rw [yw, hb.cell]
    match j, hj with
    | 0, hj => simp [zq] at hj; subst hj; rfl
    | 1, hj => simp [zq] at hj; subst hj; rfl
  · intro v' w' h1 h2 _ h4
    exact h v' w' (by rw [xh]; exact h1) h2 h4
theorem zc.by {w w' : World} {q : Nat} {t : TypeId} {cs : Array Value} {row : Option Nat} (h : zc w q t cs) (hg : w.grownBy w' row) (hne : some q ≠ row) : zc w' q t cs := by
  unfold zc at h ⊢; rw [hg.block q (zc.lt h) hne]; exact h
theorem qS.other {w w' : World} {y : I} {g : Nat} {t : TypeId} {cs : Array Value} (h : qS w y) (hb : zc w g t cs) (ht : t ≠ 24) (hg : w.grownBy w' (some g)) : qS w' y := by
  obtain ⟨base, h⟩ := h; refine ⟨base, World.ownsRow.kept h hg ?_⟩; rcases h.2 with ⟨e, _⟩ | ⟨g', cap, cur, e, hB, hgb, _⟩
  · rw [e]; exact .inl rfl
  · right
    rw [e]; intro e2; simp [Value.ownBlock] at e2; subst e2; unfold zc at hb; rw [hb] at hgb; simp at hgb; exact ht hgb.2
theorem TP {w : World} {g : Nat} (hlt : g < w.heap.size) (u : Value) : w.grownBy (w.setCell ⟨g, 0, none⟩ u) (some g) := by
  have h := (GX.refl g w).set 0 u; exact h
structure Eq (base go ga gb : Nat) (a b : S) (W : World) (v : Value) (out : List I) : Prop where
  bo : zc W go 34 #[v]
  ba : zc W ga 34 #[.slice a.A a.xs.length a.cap]
  bb : zc W gb 34 #[.slice b.A b.xs.length b.cap]
  own : W.ownsRow base 54 2 v out.length (zq out)
  rows : ∀ u ∈ out, qS W u
theorem Eq.grow {base go ga gb : Nat} {a b : S} {W W' : World} {v : Value} {out : List I} (h : Eq base go ga gb a b W v out) (hg : za W W') : Eq base go ga gb a b W' v out :=
  ⟨h.bo.grow hg, h.ba.grow hg, h.bb.grow hg, zr h.own hg, fun u hu => (h.rows u hu).grow hg⟩
structure Ez (we w w' : World) (go : Nat) (v v' : Value) : Prop where
  grow : za we w -> za we w'
  size : w.heap.size <= w'.heap.size
  blk : ∀ q t cs, zc w q t cs -> q ≠ go -> some q ≠ v.ownBlock -> zc w' q t cs
  own : v'.ownBlock = v.ownBlock \/ ∃ g', v'.ownBlock = some g' /\ w.heap.size <= g'
theorem kX {w : World} {base n s : Nat} {e : TypeId} {v : Value} {xs : List Value} (h : w.ownsRow base e s v n xs) {q : Nat} (hq : q < base) : some q ≠ v.ownBlock := by
  rcases h.2 with ⟨rfl, _⟩ | ⟨g, cap, cur, rfl, hB, _⟩
  · simp [Value.ownBlock]
  · simp [Value.ownBlock]; omega
def PN (m : Int) (r : L2 V) (v : Value) (W : World) : Prop := ∃ g, v = .slice (some ⟨g, 0, none⟩) 1 1 /\ zc W g 54 #[.slice r.A r.xs.length r.cap, .int .i64 m]
theorem R7 (we w : World) (base go ga gb : Nat) (a b : S) (v : Value) (out : List I) (i k : Nat) (y z : I) (r : L2 V) (hJ : Eq base go ga gb a b w v out) (hge : za we w) (hba : we.heap.size <= base) (hbw : base <= w.heap.size) (hgo : we.heap.size <= go) (hgb : go < base) (hga : ga < base) (hgb2 : gb < base) (hne1 : ga ≠ go) (hne2 : gb ≠ go)
    (ha : yI we a.A a.xs) (hb : yI we b.A b.xs) (hy : a.xs[i]? = some y) (hz : b.xs[k]? = some z) (hla : a.xs.length <= 400) (hlb : b.xs.length <= 400) (hwy : -1000000 <= y.w /\ y.w <= 1000000) (hwz : -1000000 <= z.w /\ z.w <= 1000000) (hout : out.length <= 200000) (hr : ∃ bs, w.ownsRow bs 24 3 (.slice r.A r.xs.length r.cap) r.xs.length (zG r.xs)) :
    Calls Tryz.prog 98 #[.int .i64 i, .int .i64 k, .slice r.A r.xs.length r.cap, .pointer (some ⟨go, 0, none⟩), .pointer (some ⟨ga, 0, none⟩), .pointer (some ⟨gb, 0, none⟩)] w fun en w' => en = .returned (.tuple #[]) /\ ∃ v', Eq base go ga gb a b w' v' (out ++ [I.mk r.A r.xs r.cap (y.w * z.w)]) /\ Ez we w w' go v v' := by
  obtain ⟨A0, n0, c0, rfl⟩ : ∃ A0 n0 c0, v = .slice A0 n0 c0 := by
    rcases hJ.own.2 with ⟨e, _⟩ | ⟨g', cap', cur', e, _⟩
    · exact ⟨_, _, _, e⟩
    · exact ⟨_, _, _, e⟩
  have HJ := hh_ hJ; have HR := hh_ hr; have hi : i < a.xs.length := (qQ9.1 hy).1; have hk : k < b.xs.length := (qQ9.1 hz).1; obtain ⟨g1, o1, eA, _, cy, _⟩ := (ha.grow hge) i y hy; obtain ⟨g2, o2, eB, _, cz, _⟩ := (hb.grow hge) k z hz
  have hmul : -1000000000000 <= y.w * z.w /\ y.w * z.w <= 1000000000000 := by
    obtain ⟨h1, h2⟩ := hwy; obtain ⟨h3, h4⟩ := hwz; have ha : (y.w).natAbs <= 1000000 := by omega
    have hb : (z.w).natAbs <= 1000000 := by omega
    have : (y.w * z.w).natAbs <= 1000000 * 1000000 := by rw [Int.natAbs_mul]; exact Nat.mul_le_mul ha hb
    omega
  have hwp : IntKind.i64.wrap (y.w * z.w) = y.w * z.w := by rw [IntKind.wrap_i64]; omega
  obtain ⟨Aa, as1, ca⟩ := a; obtain ⟨Ab, bs1, cb⟩ := b; simp only at eA eB hi hk hla hlb; subst eA eB; obtain ⟨m, hm⟩ : ∃ m, y.w * z.w = m := ⟨_, rfl⟩
  rw [hm] at hwp; have HM := hh_ hm; have mul : IntKind.i64.wrap (y.w * z.w) = m := by rw [hm]; exact hwp
  have C := hh_ (And.intro cy cz); have d1 : decide ((i : Int) < (as1.length : Int)) = true := decide_eq_true vU_; have d2 : decide ((k : Int) < (bs1.length : Int)) = true := decide_eq_true vU_; have p1 : (i : Int) < (as1.length : Int) := by omega
  have p2 : (k : Int) < (bs1.length : Int) := by omega
  clear hJ ha hb hy hz hm cy cz hmul hwp hr; go_enter Tryz.func98, Tryz.ntmps98; apply zb 15 vP_ vP_
  case h' =>
    intro Q0 hQ0; simp only [List.take_succ_cons, List.take_zero]
    repeat ((first | ((first | apply zh rfl | apply zo rfl rfl rfl); case h1 => (intro w1 hw1 hF K hK; obtain ⟨bo, fo⟩ := (HJ.out.bo.grow hw1).rules; obtain ⟨ba, fa⟩ := (HJ.out.ba.grow hw1).rules; obtain ⟨bb, fb⟩ := (HJ.out.bb.grow hw1).rules; obtain ⟨cy, cz⟩ := And.intro (hw1.cell C.out.1) (hw1.cell C.out.2); go_simp; first | exact hK _ (za.refl _))) | apply zm rfl rfl rfl rfl); intro K hK; go_simp; apply hK; clear hK K)
    apply ze (PN m r) rfl
    case h1 => exact vY_
    intro v23 K hK; go_simp; apply hK; clear hK K; refine zk ?_; intro w1 hw1 hF; apply hQ0; clear hQ0; simp only [List.drop_succ_cons, List.drop_zero]; obtain ⟨g, hv, hB⟩ := hF _ (List.mem_cons_self ..); subst hv; clear hF; have J1 := HJ.out.grow hw1; have own1 := J1.own; have hq1 := kX own1 hgb
    go_wp2_with (at_builtin; refine j7 rfl _ _ rfl base _ _ out rfl own1 g (I.mk r.A r.xs r.cap m) rfl hB vU_ (by have := hw1.size; omega) ?_; intro v7 w7 own7 gr7 at7; obtain ⟨g7, cap7, rfl⟩ : ∃ g7 cap7, v7 = .slice (some ⟨g7, 0, none⟩) (out.length + 1) cap7 := (by rcases own7.2 with ⟨_, h0⟩ | ⟨g', cap', cur', e, _⟩; exact absurd h0 vU_; exact ⟨_, _, e⟩); obtain ⟨bo, fo⟩ := zc.rules (zc.by J1.bo gr7 hq1))
    have hB7 := zc.by J1.bo gr7 hq1; have lt7 : go < w7.heap.size := zc.lt hB7; have g7n : (Value.slice (some ⟨g7, 0, none⟩) (out.length + 1) cap7).ownBlock = none \/ (Value.slice (some ⟨g7, 0, none⟩) (out.length + 1) cap7).ownBlock ≠ some go := .inr (Ne.symm (kX own7 hgb)); have hm := HM.out; subst hm; have keep : ∀ u, qS w u -> qS (w7.setCell ⟨go, 0, none⟩ (.slice (some ⟨g7, 0, none⟩) (out.length + 1) cap7)) u := fun u hu => ((hu.grow hw1).kept own1 gr7).other hB7 vT_ (TP lt7 _)
    go_end0; refine ⟨rfl, .slice (some ⟨g7, 0, none⟩) (out.length + 1) cap7, ⟨?_, zc.far (zc.by J1.ba gr7 (kX own1 hga)) hne1 _, zc.far (zc.by J1.bb gr7 (kX own1 hgb2)) hne2 _, ?_, ?_⟩, ?_, ?_, ?_, ?_⟩
    · simpa using zc.set hB7 0 (.slice (some ⟨g7, 0, none⟩) (out.length + 1) cap7)
    · have := World.ownsRow.kept own7 (TP lt7 (.slice (some ⟨g7, 0, none⟩) (out.length + 1) cap7)) g7n
      simpa using this
    · intro u hu
      rcases List.mem_append.1 hu with hu | hu
      · exact keep u (HJ.out.rows u hu)
      · simp at hu
        subst hu; exact keep _ HR.out
    · intro hg
      refine za.set (za.own (hge.trans hw1) gr7 (fun i hi => ?_)) hgo _; rcases Nat.lt_or_ge i we.heap.size with h | h
      · exact absurd hi.symm (kX own1 vU_)
      · exact h
    · have := hw1.size
      have := gr7.size; simp; omega
    · intro q t cs h h1 h2
      exact zc.far (zc.by (zc.grow h hw1) gr7 h2) h1 _
    · rcases at7 with h | h
      · exact .inl h
      · exact .inr ⟨_, h, hw1.size⟩
  case hp' => exact wq_
def ku (x : E) (y : Z) (b : List Z) : List Z := (b.filter (fun r => yu x (y.1 ++ r.1))).map (fun r => (y.1 ++ r.1, y.2 * r.2))
def yT (x : E) (a b : List Z) : List Z := a.flatMap (fun y => ku x y b)
def jU (l r : List Int) (x : E) (a b : List Z) : List Z × Int := if xQ l r x a b ≠ 0 then ([], xQ l r x a b) else yF (yT x a b)
theorem MO (x : E) (u : List V) (y : Z) : ∀ b : List Z, zE (ku x y b) u = y.2 * zO (fun q => qo x u (y.1 ++ q)) b
  | [] => by simp [ku, xn, zO]
  | r :: b => by
    have ih := MO x u y b; unfold ku at ih ⊢; rw [List.filter_cons, zO, Int.mul_add, <- ih]; unfold qo kw; cases h : yu x (y.1 ++ r.1)
    · simp
    · rw [if_pos rfl, List.map_cons, zl]
      simp only [if_true]
      by_cases h2 : zg (y.1 ++ r.1) = zg u
      · rw [if_pos h2, if_pos h2]; simp
      · rw [if_neg h2, if_neg h2]; simp
theorem jH (x : E) (u : List V) (b : List Z) : ∀ a : List Z, zE (yT x a b) u = zO (fun p => zO (fun q => qo x u (p ++ q)) b) a
  | [] => rfl
  | y :: a => by
    have ih := jH x u b a; unfold yT at ih ⊢; rw [List.flatMap_cons, yf, MO, ih, zO]
theorem yr (p q : List V) : zg (p ++ q) = zg p ++ zg q := by simp [zg]
theorem jB (x : E) (u p : List V) : XR (fun q => qo x u (p ++ q)) := fun r q h => X7 x u _ _ vL_
theorem ZL (x : E) (u : List V) (b : List Z) : XR (fun p => zO (fun q => qo x u (p ++ q)) b) := fun r q h => Yi _ _ b (fun y _ => X7 x u _ _ vL_)
theorem Zs (f g : List V -> Int) : ∀ l : List Z, zO (fun r => f r + g r) l = zO f l + zO g l
  | [] => rfl
  | y :: l => by
    have ih := Zs f g l; simp only [zO, ih, Int.mul_add]; omega
theorem jT (x : E) (a b : List Z) : (yT x a b).length <= a.length * b.length := by
  induction a with
  | nil => simp [yT]
  | cons y a ih =>
    unfold yT at ih ⊢; rw [List.flatMap_cons, List.length_append, List.length_cons, Nat.succ_mul]; have : (ku x y b).length <= b.length := by unfold ku; rw [List.length_map]; exact List.length_filter_le _ _
    omega
theorem x8 {x : E} {a b : List Z} {y : Z} (h : y ∈ yT x a b) : ∃ p ∈ a, ∃ q ∈ b, y = (p.1 ++ q.1, p.2 * q.2) := by
  obtain ⟨p, hp, h⟩ := List.mem_flatMap.1 h; obtain ⟨q, hq, rfl⟩ := List.mem_map.1 h; exact ⟨p, hp, q, (List.mem_filter.1 hq).1, rfl⟩
theorem Mc {l r : List Int} {x : E} {a b : List Z} (h : xQ l r x a b = 0) : Y7 (yT x a b) := fun y hy => by
  obtain ⟨h8, hc, ha, hb⟩ := qy h; obtain ⟨p, hp, q, hq, rfl⟩ := x8 hy; obtain ⟨lp, vp⟩ := (yz _ _).1 ((zj ha).2.2 p hp); obtain ⟨lq, vq⟩ := (yz _ _).1 ((zj hb).2.2 q hq); refine ⟨by simp; omega, fun v hv => ?_⟩; rcases List.mem_append.1 hv with hv | hv
  · obtain ⟨i, hi⟩ := List.getElem?_of_mem hv
    exact (vp i v hi).1
  · obtain ⟨i, hi⟩ := List.getElem?_of_mem hv
    exact (vq i v hi).1
theorem Kt {l r : List Int} {x : E} {a b z : List Z} (h : jU l r x a b = (z, 0)) : xQ l r x a b = 0 /\ yJ z /\ zw z = 0 /\ ∀ u, zE z u = zO (fun p => zO (fun q => qo x u (p ++ q)) b) a := by
  unfold jU at h; split at h
  · exact v4_
  · rename_i h1
    have h1 : xQ l r x a b = 0 := by simpa using h1
    obtain ⟨c, w, e⟩ := qm (Mc h1) h; exact ⟨h1, c, w, fun u => by rw [e, jH]⟩
abbrev WD := Nat × I × I
def xK (x : E) (i : Nat) (y : I) (b : List I) : List WD := (b.filter (fun z => yu x (y.row ++ z.row))).map (fun z => (i, y, z))
def QX (x : E) (a b : List I) (i : Nat) : List WD := match a[i]? with
  | some y => xK x i y b
  | none => []
def xD (x : E) (a b : List I) (k : Nat) : List WD := (List.range k).flatMap (QX x a b)
theorem kS {x : E} {a b : List I} {k : Nat} {y : I} (h : a[k]? = some y) : xD x a b (k + 1) = xD x a b k ++ xK x k y b := wv_
theorem Ks {x : E} {i : Nat} {y : I} {b : List I} {k : Nat} {z : I} (h : b[k]? = some z) : xK x i y (b.take (k + 1)) = xK x i y (b.take k) ++ if yu x (y.row ++ z.row) then [(i, y, z)] else [] := by
  obtain ⟨h1, e1⟩ := qQ9.1 h; unfold xK; rw [List.take_succ_eq_append_getElem h1, e1, List.filter_append, List.map_append]; cases hh : yu x (y.row ++ z.row) <;> simp [hh]
theorem ZG (x : E) (i : Nat) (y : I) (b : List I) : (xK x i y b).length <= b.length := by
  unfold xK; rw [List.length_map]; exact List.length_filter_le _ _
theorem QY (x : E) (a b : List I) : ∀ k, (xD x a b k).length <= k * b.length
  | 0 => by simp [xD]
  | k + 1 => by
    have ih := QY x a b k; rw [Nat.succ_mul]; cases h : a[k]? with
    | some y => rw [kS h, List.length_append]; have := ZG x k y b; omega
    | none =>
      have : xD x a b (k + 1) = xD x a b k := wv_
      rw [this]; omega
def Dv (h : WD) : Z := (h.2.1.row ++ h.2.2.row, h.2.1.w * h.2.2.w)
theorem WJ (x : E) (i : Nat) (y : I) (b : List I) : (xK x i y b).map Dv = ku x (zp y) (b.map zp) := by
  unfold xK ku; rw [List.map_map, List.filter_map, List.map_map]; rfl
theorem Js (x : E) (a b : List I) : ∀ k, k <= a.length -> (xD x a b k).map Dv = yT x ((a.take k).map zp) (b.map zp)
  | 0, _ => by simp [xD, yT]
  | k + 1, h => by
    have ih := Js x a b k vU_; have e : a[k]? = some a[k] := qQ_ vU_; rw [kS e, List.map_append, ih, WJ, yv zp e]; unfold yT; rw [List.flatMap_append]; simp
theorem L8 {x : E} {i : Nat} {y : I} {b : List I} {h : WD} (hh : h ∈ xK x i y b) : h.1 = i /\ h.2.1 = y /\ h.2.2 ∈ b /\ yu x (y.row ++ h.2.2.row) = true := by
  obtain ⟨z, hz, rfl⟩ := List.mem_map.1 hh; obtain ⟨h1, h2⟩ := List.mem_filter.1 hz; exact ⟨rfl, rfl, h1, h2⟩
theorem NG {x : E} {a b : List I} {k : Nat} {h : WD} (hh : h ∈ xD x a b k) : h.1 < k /\ a[h.1]? = some h.2.1 /\ h.2.2 ∈ b /\ yu x (h.2.1.row ++ h.2.2.row) = true := by
  obtain ⟨i, hi, h1⟩ := List.mem_flatMap.1 hh; unfold QX at h1; split at h1
  · rename_i y e
    obtain ⟨r1, r2, r3, r4⟩ := L8 h1; rw [r1, r2]; exact ⟨by simpa using hi, e, r3, r4⟩
  · simp at h1
theorem Zj {w : World} {base n s : Nat} {e : TypeId} {v : Value} {xs : List Value} (h : w.ownsRow base e s v n xs) {q : Nat} (hq : w.heap.size <= q) : some q ≠ v.ownBlock := by
  rcases h.2 with ⟨rfl, _⟩ | ⟨g, cap, cur, rfl, hB, hgb, _⟩
  · simp [Value.ownBlock]
  · simp only [Value.ownBlock]
    intro e2; cases e2; have := (Array.getElem?_eq_some_iff.1 hgb).1; omega
structure y8 (x : E) (a b : S) : Prop where
  la : a.xs.length <= 400
  lb : b.xs.length <= 400
  ra : ∀ y ∈ a.xs, y.row.length <= 8
  rb : ∀ y ∈ b.xs, y.row.length <= 8
  wa : ∀ y ∈ a.xs, -1000000 <= y.w /\ y.w <= 1000000
  wb : ∀ y ∈ b.xs, -1000000 <= y.w /\ y.w <= 1000000
  va : ∀ y ∈ a.xs, ∀ v ∈ y.row, RV v
  re : ∀ y ∈ a.xs, ∀ z ∈ b.xs, RE (y.row ++ z.row).length x /\ (∀ v ∈ y.row ++ z.row, RV v) /\ (y.row ++ z.row).length <= 8
theorem Yl {l r : List Int} {x : E} {a b : S} (h : xQ l r x a.z b.z = 0) : y8 x a b := by
  obtain ⟨h8, hc, ha, hb⟩ := qy h; have fa := zj ha; have fb := zj hb; obtain ⟨a1, a2, a3, a4⟩ := S.facts fa.2.1; obtain ⟨b1, b2, b3, b4⟩ := S.facts fb.2.1; refine ⟨a1, b1, a2, b2, a4, b4, a3, fun y hy z hz => ?_⟩; have ly := ((yz _ _).1 (fa.2.2 (zp y) (qZ9 hy))).1; have lz := ((yz _ _).1 (fb.2.2 (zp z) (qZ9 hz))).1; have ly : y.row.length = l.length := ly; have lz : z.row.length = r.length := lz; refine ⟨?_, fun v hv => ?_, by simp; omega⟩
  · obtain ⟨T, hok⟩ := qD (QB hc).1
    have := Xl x hok.ty; rw [List.length_append, ly, lz]; rw [List.length_append] at this; exact this
  · rcases List.mem_append.1 hv with hv | hv
    · exact a3 y hy v hv
    · exact b3 z hz v hv
theorem Nq {P : Program} {f : FuncId} {fn : Func} {c : Code} (hf : P.funcs[f]? = some fn) (hn : (fn.name == "runtime.NumGoroutine") = false) (hb : fn.body = some c) (args : Array Value) (w : World) : Sem.run P (callFunc f args) w = .ok (.enter f args) w := by
  have h1 : fn.name ≠ "runtime.NumGoroutine" := by simpa using hn
  simp [callFunc, hf, h1, hb]
structure Kd (we : World) (base F : Nat) (caps : Array Value) (a b : S) (σ : Type) (St : World -> σ -> List WD -> Prop) (Fr : σ -> Nat -> Prop) : Prop where
  ent : ∀ args W, Sem.run Tryz.prog (callFunc F args) W = .ok (.enter F args) W
  grow : ∀ W W' s h, St W s h -> za W W' -> St W' s h
  new : ∀ W s h q, St W s h -> W.heap.size <= q -> Fr s q
  step : ∀ W s h (i k : Nat) (y z : I) (B : Option Addr) (cap : Nat), St W s h -> za we W -> base <= W.heap.size -> a.xs[i]? = some y -> b.xs[k]? = some z -> h.length <= 200000 -> (∃ bs, W.ownsRow bs 24 3 (.slice B (y.row ++ z.row).length cap) (y.row ++ z.row).length (zG (y.row ++ z.row))) ->
    Calls Tryz.prog F (#[.int .i64 i, .int .i64 k, .slice B (y.row ++ z.row).length cap] ++ caps) W fun en W' => en = .returned (.tuple #[]) /\ ∃ s', St W' s' (h ++ [(i, y, z)]) /\ za we W' /\ W.heap.size <= W'.heap.size /\ ∀ q t cs, zc W q t cs -> Fr s q -> zc W' q t cs /\ Fr s' q
structure Ri (we : World) (base : Nat) {σ : Type} (St : World -> σ -> List WD -> Prop) (wr : World) (s : σ) (h : List WD) : Prop where
  st : St wr s h
  grow : za we wr
  size : base <= wr.heap.size
theorem Ri.up {we : World} {base : Nat} {σ : Type} {St : World -> σ -> List WD -> Prop} {wr W : World} {s : σ} {h : List WD} (hg0 : ∀ W W' s h, St W s h -> za W W' -> St W' s h) (p : Ri we base St wr s h) (hg : za wr W) : Ri we base St W s h :=
  ⟨hg0 _ _ _ _ p.st hg, p.grow.trans hg, by have := p.size; have := hg.size; omega⟩
theorem DX {w : World} {base cap : Nat} {B : Option Addr} {ys : List V} (h : w.ownsRow base 24 3 (.slice B ys.length cap) ys.length (zG ys)) : xd w B ys := by
  obtain ⟨B', c', e, hv⟩ := KL h; simp at e; rw [e.1]; exact hv
theorem Zl (F : Nat) (caps : Array Value) (we : World) (gx ox : Nat) (x : E) (a b : S) (w : World) {σ : Type} {St : World -> σ -> List WD -> Prop} {Fr : σ -> Nat -> Prop} (hF : Kd we w.heap.size F caps a b σ St Fr) (s0 : σ) (h0 : St w s0 []) (hge : za we w) (hx : EX we x) (hc : zA we gx ox x) (ha : yI we a.A a.xs) (hb : yI we b.A b.xs) (hok : y8 x a b) :
    Calls Tryz.prog 97 #[.pointer (some ⟨gx, ox, none⟩), .slice a.A a.xs.length a.cap, .slice b.A b.xs.length b.cap, .func (.func F) #[] caps] w fun en w' => en = .returned (.tuple #[]) /\ ∃ s, St w' s (xD x a.xs b.xs a.xs.length) /\ za we w' := by
  obtain ⟨Aa, as1, ca⟩ := a; obtain ⟨Ab, bs1, cb⟩ := b; simp only at ha hb ⊢; have HF := hh_ hF; have HX := hh_ hx; have HC := hh_ hc; have Ha := hh_ ha; have Hb := hh_ hb; have Ok := hh_ hok; have la : as1.length <= 400 := hok.la; have lb : bs1.length <= 400 := hok.lb; have P0 := hh_ (Ri.mk (base := w.heap.size) h0 hge (Nat.le_refl _)); clear hF hx hc ha hb hok h0 hge; go_enter Tryz.func97, Tryz.ntmps97; go_wp2
  go_loopw [15] (fun i wr => ∃ (k : Nat) (s : σ), k <= as1.length /\ i = .int .i64 k /\ Ri we w.heap.size St wr s (xD x as1 bs1 k)) (fun i _ => as1.length - (intOf i).toNat)
  case atStart => exact ⟨0, s0, Nat.zero_le _, rfl, P0.out⟩
  case round =>
    rename World => wr
    obtain ⟨k, s, hk, rfl, hp⟩ := hrel; have P := hh_ hp; clear hp
    by_cases hlt : k < as1.length
    · obtain ⟨y, hyk⟩ : ∃ y, as1[k]? = some y := ⟨_, qQ_ hlt⟩
      obtain ⟨g1, o1, rfl, c1, c2, hyv⟩ := (Ha.out.grow P.out.grow) k y hyk; have HV := hh_ (show xd we y.A y.row from by obtain ⟨_, _, _, _, _, h⟩ := Ha.out k y hyk; exact h); have hyk := hh_ hyk; clear hyv; go_upto_region 3 with fail
      refine zd (fun Z => zc Z wr.heap.size 54 #[.slice y.A y.row.length y.cap, .int .i64 y.w] /\ za wr Z) ⟨zc.new _ _ _, (za.refl wr).al _⟩ ?_; rintro Z ⟨Bz, Gz⟩; have BY := hh_ Bz; have PZ := hh_ (P.out.up HF.out.grow Gz); have fr0 := hh_ (HF.out.new wr s _ wr.heap.size P.out.st (Nat.le_refl _)); have L0 : (xD x as1 bs1 k).length <= 160000 := by have := QY x as1 bs1 k; have := Nat.mul_le_mul (show k <= 400 by omega) lb; omega
      clear Bz c1 c2; generalize wr.heap.size = gp at *; go_wp2
      go_loopw [22] (fun i W => ∃ (k2 : Nat) (s2 : σ), k2 <= bs1.length /\ i = .int .i64 k2 /\ Ri we w.heap.size St W s2 (xD x as1 bs1 k ++ xK x k y (bs1.take k2)) /\ zc W gp 54 #[.slice y.A y.row.length y.cap, .int .i64 y.w] /\ Fr s2 gp) (fun i _ => bs1.length - (intOf i).toNat)
      case atStart => exact ⟨0, s, Nat.zero_le _, rfl, by simpa [xK] using PZ.out, BY.out, fr0.out⟩
      case round =>
        rename World => W1
        obtain ⟨k2, s2, hk2, rfl, hp2, hb2, hf2⟩ := hrel; have P2 := hh_ hp2; have B2 := hh_ hb2; have F2 := hh_ hf2; clear hp2 hb2 hf2
        by_cases hlt2 : k2 < bs1.length
        · obtain ⟨z, hzk⟩ : ∃ z, bs1[k2]? = some z := ⟨_, qQ_ hlt2⟩
          obtain ⟨g2, o2, rfl, c3, c4, hzv⟩ := (Hb.out.grow P2.out.grow) k2 z hzk; have HZ := hh_ hzv; have hzk' := hh_ hzk; have es := hh_ (Ks (x := x) (i := k) (y := y) hzk); have re := hh_ (Ok.out.re y (qZ_ hyk.out) z (qZ_ hzk)); clear hzv hzk; go_upto_region 6 with fail
          refine zd (fun Z2 => zc Z2 W1.heap.size 54 #[.slice z.A z.row.length z.cap, .int .i64 z.w] /\ za W1 Z2) ⟨zc.new _ _ _, (za.refl W1).al _⟩ ?_; rintro Z2 ⟨Bz2, Gz2⟩; have BY2 := B2.out.grow Gz2; clear c3 c4; have G2 := P2.out.grow; have P3 := hh_ (P2.out.up HF.out.grow Gz2); have f3 := hh_ (HF.out.new W1 s2 _ W1.heap.size P2.out.st (Nat.le_refl _)); have V3 := hh_ (HV.out.grow P3.out.grow); have Z3 := hh_ (HZ.out.grow Gz2); have B3 := hh_ BY2; have C3 := hh_ Bz2; clear HZ B2 BY2 Bz2; generalize W1.heap.size = gq at *; obtain ⟨b3, f3'⟩ := B3.out.rules; obtain ⟨b4, f4'⟩ := C3.out.rules; have cc := fun (g : Nat) W (h1 : zc W g 52 #[.slice y.A y.row.length y.cap, .slice z.A z.row.length z.cap]) (hg : za Z2 W) => LL ⟨y.A, y.row, y.cap⟩ ⟨z.A, z.row, z.cap⟩ g 52 W h1 (V3.out.grow hg) (Z3.out.grow hg) (by have := re.out.2.2; simp at this ⊢; omega)
          simp only at cc; have stp := hh_ (fun W B cap (hg : za Z2 W) => HF.out.step W s2 (xD x as1 bs1 k ++ xK x k y (bs1.take k2)) k k2 y z B cap (P3.out.up HF.out.grow hg).st (P3.out.grow.trans hg) (P3.out.up HF.out.grow hg).size hyk.out hzk'.out (by have h1 := ZG x k y (bs1.take k2); rw [List.length_append]; simp at h1; omega)); obtain ⟨R, hR⟩ : ∃ R, y.row ++ z.row = R := ⟨_, rfl⟩
          rw [hR] at cc re es stp; clear hR; obtain ⟨hit, hb⟩ : ∃ t, yu x R = t := ⟨_, rfl⟩
          rw [hb] at es; have lr : R.length <= 9223372036854775807 := by have := re.out.2.2; omega
          have rv := XM R re.out.2.1 x re.out.1; have co := fun B cap W (hg : za Z2 W) (hv : xd W B R) => Ky R B cap lr re.out.2.1 x re.out.1 gx ox W W (HX.out.grow (P3.out.grow.trans hg)) (HC.out.grow (P3.out.grow.trans hg)) hv (za.refl W)
          have cv := fun W => YZ (yk R x) (fun hk => by rcases rv.bool hk with h | h <;> omega) W
          rw [show (ym (yk R x) == 2) = hit from hb] at cv; generalize yk R x = V9 at co cv; unfold V.val at co cv; clear rv hb; go_upto_region 7 with (go_at_call 131; (refine (cc _ _ (zc.new _ _ _) ((za.refl _).al _)).mono ?_); rintro e w3 ⟨B, cap, rfl, own3, hg3⟩); have G3 : za Z2 w3 := ((za.refl Z2).al _).trans hg3; have O3 := hh_ own3; have hv3 := DX own3; clear cc own3; cases hit with
          | false =>
            go_wp2_with (first
              | (go_at_call 87; ((with_reducible refine (co _ _ _ G3 hv3).mono ?_); rintro e w5 ⟨rfl, hg5⟩))
              | (go_at_call 86; ((with_reducible refine (cv _).mono ?_); rintro e w6 ⟨rfl, hg6⟩)))
            have G6 := G3.trans (hg5.trans hg6); go_roundw
            case rel => exact ⟨k2 + 1, s2, by omega, by go_num, by rw [es.out]; simpa using P3.out.up HF.out.grow G6, B3.out.grow G6, F2.out⟩
            case measure => exact vZ_
          | true =>
            go_upto_region 8 with (first
              | (go_at_call 87; ((with_reducible refine (co _ _ _ G3 hv3).mono ?_); rintro e w5 ⟨rfl, hg5⟩))
              | (go_at_call 86; ((with_reducible refine (cv _).mono ?_); rintro e w6 ⟨rfl, hg6⟩)))
            have G6 := G3.trans (hg5.trans hg6); have st := stp.out w6 B cap G6 ⟨_, zr O3.out (hg5.trans hg6)⟩; clear co cv hv3; have bsz := (P3.out.up HF.out.grow G6).size; go_wp2; rw [HF.out.ent, Oper.upon_enter]; refine st.mono ?_; rintro e w7 ⟨rfl, s7, st7, g7, sz7, kp7⟩; rename_i K9 hK9; apply hK9; clear hK9 K9; go_simp; go_wp2; have K7 := hh_ (kp7 gp _ _ (B3.out.grow G6) F2.out); go_roundw
            case rel => exact ⟨k2 + 1, s7, by omega, by go_num, ⟨by rw [es.out]; simpa using st7, g7, by omega⟩, K7.out.1, K7.out.2⟩
            case measure => exact vZ_
        · obtain rfl : k2 = bs1.length := by omega
          go_wp2; go_roundw
          case rel => exact ⟨k + 1, s2, by omega, by go_num, by rw [kS hyk.out]; simpa using P2.out⟩
          case measure => exact vZ_
    · obtain rfl : k = as1.length := by omega
      go_wp2; go_end0; exact ⟨rfl, s, P.out.st, P.out.grow⟩
theorem Uh {w : World} {base b2 n s : Nat} {e : TypeId} {v : Value} {xs : List Value} (h : w.ownsRow base e s v n xs) (hb : b2 <= base) : w.ownsRow b2 e s v n xs := by
  refine ⟨h.1, ?_⟩; rcases h.2 with h | ⟨g, cap, cur, e1, e2, h⟩
  · exact .inl h
  · exact .inr ⟨g, cap, cur, e1, by omega, h⟩
def JS (base go ga gb : Nat) (a b : S) (W : World) (s : Value × List I) (h : List WD) : Prop := Eq base go ga gb a b W s.1 s.2 /\ s.2.map zp = h.map Dv
theorem R9 (we : World) (base go ga gb : Nat) (a b : S) (x : E) (hba : we.heap.size <= base) (hgo : we.heap.size <= go) (hgb : go < base) (hga : ga < base) (hgb2 : gb < base) (hne1 : ga ≠ go) (hne2 : gb ≠ go) (ha : yI we a.A a.xs) (hb : yI we b.A b.xs) (ok : y8 x a b) :
    Kd we base 98 #[.pointer (some ⟨go, 0, none⟩), .pointer (some ⟨ga, 0, none⟩), .pointer (some ⟨gb, 0, none⟩)] a b (Value × List I) (JS base go ga gb a b) (fun s q => q ≠ go /\ some q ≠ s.1.ownBlock) where
  ent := fun args W => Nq Tryz.func98 vP_ rfl args W
  grow := fun W W' s h hs hg => ⟨hs.1.grow hg, hs.2⟩
  new := fun W s h q hs hq => ⟨fun e => by have := hs.1.bo.lt; omega, Zj hs.1.own hq⟩
  step := fun W s h i k y z B cap hs hge hbw hy hz hl hr => by
    have ln : s.2.length = h.length := by have := congrArg List.length hs.2; simpa using this
    refine (R7 we W base go ga gb a b s.1 s.2 i k y z ⟨B, y.row ++ z.row, cap⟩ hs.1 hge hba hbw hgo hgb hga hgb2 hne1 hne2 ha hb hy hz ok.la ok.lb (ok.wa y (qZ_ hy)) (ok.wb z (qZ_ hz)) vU_ hr).mono ?_; rintro en W' ⟨rfl, v', hJ, hK⟩; refine ⟨rfl, (v', s.2 ++ [I.mk B (y.row ++ z.row) cap (y.w * z.w)]), ⟨hJ, ?_⟩, hK.grow hge, hK.size, fun q t cs hB hq => ⟨hK.blk q t cs hB hq.1 hq.2, hq.1, ?_⟩⟩
    · rw [List.map_append, List.map_append, hs.2]; rfl
    · rcases hK.own with e | ⟨g', e, hg'⟩
      · rw [e]; exact hq.2
      · rw [e]; have := hB.lt; intro e2; cases e2; omega
theorem Ya (gx ox : Nat) (x : E) (a b : S) (w : World) (hx : EX w x) (hc : zA w gx ox x) (ha : yI w a.A a.xs) (hb : yI w b.A b.xs) (hok : y8 x a b) :
    Calls Tryz.prog 61 #[.pointer (some ⟨gx, ox, none⟩), .slice a.A a.xs.length a.cap, .slice b.A b.xs.length b.cap] w fun en w' => ∃ (B : Option Addr) (ys : List I) (cap : Nat), en = .returned (.slice B ys.length cap) /\ w'.ownsRow w.heap.size 54 2 (.slice B ys.length cap) ys.length (zq ys) /\ (∀ u ∈ ys, qS w' u) /\ ys.map zp = yT x a.z b.z /\ za w w' := by
  have HX := hh_ hx; have HC := hh_ hc; have Ha := hh_ ha; have Hb := hh_ hb; have Ok := hh_ hok; have cp := hh_ (fun (X : World) (hs : w.heap.size + 3 <= X.heap.size) (h : JS X.heap.size (w.heap.size + 2) w.heap.size (w.heap.size + 1) a b X (.slice none 0 0, []) []) (G : za w X) => Zl 98 _ w gx ox x a b X (R9 w X.heap.size (w.heap.size + 2) w.heap.size (w.heap.size + 1) a b x vU_ vU_ vU_ vU_ vU_ vU_ vU_ ha hb hok) _ h G hx hc ha hb hok); clear hx hc ha hb hok; go_enter Tryz.func61, Tryz.ntmps61; go_upto_region 2 with fail
  refine zd (fun X => zc X w.heap.size 34 #[.slice a.A a.xs.length a.cap] /\ zc X (w.heap.size + 1) 34 #[.slice b.A b.xs.length b.cap] /\ zc X (w.heap.size + 2) 34 #[.slice none 0 0] /\ za w X /\ w.heap.size + 3 <= X.heap.size) ⟨(zc.new _ _ _).grow (((za.refl _).al _).al _), (zc.new' _ _ _ vV_).grow ((za.refl _).al _), zc.new' _ _ _ vV_, (((za.refl _).al _).al _).al _, by simp⟩ ?_; rintro X ⟨B1, B2, B3, G, hs⟩; have c := cp.out X hs ⟨⟨B3, B1, B2, World.ownsRow_nil _ _ _ _, fun u hu => by simp at hu⟩, rfl⟩ G; obtain ⟨b1, f1⟩ := B1.rules; obtain ⟨b2, f2⟩ := B2.rules; clear cp B1 B2 B3; generalize w.heap.size + 2 = go at *; generalize w.heap.size + 1 = gb at *; generalize w.heap.size = ga at *; go_upto_region 3 with (go_at_call 97; (with_reducible refine c.mono ?_); rintro en w2 ⟨rfl, ⟨v, out⟩, ⟨J, M⟩, hg2⟩); have own := J.own
  have hv : ∃ (B : Option Addr) (cap : Nat), v = .slice B out.length cap := uQ_
  obtain ⟨B, cap, rfl⟩ := hv; have JJ := hh_ (And.intro own (And.intro J.rows M)); obtain ⟨b3, f3⟩ := J.bo.rules; clear J M own b1 f1 b2 f2; go_wp2; go_ret; exact ⟨B, out, cap, rfl, Uh JJ.out.1 G.size, JJ.out.2.1, by rw [JJ.out.2.2, Js _ _ _ _ (Nat.le_refl _), List.take_length]; rfl, hg2⟩
theorem Ui {w : World} {base cap : Nat} {B : Option Addr} {ys : List I} (h : w.ownsRow base 54 2 (.slice B ys.length cap) ys.length (zq ys)) (hv : ∀ y ∈ ys, qS w y) : yI w B ys /\ zN B ys.length cap := by
  obtain ⟨B', c', e, hz, hk⟩ := qN h (fun y hy => (hv y hy).vsl); simp at e; rw [e.1, e.2]; exact ⟨hz, hk⟩
theorem TV {x : E} {a b : S} {ys : List I} (ok : y8 x a b) (m : ys.map zp = yT x a.z b.z) : ys.length <= 160000 /\ (∀ y ∈ ys, y.row.length <= 8) /\ (∀ y ∈ ys, ∀ v ∈ y.row, RV v) /\ ∀ y ∈ ys, -1000000000000 <= y.w /\ y.w <= 1000000000000 := by
  have mem : ∀ y ∈ ys, ∃ p ∈ a.xs, ∃ q ∈ b.xs, y.row = p.row ++ q.row /\ y.w = p.w * q.w := fun y hy => by
    have h : zp y ∈ yT x a.z b.z := by rw [<- m]; exact qZ9 hy
    obtain ⟨p, hp, q, hq, e⟩ := x8 h; obtain ⟨p', hp', rfl⟩ := List.mem_map.1 hp; obtain ⟨q', hq', rfl⟩ := List.mem_map.1 hq; exact ⟨p', hp', q', hq', congrArg Prod.fst e, congrArg Prod.snd e⟩
  refine ⟨?_, fun y hy => ?_, fun y hy => ?_, fun y hy => ?_⟩
  · have h1 := congrArg List.length m
    have h2 := jT x a.z b.z; have h3 := ok.la; have h4 := ok.lb; simp [S.z] at h1 h2; have := Nat.mul_le_mul h3 h4; omega
  · obtain ⟨p, hp, q, hq, e, _⟩ := mem y hy
    rw [e]; exact (ok.re p hp q hq).2.2
  · obtain ⟨p, hp, q, hq, e, _⟩ := mem y hy
    rw [e]; exact (ok.re p hp q hq).2.1
  · obtain ⟨p, hp, q, hq, _, e⟩ := mem y hy
    rw [e]; obtain ⟨h1, h2⟩ := ok.wa p hp; obtain ⟨h3, h4⟩ := ok.wb q hq; have ha : (p.w).natAbs <= 1000000 := by omega
    have hb : (q.w).natAbs <= 1000000 := by omega
    have : (p.w * q.w).natAbs <= 1000000 * 1000000 := by rw [Int.natAbs_mul]; exact Nat.mul_le_mul ha hb
    omega
theorem Sn (l r : L2 Int) (x : E) (a b : S) (w : World) (hll : l.xs.length <= 140737488355328) (hlr : r.xs.length <= 140737488355328) (hl : xc w l.A l.xs) (hr : xc w r.A r.xs) (hE : EX w x) (ha : In w a) (hb : In w b) :
    Calls Tryz.prog 50 #[.slice l.A l.xs.length l.cap, .slice r.A r.xs.length r.cap, x.val, .slice a.A a.xs.length a.cap, .slice b.A b.xs.length b.cap] w fun en w' => yK w w' en (jU l.xs r.xs x a.z b.z) := by
  have HX := hh_ hE; have Ha := hh_ ha; have Hb := hh_ hb; have ct := fun W (hg : za w W) => Ql l r x a b W hll hlr (hl.grow hg) (hr.grow hg) (hE.grow hg) (ha.grow hg) (hb.grow hg)
  obtain ⟨E2, hE2⟩ : ∃ e, xQ l.xs r.xs x a.z b.z = e := ⟨_, rfl⟩
  rw [hE2] at ct; obtain ⟨Q, hQ⟩ : ∃ Q, jU l.xs r.xs x a.z b.z = Q := ⟨_, rfl⟩
  rw [hQ]; have fin : Q = if E2 ≠ 0 then ([], E2) else yF (yT x a.z b.z) := by rw [<- hQ]; unfold jU; rw [hE2]
  have Fin := hh_ fin; have H2 := hh_ hE2; have HE : ∀ W g, zc W g 27 #[.int .i64 x.kind, .int .i64 x.v.k, .int .i64 x.v.n, .string x.v.s, .int .i64 x.col, .slice x.A x.n x.cap] -> zA W g 0 x := fun W g B => ⟨B.cells rfl, B.cells rfl, B.cells rfl, B.cells rfl, B.cells rfl, B.cells rfl⟩
  clear hl hr hE ha hb hE2 hQ fin; unfold E.val at *; go_enter Tryz.func50, Tryz.ntmps50; go_upto_region 1 with fail
  refine zd (fun X => zc X w.heap.size 27 #[.int .i64 x.kind, .int .i64 x.v.k, .int .i64 x.v.n, .string x.v.s, .int .i64 x.col, .slice x.A x.n x.cap] /\ za w X) ⟨zc.new _ _ _, (za.refl w).al _⟩ ?_; rintro X ⟨Bx, G⟩; obtain ⟨bx, fx⟩ := Bx.rules
  by_cases h0 : E2 = 0
  · subst h0
    have eQ : Q = yF (yT x a.z b.z) := by rw [Fin.out]; simp
    have EQ := hh_ eQ; clear eQ; go_upto_region 4 with (go_at_call 89; ((with_reducible refine (ct _ G).mono ?_); rintro e w2 ⟨rfl, hg2⟩)); have G2 := hh_ (G.trans hg2); have ok := hh_ (Yl H2.out); have cj := Ya w.heap.size 0 x a b w2 (HX.out.grow G2.out) (HE _ _ (Bx.grow hg2)) (Ha.out.z.grow G2.out) (Hb.out.z.grow G2.out) ok.out; clear ct bx fx
    go_wp2_with (first
      | (go_at_call 61; (with_reducible refine cj.mono ?_); rintro e w3 ⟨B, ys, cap, rfl, own3, U7, m3, hg3⟩; have zs := Ui own3 U7; have fa := TV ok.out m3; have cs := Qj ys B cap w3 (by have := fa.1; omega) zs.1 (fun y hy => by have := fa.2.1 y hy; omega) fa.2.2.1 fa.2.2.2; rw [m3, <- EQ.out] at cs; clear own3 U7 m3 zs fa)
      | (go_at_call 20; ((with_reducible refine cs.mono ?_); rintro en w4 ⟨C, zs, cap2, rfl, hz3, hm3, hk3, hg4⟩; have Out := hh_ (And.intro hz3 (And.intro hm3 hk3)); clear hz3 hm3 hk3)))
    refine qX_ oA_ rfl ?_; exact ⟨C, zs, cap2, rfl, Out.out.1, Out.out.2.1, Out.out.2.2, G2.out.trans (hg3.trans hg4)⟩
  · have d0 : (E2 != 0) = true := by simpa using h0
    have eQ : Q = ([], E2) := by rw [Fin.out, if_pos h0]
    go_wp2_with (go_at_call 89; ((with_reducible refine (ct _ G).mono ?_); rintro e w2 ⟨rfl, hg2⟩))
    refine qX_ oA_ rfl ?_; exact ⟨none, [], 0, by rw [eQ]; rfl, zu _ _, by rw [eQ]; rfl, zN.nil, G.trans hg2⟩
