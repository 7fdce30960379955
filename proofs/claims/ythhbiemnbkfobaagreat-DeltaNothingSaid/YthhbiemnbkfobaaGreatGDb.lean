/- Parts of a proof. No condition. -/
import Derived.Test.YthhbiemnbkfobaaGreatGVc
import Derived.Test.YthhbiemnbkfobaaGreatGTd
import Derived.Laws.IdiomCopy
set_option maxRecDepth 100000
set_option maxHeartbeats 8000000
set_option maxRecDepth 100000
set_option linter.unusedSimpArgs false
set_option linter.unusedVariables false
namespace Go
variable {p : Prop}
theorem uR_ (h : p := by
 obtain ⟨hk, e⟩ := qQ9.1 hy; rw [List.take_succ_eq_append_getElem hk, e, List.filter_append]; simp [h]) : p := h
end Go
namespace Go.Proofs.YthhbiemnbkfobaaGreat
open Go.RowKit Go.Calm
theorem Uq {x : E} {a b : S} (h : y8 x a b) (A : Option Addr) (c : Nat) : y8 x ⟨A, [], c⟩ b :=
  ⟨Nat.zero_le _, h.lb, fun y hy => by simp at hy, h.rb, fun y hy => by simp at hy, h.wb, fun y hy => by simp at hy, fun y hy => by simp at hy⟩
theorem Ur {x : E} {a b : S} (h : y8 x a b) (A : Option Addr) (c : Nat) : y8 x a ⟨A, [], c⟩ :=
  ⟨h.la, Nat.zero_le _, h.ra, fun y hy => by simp at hy, h.wa, fun y hy => by simp at hy, h.va, fun y hy z hz => by simp at hz⟩
theorem ZH (x : E) (b : List Z) : yT x [] b = [] := by
  have h := jT x [] b; simpa using h
theorem Mb (x : E) (a : List Z) : yT x a [] = [] := by
  have h := jT x a []; simpa using h
theorem Mt {p q : List Z} (hp : ∀ y ∈ p, ∀ v ∈ y.1, RV v) (hq : ∀ y ∈ q, ∀ v ∈ y.1, RV v) (h : ∀ u, zE p u = zE q u) : zW (p ++ zP (-1) q) = [] := by
  have hr : ∀ y ∈ p ++ zP (-1) q, ∀ v ∈ y.1, RV v := fun y hy => by
    rcases List.mem_append.1 hy with hy | hy
    · exact hp y hy
    · obtain ⟨t, ht, rfl⟩ := List.mem_map.1 hy
      exact hq t ht
  obtain ⟨c, w⟩ := yB _ hr
  exact x4 _ _ c jO fun u _ => by
    have := h u; rw [w, yf, xG, xn]; omega
theorem Uy {ys l : List Z} (hl : ∀ y ∈ l, ∀ v ∈ y.1, RV v) (hc : yJ ys) (hw : ∀ r, zE ys r = zE l r) : ys = zW l := by
  obtain ⟨c, w⟩ := yB l hl; exact x4 _ _ hc c fun u _ => by rw [hw, w]
structure yP (xs : List I) : Prop where
  len : xs.length <= 10000
  row : ∀ x ∈ xs, x.row.length <= 1000
  rv : ∀ x ∈ xs, ∀ v ∈ x.row, RV v
  w : ∀ x ∈ xs, -1000000000000 <= x.w /\ x.w <= 1000000000000
theorem yP.nil : yP [] := ⟨Nat.zero_le _, fun x hx => by simp at hx, fun x hx => by simp at hx, fun x hx => by simp at hx⟩
theorem LQ (ss : List S) (A : Option Addr) (c : Nat) (w : World) (hlen : ss.length <= 1000) (hs : Rj w A ss) (hk : ∀ s ∈ ss, zN s.A s.xs.length s.cap) (ok : yP (fl ss)) :
    Calls Tryz.prog 60 #[.slice A ss.length c] w fun en w' => zK w w' en (zW ((fl ss).map zp)) := by
  have cc := Qz ss A c w hlen hs ok.len hk; have ct := fun B cap W (hz : yI W B (fl ss)) => JX (fl ss) B cap W (by have := ok.len; omega) hz ok.row ok.rv ok.w
  have rv : ∀ y ∈ (fl ss).map zp, ∀ v ∈ y.1, RV v := fun y hy => by
    obtain ⟨x, hx, rfl⟩ := List.mem_map.1 hy; exact ok.rv x hx
  have RVV := hh_ rv; clear hs hk ok rv; go_enter Tryz.func60, Tryz.ntmps60
  go_wp2_with (first
    | (go_at_call 38; ((with_reducible refine cc.mono ?_); rintro e w2 ⟨B1, c1, rfl, hz1, hk1, hg1⟩))
    | (go_at_call 35; ((with_reducible refine (ct B1 c1 w2 hz1).mono ?_); rintro e w3 ⟨B, ys, cap, rfl, hz, hcan, hwt, hk3, hg2⟩; have Out := hh_ (And.intro hz (And.intro hcan (And.intro hwt hk3))); clear hz hcan hwt hk3)))
  go_ret; exact ⟨B, ys, cap, rfl, Out.out.1, Uy RVV.out Out.out.2.1 Out.out.2.2.1, Out.out.2.2.2, hg1.trans hg2⟩
theorem D8 {w : World} {g : Nat} {t : TypeId} {a b : S} (hb : zc w g t #[.slice a.A a.xs.length a.cap, .slice b.A b.xs.length b.cap]) (h1 : yI w a.A a.xs) (h2 : yI w b.A b.xs) : Rj w (some ⟨g, 0, none⟩) [a, b] := fun i s hs => uE_
theorem D9 {w : World} {g : Nat} {t : TypeId} {a b c : S} (hb : zc w g t #[.slice a.A a.xs.length a.cap, .slice b.A b.xs.length b.cap, .slice c.A c.xs.length c.cap]) (h1 : yI w a.A a.xs) (h2 : yI w b.A b.xs) (h3 : yI w c.A c.xs) : Rj w (some ⟨g, 0, none⟩) [a, b, c] := fun i s hs => by
  match i, hs with
  | 0, hs => simp at hs; subst hs; exact ⟨g, 0, rfl, by rw [hb.cell]; rfl, h1⟩
  | 1, hs => simp at hs; subst hs; exact ⟨g, 0, rfl, by rw [hb.cell]; rfl, h2⟩
  | 2, hs => simp at hs; subst hs; exact ⟨g, 0, rfl, by rw [hb.cell]; rfl, h3⟩
theorem qL (a b : S) (g : Nat) (t : TypeId) (w : World) (hb : zc w g t #[.slice a.A a.xs.length a.cap, .slice b.A b.xs.length b.cap]) (h1 : yI w a.A a.xs) (h2 : yI w b.A b.xs) (k1 : zN a.A a.xs.length a.cap) (k2 : zN b.A b.xs.length b.cap) (ok : yP (a.xs ++ b.xs)) :
    Calls Tryz.prog 60 #[.slice (some ⟨g, 0, none⟩) 2 2] w fun en w' => zK w w' en (zW (a.z ++ b.z)) := by
  have e : fl [a, b] = a.xs ++ b.xs := QP a b
  have h := LQ [a, b] (some ⟨g, 0, none⟩) 2 w vV_ (D8 hb h1 h2) (fun s hs => by
    rcases List.mem_cons.1 hs with rfl | hs
    · exact k1
    · simp at hs; subst hs; exact k2) (by rw [e]; exact ok)
  rw [e, List.map_append] at h; exact h
def WK (x : I) : I := ⟨x.A, x.row, x.cap, -x.w⟩
theorem Cy (xs : List I) : (xs.map WK).map zp = zP (-1) (xs.map zp) := by
  unfold zP; rw [List.map_map, List.map_map]; refine List.map_congr_left fun x _ => ?_
  show (x.row, -x.w) = (x.row, -1 * x.w); rw [show (-1 : Int) * x.w = -x.w by omega]
theorem yP.neg {ys zs : List I} (h : yP ys) (e : zs = ys.map WK) : yP zs := by
  subst e; refine ⟨by rw [List.length_map]; exact h.len, fun x hx => ?_, fun x hx => ?_, fun x hx => ?_⟩
  all_goals obtain ⟨y, hy, rfl⟩ := List.mem_map.1 hx
  · exact h.row y hy
  · exact h.rv y hy
  · have := h.w y hy
    show -1000000000000 <= -y.w /\ -y.w <= 1000000000000; omega
theorem yP.app {a b : List I} (h : yP a) (k : yP b) (hl : a.length + b.length <= 10000) : yP (a ++ b) := by
  refine ⟨by rw [List.length_append]; exact hl, fun x hx => ?_, fun x hx => ?_, fun x hx => ?_⟩
  all_goals rcases List.mem_append.1 hx with hx | hx
  · exact h.row x hx
  · exact k.row x hx
  · exact h.rv x hx
  · exact k.rv x hx
  · exact h.w x hx
  · exact k.w x hx
theorem KF (xs : List I) (A : Option Addr) (c : Nat) (w : World) (hlen : xs.length <= 200000) (hz : yI w A xs) (hw : ∀ x ∈ xs, -1000000000000 <= x.w /\ x.w <= 1000000000000) :
    Calls Tryz.prog 62 #[.slice A xs.length c] w fun en w' => ∃ (B : Option Addr) (zs : List I) (cap : Nat), en = .returned (.slice B zs.length cap) /\ zs = xs.map WK /\ yI w' B zs /\ zN B zs.length cap /\ za w w' := by
  have Hz := hh_ hz; have HW := hh_ hw; clear hz hw; go_enter Tryz.func62, Tryz.ntmps62; go_wp2
  go_loopw [3, 8] (fun t i wr => ∃ k : Nat, k <= xs.length /\ i = .int .i64 k /\ wr.ownsRow w.heap.size 54 2 t k (zq ((xs.take k).map WK)) /\ za w wr) (fun _ i _ => xs.length - (intOf i).toNat)
  case atStart => exact uP_
  case round =>
    rename World => wr
    obtain ⟨k, hk, rfl, hown, hg⟩ := hrel; obtain ⟨Bo, capo, rfl⟩ := yH hown; have Own := hh_ hown; clear hown
    by_cases hlt : k < xs.length
    · obtain ⟨y, hyk⟩ : ∃ y, xs[k]? = some y := ⟨_, qQ_ hlt⟩
      obtain ⟨gx, ox, rfl, c1, c2, hyv⟩ := (Hz.out.grow hg) k y hyk; have hwy := HW.out y (qZ_ hyk); have es : (xs.take (k + 1)).map WK = (xs.take k).map WK ++ [WK y] := yv WK hyk; have Es := hh_ es; clear hyk hyv es; go_upto_region 5 with fail
      refine zd (fun Z => zc Z wr.heap.size 54 #[.slice y.A y.row.length y.cap, .int .i64 y.w] /\ za wr Z) ⟨zc.new _ _ _, (za.refl wr).al _⟩ ?_; rintro Z ⟨Bz, Gz⟩; obtain ⟨bz, fz⟩ := Bz.rules; have OwnZ := hh_ (zr Own.out Gz); have szZ := (hg.trans Gz).size; have hwp : IntKind.i64.wrap (-y.w) = -y.w := by rw [IntKind.wrap_i64]; omega
      clear c1 c2 Bz
      go_wp2_with (at_builtin; refine zZ rfl _ _ rfl w.heap.size _ _ _ rfl (OwnZ.out.alloc _) _ [I.mk y.A y.row y.cap (-y.w)] rfl (jD rfl (zc.new _ _ _)) vN_ vN_ ?_; intro v7 w7 own7 gr7)
      have G7 : za w w7 := yg ((hg.trans Gz).al _) gr7 (OwnZ.out.alloc _); have Own7 := hh_ own7; clear own7 gr7; go_roundw
      case rel => exact ⟨k + 1, by omega, by go_num, by rw [Es.out]; simpa [WK] using Own7.out, G7⟩
      case measure => exact vZ_
    · obtain rfl : k = xs.length := by omega
      have own := Own.out; rw [List.take_length] at own
      obtain ⟨B, cap, e, hz9, hk9⟩ := kY own (fun u hu => by
        obtain ⟨x, hx, rfl⟩ := List.mem_map.1 hu
        exact (Hz.out.vsl x hx).grow hg)
      simp only [Value.slice.injEq] at e; obtain ⟨rfl, el, rfl⟩ := e; have Out := hh_ (And.intro el (And.intro hz9 hk9)); clear own el hz9 hk9; go_wp2; go_ret; exact ⟨Bo, xs.map WK, capo, by rw [<- Out.out.1]; rfl, rfl, Out.out.2.1, Out.out.2.2, hg⟩
abbrev EY : Value := .func (.func 138) #[] #[]
def xa (x : I) : Bool := decide (0 < x.w)
theorem Px (y : I) (w : World) : Calls Tryz.prog 138 #[.agg #[.slice y.A y.row.length y.cap, .int .i64 y.w]] w fun e w' => e = .returned (.bool (decide (y.w <= 0))) /\ za w w' := by
  go_enter Tryz.func138, Tryz.ntmps138
  by_cases h : y.w <= 0
  · have d : decide (y.w <= 0) = true := decide_eq_true h
    rw [d]; go_wp2; go_ret; exact ⟨rfl, zi⟩
  · have d : decide (y.w <= 0) = false := decide_eq_false h
    rw [d]; go_wp2; go_ret; exact ⟨rfl, zi⟩
theorem NI (xs : List I) (A : Option Addr) (c : Nat) (w : World) (hlen : xs.length <= 200000) (hz : yI w A xs) :
    Calls Tryz.prog 107 #[.slice A xs.length c, EY] w fun en w' => ∃ i : Int, en = .returned (.int .i64 i) /\ ((i = -1 /\ ∀ x ∈ xs, 0 < x.w) \/ ∃ k : Nat, i = k /\ k < xs.length /\ (∀ j x, j < k -> xs[j]? = some x -> 0 < x.w) /\ ∃ x, xs[k]? = some x /\ x.w <= 0) /\ za w w' := by
  have Hz := hh_ hz; clear hz; go_enter Tryz.func107, Tryz.ntmps107; go_wp2
  go_loopw [8] (fun i wr => ∃ k : Nat, k <= xs.length /\ i = .int .i64 k /\ (∀ j x, j < k -> xs[j]? = some x -> 0 < x.w) /\ za w wr) (fun i _ => xs.length - (intOf i).toNat)
  case atStart => exact ⟨0, Nat.zero_le _, rfl, fun j x h => absurd h (Nat.not_lt_zero _), za.refl _⟩
  case round =>
    rename World => wr
    obtain ⟨k, hk, rfl, hp, hg⟩ := hrel; have HP := hh_ hp; clear hp
    by_cases hlt : k < xs.length
    · obtain ⟨y, hyk⟩ : ∃ y, xs[k]? = some y := ⟨_, qQ_ hlt⟩
      obtain ⟨gx, ox, rfl, c1, c2, hyv⟩ := (Hz.out.grow hg) k y hyk; have HY := hh_ hyk; have cf := fun W => Px y W
      clear hyk hyv; have b0 : (0 : Int) <= (k : Int) := by omega
      have b1 : (k : Int) < (xs.length : Int) := by omega
      by_cases hw : y.w <= 0
      · have dw : decide (y.w <= 0) = true := decide_eq_true hw
        simp only [dw] at cf
        go_wp2_with (go_at_call 138; ((with_reducible refine (cf _).mono ?_); rintro e w2 ⟨rfl, hg2⟩))
        go_ret; exact ⟨_, rfl, .inr ⟨k, rfl, hlt, HP.out, y, HY.out, hw⟩, hg.trans hg2⟩
      · have dw : decide (y.w <= 0) = false := decide_eq_false hw
        simp only [dw] at cf
        go_wp2_with (go_at_call 138; ((with_reducible refine (cf _).mono ?_); rintro e w2 ⟨rfl, hg2⟩))
        go_roundw
        case rel =>
          refine ⟨k + 1, by omega, by go_num, fun j x hj hx => ?_, hg.trans hg2⟩
          by_cases e : j = k
          · subst e
            rw [HY.out] at hx; cases hx; omega
          · exact HP.out j x vU_ hx
        case measure => exact vZ_
    · obtain rfl : k = xs.length := by omega
      go_wp2; go_ret
      exact ⟨_, rfl, .inl ⟨rfl, fun x hx => by
        obtain ⟨j, hj, e⟩ := List.mem_iff_getElem.1 hx
        exact HP.out j x hj (by rw [qQ_ hj, e])⟩, hg⟩
/-! what clear does -/
theorem SX (w : World) : (zeroValue 54).run Tryz.prog w = .ok (.agg #[.slice none 0 0, .int .i64 0]) w := by
  obtain ⟨ti, h1, h2, _⟩ := xX; simp [zeroValue, typeInfo, h1, h2]
theorem Wf (w : World) (ty : TypeId) (b o n c : Nat) (hn : 0 < n) (hc : ∀ j, j < n * 2 -> (w.cell? ⟨b, o + j, none⟩).isSome = true) (hf : ∀ j, w.frozen? ⟨b, j, none⟩ = false) :
    (Builtin.clear_ #[34] ty #[.slice (some ⟨b, o, none⟩) n c]).run Tryz.prog w = .ok (.tuple #[]) (w.setCells b o (Builtin.zeroCells #[.slice none 0 0, .int .i64 0] n).toList) := by
  have hl : (Builtin.zeroCells #[.slice none 0 0, .int .i64 0] n).toList.length = n * 2 := by simp [Builtin.zeroCells]
  have h1 : ∀ v ∈ (Builtin.zeroCells #[.slice none 0 0, .int .i64 0] n).toList, v.oneCell' = true := fun v hv => by
    simp only [Builtin.zeroCells, Array.toList_map, List.mem_map] at hv; obtain ⟨i, _, rfl⟩ := hv; have : i % 2 = 0 \/ i % 2 = 1 := by omega
    rcases this with e | e
    · simp [e]; rfl
    · simp [e]; rfl
  have hst := run_storeCells_cells (P := Tryz.prog) b o _ 0 w (by intro j hj; rw [hl] at hj; simpa using hc j hj) (by intro j hj; exact hf _) h1; simp only [Nat.add_zero] at hst; obtain ⟨m, rfl⟩ : ∃ m, n = m + 1 := ⟨n - 1, by omega⟩
  simp [Builtin.clear_, run_underlying Tryz.underlying34, SX, Value.cells, hst]
theorem Yy {g : Nat} {t : TypeId} : ∀ (vs : List Value) (o : Nat) (w : World) (cs : List Value), zc w g t cs.toArray -> ∃ ds : List Value, zc (w.setCells g o vs) g t ds.toArray /\ ds.length = cs.length /\ ds.take o = cs.take o
  | [], o, w, cs, h => ⟨cs, h, rfl, rfl⟩
  | v :: vs, o, w, cs, h => by
    have h2 := h.set o v; rw [List.setIfInBounds_toArray] at h2; obtain ⟨ds, h3, h4, h5⟩ := Yy vs (o + 1) _ _ h2; refine ⟨ds, h3, by rw [h4, List.length_set], ?_⟩; have e : (ds.take (o + 1)).take o = ((cs.set o v).take (o + 1)).take o := by rw [h5]
    rw [List.take_take, List.take_take, Nat.min_eq_left (Nat.le_succ o)] at e; rw [e, List.take_set_of_le (Nat.le_refl o)]
theorem ZF {g : Nat} {w0 : World} : ∀ (vs : List Value) (o : Nat) (w : World), GX g w0 w -> GX g w0 (w.setCells g o vs)
  | [], o, w, h => h
  | v :: vs, o, w, h => ZF vs (o + 1) _ (h.set o v)
theorem Nv (xs : List I) (n : Nat) : zq (xs.take n) = (zq xs).take (n * 2) := by
  induction xs generalizing n with
  | nil => simp [zq]
  | cons x xs ih =>
    cases n with
    | zero => simp [zq]
    | succ n =>
      rw [show (n + 1) * 2 = n * 2 + 1 + 1 by omega]; simp [zq, ih]
theorem kN.cleared {w : World} {g n : Nat} {xs : List I} (h : kN w g xs) (hn : n <= xs.length) (vs : List Value) : kN (w.setCells g (n * 2) vs) g (xs.take n) := by
  obtain ⟨r, h⟩ := h; obtain ⟨ds, h1, h2, h3⟩ := Yy vs (n * 2) w _ h; refine ⟨ds.drop (n * 2), ?_⟩
  have e : zq (xs.take n) = ds.take (n * 2) := by
    rw [h3, Nv, List.take_append_of_le_length (by rw [yS]; omega)]
  rw [e, List.take_append_drop]; exact h1
theorem kN.take {w : World} {g n : Nat} {xs : List I} (h : kN w g xs) (hn : n <= xs.length) : kN w g (xs.take n) := h.cleared hn []
theorem RW {L : List I} {k : Nat} {y : I} (h : ∀ j x, j < k -> L[j]? = some x -> 0 < x.w) (hy : L[k]? = some y) (hw : y.w <= 0) : L.take k = (L.take (k + 1)).filter xa := by
  obtain ⟨hk, e⟩ := qQ9.1 hy; rw [List.take_succ_eq_append_getElem hk, e, List.filter_append]
  have e2 : [y].filter xa = [] := by
    have : xa y = false := decide_eq_false vU_; simp [this]
  rw [e2, List.append_nil]; refine (List.filter_eq_self.2 fun x hx => decide_eq_true ?_).symm; obtain ⟨j, hj, e3⟩ := List.mem_iff_getElem.1 hx; rw [List.length_take] at hj; rw [List.getElem_take] at e3; exact h j x vU_ (by rw [qQ_ vU_, e3])
theorem RU {L : List I} {j : Nat} {y : I} (hy : L[j]? = some y) (h : xa y = false) : (L.take (j + 1)).filter xa = (L.take j).filter xa := uR_
theorem RT {L : List I} {j : Nat} {y : I} (hy : L[j]? = some y) (h : xa y = true) : (L.take (j + 1)).filter xa = (L.take j).filter xa ++ [y] := uR_
theorem RJ {M L : List I} {j : Nat} (h : M.drop j = L.drop j) : M[j]? = L[j]? := by
  have e := congrArg (fun l : List I => l[0]?) h; simpa [List.getElem?_drop] using e
theorem W9 {M L : List I} {j : Nat} (h : M.drop j = L.drop j) : M.drop (j + 1) = L.drop (j + 1) := by
  rw [<- List.drop_drop, <- List.drop_drop, h]
theorem UA {M : List I} {n : Nat} (h : n < M.length) (y : I) : (M.set n y).take (n + 1) = M.take n ++ [y] := by
  have h2 : n < (M.set n y).length := by rw [List.length_set]; exact h
  rw [List.take_succ_eq_append_getElem h2, List.getElem_set_self, List.take_set_of_le (Nat.le_refl n)]
theorem LP (L : List I) (A : Option Addr) (c : Nat) (w : World) (hmax : L.length <= 200000) (hc : L.length <= c) (hz : yI w A L) (hd : L ≠ [] -> ∃ g, A = some ⟨g, 0, none⟩ /\ kN w g L) :
    Calls Tryz.prog 136 #[.slice A L.length c, EY] w fun en w' => en = .returned (.slice A (L.filter xa).length c) /\ ((L = [] /\ za w w') \/ ∃ g, A = some ⟨g, 0, none⟩ /\ kN w' g (L.filter xa) /\ GX g w w') := by
  have ci := NI L A c w hmax hz; have HD := hh_ hd; clear hd hz; go_enter Tryz.func136, Tryz.ntmps136; go_upto_region 2 with (go_at_call 107; ((with_reducible refine ci.mono ?_); rintro en w2 ⟨i0, rfl, h12, hg2⟩; have H12 := hh_ h12; clear h12)); rcases H12.out with ⟨rfl, hall⟩ | ⟨k, rfl, hk, hpos, y0, hy0, hw0⟩
  · have ef : L.filter xa = L := List.filter_eq_self.2 (fun x hx => decide_eq_true (hall x hx))
    have EF := hh_ ef; clear hall ef H12; go_wp2; go_ret; refine ⟨by rw [EF.out]; rfl, ?_⟩
    by_cases hL : L = []
    · exact .inl ⟨hL, hg2⟩
    · obtain ⟨g, e, db⟩ := HD.out hL
      exact .inr ⟨g, e, by rw [EF.out]; exact db.grow hg2, (GX.refl g w).grow hg2⟩
  · obtain ⟨g, rfl, db⟩ := HD.out (fun e => by rw [e] at hk; exact absurd hk (Nat.not_lt_zero _))
    have HD2 := hh_ (db.grow hg2); clear db; have d1 : ((k : Int) == -1) = false := by first | (simp; done) | (simp; omega)
    have HK := hh_ (RW hpos hy0 hw0); clear hpos hy0 hw0 H12; go_wp2
    go_loopw [5, 6] (fun a b wr => ∃ (n j : Nat) (M : List I), a = .int .i64 n /\ b = .int .i64 j /\ n < j /\ j <= L.length /\ M.length = L.length /\ kN wr g M /\ M.take n = (L.take j).filter xa /\ M.drop j = L.drop j /\ GX g w wr) (fun _ b _ => L.length - (intOf b).toNat)
    case atStart => exact ⟨k, k + 1, L, rfl, by go_num, by omega, by omega, rfl, HD2.out, HK.out, rfl, (GX.refl g w).grow hg2⟩
    case round =>
      rename World => wr
      obtain ⟨n, j, M, rfl, rfl, hnj, hj, hM, hdb, htk, hdr, hgx⟩ := hrel; have HDB := hh_ hdb; have HT := hh_ (And.intro htk hdr); have GXX := hh_ hgx; clear htk hdr hgx
      by_cases hlt : j < L.length
      · obtain ⟨y, hyk⟩ : ∃ y, M[j]? = some y := ⟨_, qQ_ vU_⟩
        have hyL : L[j]? = some y := by rw [<- RJ HT.out.2]; exact hyk
        obtain ⟨c1, c2⟩ := hdb.at hyk; have HY := hh_ (And.intro hyk hyL); have cf := fun W => Px y W
        have b0 : (0 : Int) <= (j : Int) := by omega
        have b1 : (j : Int) < (L.length : Int) := by omega
        clear hyk hyL hdb; go_upto_region 8 with fail
        refine zd (fun Z => zc Z wr.heap.size 54 #[.slice y.A y.row.length y.cap, .int .i64 y.w] /\ za wr Z) ⟨zc.new _ _ _, (za.refl wr).al _⟩ ?_; rintro Z ⟨Bz, Gz⟩; have BZ := hh_ Bz; obtain ⟨bz, fz⟩ := Bz.rules; clear c1 c2 Bz; generalize wr.heap.size = gz at *
        by_cases hw : y.w <= 0
        · have dw : decide (y.w <= 0) = true := decide_eq_true hw
          have nt : xa y = false := decide_eq_false vU_; have NT := hh_ nt; clear nt; simp only [dw] at cf
          go_wp2_with (go_at_call 138; ((with_reducible refine (cf _).mono ?_); rintro e w3 ⟨rfl, hg3⟩))
          go_roundw
          case rel => exact ⟨n, j + 1, M, rfl, by go_num, by omega, by omega, hM, HDB.out.grow (Gz.trans hg3), by rw [HT.out.1]; exact (RU HY.out.2 NT.out).symm, W9 HT.out.2, GXX.out.grow (Gz.trans hg3)⟩
          case measure => exact vZ_
        · have dw : decide (y.w <= 0) = false := decide_eq_false hw
          have nt : xa y = true := decide_eq_true vU_; have NT := hh_ nt; clear nt; simp only [dw] at cf; go_upto_region 9 with (go_at_call 138; ((with_reducible refine (cf _).mono ?_); rintro e w3 ⟨rfl, hg3⟩)); have db3 := HDB.out.grow (Gz.trans hg3); obtain ⟨x, hxn⟩ : ∃ x, M[n]? = some x := ⟨_, qQ_ vU_⟩
          obtain ⟨e1, e2⟩ := db3.at hxn; have f3 := db3.frozen; obtain ⟨bz3, fz3⟩ := (BZ.out.grow hg3).rules; have HDB3 := hh_ db3; have a0 : (0 : Int) <= (n : Int) := by omega
          have a1 : (n : Int) < (L.length : Int) := by omega
          have hnM : n < M.length := by omega
          clear hxn db3 bz fz; go_wp2; go_roundw
          case rel =>
            refine ⟨n + 1, j + 1, M.set n y, by go_num, by go_num, by omega, by omega, by rw [List.length_set]; exact hM, HDB3.out.put hnM y, ?_, ?_, ((GXX.out.grow (Gz.trans hg3)).set _ _).set _ _⟩
            · rw [RT HY.out.2 NT.out, <- HT.out.1]
              exact UA hnM y
            · rw [List.drop_set_of_lt vU_]
              exact W9 HT.out.2
          case measure => exact vZ_
      · obtain rfl : j = L.length := by omega
        have fz := hdb.frozen
        have hcell : ∀ i, i < (L.length - n) * 2 -> (wr.cell? ⟨g, n * 2 + i, none⟩).isSome = true := fun i hi => by
          obtain ⟨x, hx⟩ : ∃ x, M[n + i / 2]? = some x := ⟨_, qQ_ vU_⟩
          obtain ⟨e1, e2⟩ := hdb.at hx; rcases (by omega : i % 2 = 0 \/ i % 2 = 1) with h | h
          · rw [show n * 2 + i = (n + i / 2) * 2 by omega, e1]; rfl
          · rw [show n * 2 + i = (n + i / 2) * 2 + 1 by omega, e2]; rfl
        have hcl : ∀ ty, (Builtin.clear_ #[34] ty #[.slice (some ⟨g, n * 2, none⟩) (L.length - n) (c - n)]).run Tryz.prog wr = .ok (.tuple #[]) (wr.setCells g (n * 2) (Builtin.zeroCells #[.slice none 0 0, .int .i64 0] (L.length - n)).toList) :=
          fun ty => Wf wr ty g (n * 2) (L.length - n) (c - n) vU_ hcell fz
        have a0 : (0 : Int) <= (n : Int) := by omega
        have a1 : (n : Int) <= (L.length : Int) := by omega
        have a2 : (L.length : Int) <= (c : Int) := by omega
        have a3 : (n : Int) <= (c : Int) := by omega
        have fin : M.take n = L.filter xa := by
          have h := HT.out.1; rw [List.take_length] at h; exact h
        have FIN := hh_ fin; have ln : (L.filter xa).length = n := by rw [<- fin, List.length_take]; omega
        have LN := hh_ ln; clear hcell fin ln hdb; go_wp2; go_ret; exact ⟨by rw [LN.out]; rfl, .inr ⟨g, rfl, by rw [<- FIN.out]; exact HDB.out.cleared vU_ _, ZF _ _ _ GXX.out⟩⟩
theorem JG {w : World} {base n s cap : Nat} {e : TypeId} {B : Option Addr} {xs : List Value} (h : w.ownsRow base e s (.slice B n cap) n xs) : (B = none /\ n = 0 /\ cap = 0) \/ ∃ g, B = some ⟨g, 0, none⟩ /\ base <= g := by
  rcases h.2 with ⟨e, h0⟩ | ⟨g, cap', cur, e, hB, _⟩
  · simp at e; exact .inl ⟨e.1, h0, e.2.2⟩
  · simp at e; exact .inr ⟨g, e.1, hB⟩
theorem V7 {w : World} {base n s cap : Nat} {e : TypeId} {B : Option Addr} {xs : List Value} (h : w.ownsRow base e s (.slice B n cap) n xs) : n <= cap := by
  rcases h.2 with ⟨e, h0⟩ | ⟨g, cap', cur, e, hB, hgb, hle, _⟩
  · omega
  · simp at e; omega
theorem Ba {w : World} {base cap : Nat} {B : Option Addr} {xs : List I} (h : w.ownsRow base 54 2 (.slice B xs.length cap) xs.length (zq xs)) (hne : xs ≠ []) : ∃ g, B = some ⟨g, 0, none⟩ /\ kN w g xs := by
  rcases JG h with ⟨_, h0, _⟩ | ⟨g, rfl, _⟩
  · exact absurd (List.length_eq_zero_iff.1 h0) hne
  · exact ⟨g, rfl, (NV h).1⟩
/-! a copy -/
theorem Nd (xs : List I) (A : Option Addr) (c : Nat) (w : World) (hl : xs.length <= 200000) (hv : yI w A xs) (hk : zN A xs.length c) :
    Calls Tryz.prog 137 #[.slice A xs.length c] w fun en w' => ∃ (B : Option Addr) (cap : Nat), en = .returned (.slice B xs.length cap) /\ w'.ownsRow w.heap.size 54 2 (.slice B xs.length cap) xs.length (zq xs) /\ za w w' := by
  have HV := hh_ hv; clear hv; have eqn := fun W (B : Option Addr) n c => Lib.run_eql_slice_nil W 34 54 B n c 0 0 Tryz.underlying34
  go_enter Tryz.func137, Tryz.ntmps137; cases A with
  | none =>
    have e : xs = [] := by
      cases xs with
      | nil => rfl
      | cons x xs => obtain ⟨g, o, h, _⟩ := HV.out 0 x rfl; cases h
    subst e; go_wp2; go_ret; exact ⟨none, 0, rfl, World.ownsRow_nil _ _ _ _, za.refl _⟩
  | some ad =>
    have hsrc : Vc (w.alloc (.cells #[] 54)) (.slice (some ad) xs.length c) xs := PR hk (HV.out.grow ((za.refl w).al _)); have HSrc := hh_ hsrc; have hown : (w.alloc (.cells #[] 54)).ownsRow w.heap.size 54 2 (.slice (some ⟨w.heap.size, 0, none⟩) 0 0) 0 (zq []) := ⟨rfl, .inr ⟨w.heap.size, 0, #[], rfl, Nat.le_refl _, heap_alloc_new w _, Nat.le_refl _, by unfold maxLen; omega, rfl, rfl⟩⟩
    have Own := hh_ hown; clear hown hsrc
    go_wp2_with (at_builtin; refine zZ rfl _ _ rfl w.heap.size _ _ _ rfl Own.out _ xs rfl HSrc.out vU_ vV_ ?_; intro v7 w7 own7 gr7; obtain ⟨g7, cap7, rfl⟩ := yH own7)
    have G7 : za w w7 := za.own ((za.refl w).al _) gr7 (fun i hi => by
      rcases Nat.lt_or_ge i w.heap.size with h | h
      · exact absurd hi.symm (kX Own.out h)
      · exact h)
    have Own7 := hh_ own7; clear own7 gr7; go_ret; exact ⟨g7, cap7, by simp, by simpa using Own7.out, G7⟩
