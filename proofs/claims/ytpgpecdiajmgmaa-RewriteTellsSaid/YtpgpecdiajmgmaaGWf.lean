/-
  Joined texts of this claim: RfA, RfB, RfC, RfD. What each proves its own head says; no condition beside those that each theorem names.
-/
import Derived.Test.YtpgpecdiajmgmaaGWc
import Derived.Test.YtpgpecdiajmgmaaGWe
import Derived.Test.YtpgpecdiajmgmaaGWd
import Derived.Maps.AppendAt
namespace Go.Proofs.Ytpgpecdiajmgmaa
open Go.RowKit Go.Calm
set_option linter.unusedSimpArgs false
set_option linter.unusedVariables false

set_option maxRecDepth 100000 in
theorem rat_any (x : E) (p : PL) (w : World) (hx : EX w x) (hp : PX w p) :
    Calls Try.prog 102 #[x.val, p.val] w fun en w' => ∃ g : Nat, en = .returned (one1 2 0 x nilX nilG g 1 p).val ∧ w.heap.size ≤ g ∧ Blk w' g 31 (pC p) ∧ Grow w w' := by
  have HX := Lib.hid hx
  have HP := Lib.hid hp
  clear hx hp
  unfold E.val PL.val
  go_enter Try.func102, Try.ntmps102
  go_wp2
  refine bodyPost_ret (by simp [results, Try.results102, go_sem] <;> rfl) rfl ?_
  exact ⟨w.heap.size + 1 + 1 + 1, rfl, by omega, Blk.new' _ _ _ (by simp), (by repeat (first | (with_reducible exact Grow.refl _) | (with_reducible assumption) | (with_reducible refine Grow.set ?_ (by first | (simp; done) | (simp; omega)) _) | (with_reducible refine Grow.al ?_ _) | (with_reducible refine Grow.drew ?_) | (with_reducible refine Grow.drewN ?_ _) | (with_reducible refine Grow.trans ?_ (by assumption))))⟩
set_option maxRecDepth 100000 in
theorem rand_anyE (cols : List Int) (Ac : Option Addr) (cc : Nat) (x y : E) (w : World) (hlen : cols.length ≤ 9223372036854775807) (hc : ISl w Ac cols) (hx : EX w x) (hy : EX w y) :
    Calls Try.prog 100 #[.slice Ac cols.length cc, x.val, y.val] w fun en w' => ∃ g : Nat, en = .returned (.tuple #[(twoK 4 x y (some ⟨g, 0, none⟩)).val, .bool (decide ((typeE cols (andE (nE x) (nE y))).2 = 0))]) ∧ w.heap.size ≤ g ∧ Blk w' g 27 #[.int .i64 x.kind, .int .i64 x.v.k, .int .i64 x.v.n, .string x.v.s, .int .i64 x.col, .slice x.A x.n x.cap, .int .i64 y.kind, .int .i64 y.v.k, .int .i64 y.v.n, .string y.v.s, .int .i64 y.col, .slice y.A y.n y.cap] ∧ Grow w w' := by
  have HX := Lib.hid hx
  have HY := Lib.hid hy
  have HC := Lib.hid hc
  clear hx hy hc
  unfold E.val
  have ez : ∀ A, typeE cols (twoK 4 x y A) = typeE cols (andE (nE x) (nE y)) := fun A => by rw [← typeE_nE cols (twoK 4 x y A), nE_twoK]; rfl
  obtain ⟨T, e, hT⟩ : ∃ T e, typeE cols (andE (nE x) (nE y)) = (T, e) := ⟨_, _, rfl⟩
  rw [hT]
  have ct := fun (g : Nat) W (hg : Grow w W) (hb : Blk W g 27 #[.int .i64 x.kind, .int .i64 x.v.k, .int .i64 x.v.n, .string x.v.s, .int .i64 x.col, .slice x.A x.n x.cap, .int .i64 y.kind, .int .i64 y.v.k, .int .i64 y.v.n, .string y.v.s, .int .i64 y.col, .slice y.A y.n y.cap]) => typeof_any cols Ac cc (twoK 4 x y (some ⟨g, 0, none⟩)) W hlen (HC.out.grow hg) (ex_two x y hb (HX.out.grow hg) (HY.out.grow hg) ⟨by decide, by decide⟩)
  simp only [ez, hT] at ct
  have ez2 : ∀ A, (twoK 4 x y A).val = .agg #[.int .i64 4, .int .i64 0, .int .i64 0, .string es, .int .i64 0, .slice A 2 2] := fun A => rfl
  simp only [ez2] at ct
  have CT := Lib.hid ct
  clear ct ez hT
  go_enter Try.func100, Try.ntmps100
  go_upto_region 2 with fail
  refine wp_forget (fun X => Blk X (w.heap.size + 1 + 1 + 1) 27 #[.int .i64 x.kind, .int .i64 x.v.k, .int .i64 x.v.n, .string x.v.s, .int .i64 x.col, .slice x.A x.n x.cap, .int .i64 y.kind, .int .i64 y.v.k, .int .i64 y.v.n, .string y.v.s, .int .i64 y.col, .slice y.A y.n y.cap] ∧
    Blk X (w.heap.size + 1 + 1 + 1 + 1) 27 #[.int .i64 4, .int .i64 0, .int .i64 0, .string ⟨#[]⟩, .int .i64 0, .slice (some ⟨w.heap.size + 1 + 1 + 1, 0, none⟩) 2 2] ∧ Blk X (w.heap.size + 1 + 1) 27 #[.int .i64 0, .int .i64 0, .int .i64 0, .string ⟨#[]⟩, .int .i64 0, .slice none 0 0] ∧ Grow w X)
    ⟨(Blk.new' _ _ _ (by simp)).al _, Blk.new' _ _ _ (by simp), ((Blk.new' _ _ _ (by simp)).al _).al _, (by repeat (first | (with_reducible exact Grow.refl _) | (with_reducible assumption) | (with_reducible refine Grow.set ?_ (by first | (simp; done) | (simp; omega)) _) | (with_reducible refine Grow.al ?_ _) | (with_reducible refine Grow.drew ?_) | (with_reducible refine Grow.drewN ?_ _) | (with_reducible refine Grow.trans ?_ (by assumption))))⟩ ?_
  rintro X ⟨Bk, Bz, Br, G⟩
  obtain ⟨gr, hgr⟩ : ∃ gr, w.heap.size + 1 + 1 = gr := ⟨_, rfl⟩
  have hge : w.heap.size ≤ gr := by omega
  rw [hgr] at Bk Bz Br ⊢
  have n1 : gr ≠ gr + 1 := by omega
  have n2 : gr ≠ gr + 1 + 1 := by omega
  have n3 : gr + 1 ≠ gr + 1 + 1 := by omega
  obtain ⟨bz, fz⟩ := Bz.rules
  have lr := Br.lt
  have lz := Bz.lt
  go_upto_region 3 with (go_at_call 127; ((with_reducible refine (CT.out _ X G Bk).mono ?_); rintro en w2 ⟨rfl, hg2⟩))
  have Bk2 := Bk.grow hg2
  have Bz2 := Bz.grow hg2
  have Br2 := Br.grow hg2
  obtain ⟨bz2, fz2⟩ := Bz2.rules
  obtain ⟨br2, fr2⟩ := Br2.rules
  have lr2 := Br2.lt
  clear bz fz
  go_wp2
  have B3 := (((((Br2.set 0 (.int .i64 4)).set 1 (.int .i64 0)).set 2 (.int .i64 0)).set 3 (.string ⟨#[]⟩)).set 4 (.int .i64 0)).set 5 (.slice (some ⟨gr + 1, 0, none⟩) 2 2)
  have G3 : Grow w ((((((w2.setCell ⟨gr, 0, none⟩ (.int .i64 4)).setCell ⟨gr, 1, none⟩ (.int .i64 0)).setCell ⟨gr, 2, none⟩ (.int .i64 0)).setCell ⟨gr, 3, none⟩ (.string ⟨#[]⟩)).setCell ⟨gr, 4, none⟩ (.int .i64 0)).setCell ⟨gr, 5, none⟩ (.slice (some ⟨gr + 1, 0, none⟩) 2 2)) := Grow.set (Grow.set (Grow.set (Grow.set (Grow.set (Grow.set (G.trans hg2) hge _) hge _) hge _) hge _) hge _) hge _
  have K3 := Blk.other (Blk.other (Blk.other (Blk.other (Blk.other (Blk.other Bk2 n1 0 (.int .i64 4)) n1 1 (.int .i64 0)) n1 2 (.int .i64 0)) n1 3 (.string ⟨#[]⟩)) n1 4 (.int .i64 0)) n1 5 (.slice (some ⟨gr + 1, 0, none⟩) 2 2)
  simp only [List.setIfInBounds_toArray, List.set_cons_zero, List.set_cons_succ] at B3
  obtain ⟨b3, f3⟩ := B3.rules
  refine bodyPost_ret (v := .tuple #[(twoK 4 x y (some ⟨gr + 1, 0, none⟩)).val, .bool (e == 0)]) (by simp [results, Try.results100, go_sem, b3, ez2]) rfl ⟨gr + 1, ?_, by omega, K3, G3⟩
  by_cases he : e = 0 <;> simp [he]
theorem ratS_any (S : Nat → Prop) (x : E) (p : PL) (w : World) (hx : EXs S w x) (hp : PXs S w p) : Calls Try.prog 102 #[x.val, p.val] w fun en w' => RP S (fltP (nE x) (nP p)) w w' en :=
  (rat_any x p w hx.ex hp.px).mono fun e w' ⟨g, h1, h2, h3, h4⟩ => ⟨_, h1, pxs_one 1 h3 (.inr h2) ((nxs_flt (hx.grow h4)).mono (fun q _ h => .inl h)) ((hp.grow h4).mono (fun q _ h => .inl h)), rfl, h4⟩
structure TbS (w : World) (ts : List (L2 Int)) (At : Option Addr) : Prop where
  t : TSl w At ts
  l : ts.length ≤ reachN
  b : ∀ t ∈ ts, t.xs.length ≤ reachN
theorem TbS.grow {w w' : World} (hg : Grow w w') {ts : List (L2 Int)} {At : Option Addr} (h : TbS w ts At) : TbS w' ts At := ⟨h.t.grow hg, h.l, h.b⟩
set_option maxRecDepth 100000 in
theorem rcols_any (ts : List (L2 Int)) (At : Option Addr) (nt : Nat) (p : PL) (w : World) (hw : TbS w ts At) (hp : PX w p) :
    Calls Try.prog 101 #[.slice At ts.length nt, p.val] w fun en w' => ∃ (B : Option Addr) (cap : Nat), en = .returned (.slice B (colsE (tabs ts) p).1.length cap) ∧ ISl w' B (colsE (tabs ts) p).1 ∧ Grow w w' := by
  have ct := fun W (h : Grow w W) => rtypes5_any ts At nt p W hw.l hw.b (hw.t.grow h) (hp.grow h)
  unfold PL.val at ct ⊢
  clear hw hp
  obtain ⟨R, hR⟩ : ∃ R, colsE (tabs ts) p = R := ⟨_, rfl⟩
  rw [hR] at ct ⊢
  clear hR
  go_enter Try.func101, Try.ntmps101
  go_wp2_with (go_at_call 27; ((with_reducible refine (ct _ (by repeat (first | (with_reducible exact Grow.refl _) | (with_reducible assumption) | (with_reducible refine Grow.set ?_ (by first | (simp; done) | (simp; omega)) _) | (with_reducible refine Grow.al ?_ _) | (with_reducible refine Grow.drew ?_) | (with_reducible refine Grow.drewN ?_ _) | (with_reducible refine Grow.trans ?_ (by assumption))))).mono ?_); rintro en w2 ⟨B, cap, rfl, hi, hg⟩; have Hi := Lib.hid hi; clear hi))
  refine bodyPost_ret (by simp [results, Try.results101, go_sem] <;> rfl) rfl ?_
  exact ⟨B, cap, rfl, Hi.out, (by repeat (first | (with_reducible exact Grow.refl _) | (with_reducible assumption) | (with_reducible refine Grow.set ?_ (by first | (simp; done) | (simp; omega)) _) | (with_reducible refine Grow.al ?_ _) | (with_reducible refine Grow.drew ?_) | (with_reducible refine Grow.drewN ?_ _) | (with_reducible refine Grow.trans ?_ (by assumption))))⟩
end Go.Proofs.Ytpgpecdiajmgmaa

namespace Go.Proofs.Ytpgpecdiajmgmaa
open Go.RowKit Go.Calm
set_option linter.unusedSimpArgs false
set_option linter.unusedVariables false

def spanGo (f : Nat → Int × Int) : Nat → Int × Int
  | 0 => (99, -1)
  | r + 1 => (if (f r).1 < (spanGo f r).1 then (f r).1 else (spanGo f r).1, if (spanGo f r).2 < (f r).2 then (f r).2 else (spanGo f r).2)
def spanE : E → Int × Int
  | .leaf => (99, -1)
  | .mk k _ c _ n _ kid => if k = 2 then (c, c) else spanGo (fun i => spanE (kid i)) n
theorem spanGo_succ (f : Nat → Int × Int) (r : Nat) : spanGo f (r + 1) = (if (f r).1 < (spanGo f r).1 then (f r).1 else (spanGo f r).1, if (spanGo f r).2 < (f r).2 then (f r).2 else (spanGo f r).2) := rfl
theorem spanGo_hi {f : Nat → Int × Int} {g : Nat → Bool} {n0 : Int} (h0 : 0 ≤ n0) : ∀ r : Nat, (∀ i, i < r → (decide ((f i).2 < n0) = g i)) → decide ((spanGo f r).2 < n0) = (List.range r).all g
  | 0, _ => decide_eq_true (by show (-1 : Int) < n0; omega)
  | r + 1, h => by
    rw [range_all, ← spanGo_hi h0 r (fun i hi => h i (by omega)), ← h r (by omega)]
    rw [spanGo_succ]
    simp only
    rw [← Bool.decide_and]
    apply decide_eq_decide.2
    split <;> omega
theorem spanGo_lo {f : Nat → Int × Int} {g : Nat → Bool} {n0 : Int} (h0 : n0 ≤ 99) : ∀ r : Nat, (∀ i, i < r → (decide (n0 ≤ (f i).1) = g i)) → decide (n0 ≤ (spanGo f r).1) = (List.range r).all g
  | 0, _ => decide_eq_true (by show n0 ≤ (99 : Int); omega)
  | r + 1, h => by
    rw [range_all, ← spanGo_lo h0 r (fun i hi => h i (by omega)), ← h r (by omega)]
    rw [spanGo_succ]
    simp only
    rw [← Bool.decide_and]
    apply decide_eq_decide.2
    split <;> omega
theorem span_hi {n0 : Int} (h0 : 0 ≤ n0) (e : E) : WfE e → decide ((spanE e).2 < n0) = colsAll (fun c => decide (c < n0)) e := by
  induction e with
  | leaf => intro h; exact absurd h id
  | mk k v c A n cap kid ih =>
    intro h
    rw [colsAll_mk]
    unfold spanE
    by_cases hk : k = 2
    · obtain rfl := (h.2.1 hk).1
      rw [if_pos hk, if_pos hk]
      simp
    · rw [if_neg hk, if_neg hk, Bool.true_and]
      exact spanGo_hi h0 n (fun i hi => ih i (h.2.2 i hi))
theorem span_lo {n0 : Int} (h0 : n0 ≤ 99) (e : E) : WfE e → decide (n0 ≤ (spanE e).1) = colsAll (fun c => decide (n0 ≤ c)) e := by
  induction e with
  | leaf => intro h; exact absurd h id
  | mk k v c A n cap kid ih =>
    intro h
    rw [colsAll_mk]
    unfold spanE
    by_cases hk : k = 2
    · obtain rfl := (h.2.1 hk).1
      rw [if_pos hk, if_pos hk]
      simp
    · rw [if_neg hk, if_neg hk, Bool.true_and]
      exact spanGo_lo h0 n (fun i hi => ih i (h.2.2 i hi))
def SpanC (e : E) : Prop := ∀ w, EX w e → Calls Try.prog 103 #[e.val] w fun en w' => en = .returned (.tuple #[.int .i64 (spanE e).1, .int .i64 (spanE e).2]) ∧ Grow w w'
set_option maxRecDepth 100000 in
set_option maxHeartbeats 4000000 in
theorem rspan_any (e : E) : SpanC e := by
  induction e with
  | leaf =>
    intro w hE
    have e1 : spanE .leaf = (99, -1) := rfl
    rw [e1]
    clear e1 hE
    unfold E.val
    simp only [E.kind, E.v, E.col, E.A, E.n, E.cap]
    go_enter Try.func103, Try.ntmps103
    go_wp2
    refine wp_loop_rounds 1 ?_
    rw [rounds_succ]
    go_wp2
    exact bodyPost_ret (by simp [results, Try.results103, go_sem]) rfl ⟨rfl, (by repeat (first | (with_reducible exact Grow.refl _) | (with_reducible assumption) | (with_reducible refine Grow.set ?_ (by first | (simp; done) | (simp; omega)) _) | (with_reducible refine Grow.al ?_ _) | (with_reducible refine Grow.drew ?_) | (with_reducible refine Grow.drewN ?_ _) | (with_reducible refine Grow.trans ?_ (by assumption))))⟩
  | mk k v c A m cap kid ih =>
    intro w hE
    have hm : m ≤ 9223372036854775807 := by cases hE with | mk hm => unfold maxLen at hm; omega
    have HE := Lib.hid hE
    clear hE
    unfold E.val
    simp only [E.kind, E.v, E.col, E.A, E.n, E.cap]
    by_cases hk : k = 2
    · have e1 : spanE (.mk k v c A m cap kid) = (c, c) := by unfold spanE; rw [if_pos hk]
      rw [e1]
      have dk : (k == 2) = true := by simpa using hk
      clear e1 hk hm
      go_enter Try.func103, Try.ntmps103
      go_wp2
      go_quiet (fail)
      go_wp2
      exact bodyPost_ret (by simp [results, Try.results103, go_sem]) rfl ⟨rfl, (by repeat (first | (with_reducible exact Grow.refl _) | (with_reducible assumption) | (with_reducible refine Grow.set ?_ (by first | (simp; done) | (simp; omega)) _) | (with_reducible refine Grow.al ?_ _) | (with_reducible refine Grow.drew ?_) | (with_reducible refine Grow.drewN ?_ _) | (with_reducible refine Grow.trans ?_ (by assumption))))⟩
    · obtain ⟨f, hf⟩ : ∃ f : Nat → Int × Int, (fun i => spanE (kid i)) = f := ⟨_, rfl⟩
      have e1 : spanE (.mk k v c A m cap kid) = spanGo f m := by
        conv => lhs; unfold spanE
        rw [if_neg hk, hf]
      have dk : (k == 2) = false := by simpa using hk
      obtain ⟨R, hR⟩ : ∃ R, spanGo f m = R := ⟨_, rfl⟩
      rw [e1, hR]
      have HR := Lib.hid hR
      have HFF := Lib.hid hf
      clear e1 hk hR hf
      go_enter Try.func103, Try.ntmps103
      go_upto_region 1 with fail
      refine wp_forget (fun X => Blk X w.heap.size 27 #[.int .i64 k, .int .i64 v.k, .int .i64 v.n, .string v.s, .int .i64 c, .slice A m cap] ∧ Grow w X) ⟨Blk.new _ _ _, (by repeat (first | (with_reducible exact Grow.refl _) | (with_reducible assumption) | (with_reducible refine Grow.set ?_ (by first | (simp; done) | (simp; omega)) _) | (with_reducible refine Grow.al ?_ _) | (with_reducible refine Grow.drew ?_) | (with_reducible refine Grow.drewN ?_ _) | (with_reducible refine Grow.trans ?_ (by assumption))))⟩ ?_
      rintro X ⟨BX, G⟩
      obtain ⟨bx, fx⟩ := BX.rules
      have lx := BX.lt
      clear BX
      go_wp2
      clear bx fx lx
      go_loopw [20, 4, 5] (fun i lo hi wr => ∃ j : Nat, j ≤ m ∧ i = .int .i64 j ∧ lo = .int .i64 (spanGo f j).1 ∧ hi = .int .i64 (spanGo f j).2 ∧ Grow w wr) (fun i _ _ _ => m - (intOf i).toNat)
      case atStart => exact ⟨0, Nat.zero_le _, rfl, rfl, rfl, G⟩
      case round =>
        obtain ⟨j, hj, rfl, rfl, rfl, hg⟩ := hrel
        by_cases hlt : j < m
        · obtain ⟨gk, ok, hA, hck, hEk⟩ : ∃ gk ok, A = some ⟨gk, ok, none⟩ ∧ ECells w gk (ok + j * 6) (kid j) ∧ EX w (kid j) := by
            cases HE.out with
            | mk hn' hc hk hv hi =>
              obtain ⟨gk, ok, h1, h2⟩ := hc j hlt
              exact ⟨gk, ok, h1, h2, hk j hlt⟩
          subst hA
          have cj := fun W (h : Grow w W) => ih j W (hEk.grow h)
          have hfj : spanE (kid j) = f j := by rw [← HFF.out]
          obtain ⟨a, b, hab⟩ : ∃ a b, f j = (a, b) := ⟨_, _, rfl⟩
          obtain ⟨lo, hi, hlh⟩ : ∃ lo hi, spanGo f j = (lo, hi) := ⟨_, _, rfl⟩
          rw [hfj, hab] at cj
          have nx : spanGo f (j + 1) = (if a < lo then a else lo, if hi < b then b else hi) := by
            conv => lhs; unfold spanGo
            rw [hab, hlh]
          rw [hlh]
          simp only at cj ⊢
          obtain ⟨c0, c1, c2, c3, c4, c5⟩ := hck.grow hg
          unfold E.val at cj
          have CJ := Lib.hid cj
          have NX := Lib.hid nx
          clear cj nx hfj hab hlh hck hEk
          by_cases ha : a < lo
          · have da : decide (a < lo) = true := decide_eq_true ha
            by_cases hb : hi < b
            · have db : decide (hi < b) = true := decide_eq_true hb
              have N2 := Lib.hid (show spanGo f (j + 1) = (a, b) by rw [NX.out, if_pos ha, if_pos hb])
              clear ha hb
              go_wp2_with (go_at_call 103; ((with_reducible refine (CJ.out _ (by repeat (first | (with_reducible exact Grow.refl _) | (with_reducible assumption) | (with_reducible refine Grow.set ?_ (by first | (simp; done) | (simp; omega)) _) | (with_reducible refine Grow.al ?_ _) | (with_reducible refine Grow.drew ?_) | (with_reducible refine Grow.drewN ?_ _) | (with_reducible refine Grow.trans ?_ (by assumption))))).mono ?_); rintro en w2 ⟨rfl, hg2⟩))
              go_roundw
              case rel => exact ⟨j + 1, by omega, by go_num, by rw [N2.out], by rw [N2.out], (by repeat (first | (with_reducible exact Grow.refl _) | (with_reducible assumption) | (with_reducible refine Grow.set ?_ (by first | (simp; done) | (simp; omega)) _) | (with_reducible refine Grow.al ?_ _) | (with_reducible refine Grow.drew ?_) | (with_reducible refine Grow.drewN ?_ _) | (with_reducible refine Grow.trans ?_ (by assumption))))⟩
              case measure => simp [intOf]; omega
            · have db : decide (hi < b) = false := decide_eq_false hb
              have N2 := Lib.hid (show spanGo f (j + 1) = (a, hi) by rw [NX.out, if_pos ha, if_neg hb])
              clear ha hb
              go_wp2_with (go_at_call 103; ((with_reducible refine (CJ.out _ (by repeat (first | (with_reducible exact Grow.refl _) | (with_reducible assumption) | (with_reducible refine Grow.set ?_ (by first | (simp; done) | (simp; omega)) _) | (with_reducible refine Grow.al ?_ _) | (with_reducible refine Grow.drew ?_) | (with_reducible refine Grow.drewN ?_ _) | (with_reducible refine Grow.trans ?_ (by assumption))))).mono ?_); rintro en w2 ⟨rfl, hg2⟩))
              go_roundw
              case rel => exact ⟨j + 1, by omega, by go_num, by rw [N2.out], by rw [N2.out], (by repeat (first | (with_reducible exact Grow.refl _) | (with_reducible assumption) | (with_reducible refine Grow.set ?_ (by first | (simp; done) | (simp; omega)) _) | (with_reducible refine Grow.al ?_ _) | (with_reducible refine Grow.drew ?_) | (with_reducible refine Grow.drewN ?_ _) | (with_reducible refine Grow.trans ?_ (by assumption))))⟩
              case measure => simp [intOf]; omega
          · have da : decide (a < lo) = false := decide_eq_false ha
            by_cases hb : hi < b
            · have db : decide (hi < b) = true := decide_eq_true hb
              have N2 := Lib.hid (show spanGo f (j + 1) = (lo, b) by rw [NX.out, if_neg ha, if_pos hb])
              clear ha hb
              go_wp2_with (go_at_call 103; ((with_reducible refine (CJ.out _ (by repeat (first | (with_reducible exact Grow.refl _) | (with_reducible assumption) | (with_reducible refine Grow.set ?_ (by first | (simp; done) | (simp; omega)) _) | (with_reducible refine Grow.al ?_ _) | (with_reducible refine Grow.drew ?_) | (with_reducible refine Grow.drewN ?_ _) | (with_reducible refine Grow.trans ?_ (by assumption))))).mono ?_); rintro en w2 ⟨rfl, hg2⟩))
              go_roundw
              case rel => exact ⟨j + 1, by omega, by go_num, by rw [N2.out], by rw [N2.out], (by repeat (first | (with_reducible exact Grow.refl _) | (with_reducible assumption) | (with_reducible refine Grow.set ?_ (by first | (simp; done) | (simp; omega)) _) | (with_reducible refine Grow.al ?_ _) | (with_reducible refine Grow.drew ?_) | (with_reducible refine Grow.drewN ?_ _) | (with_reducible refine Grow.trans ?_ (by assumption))))⟩
              case measure => simp [intOf]; omega
            · have db : decide (hi < b) = false := decide_eq_false hb
              have N2 := Lib.hid (show spanGo f (j + 1) = (lo, hi) by rw [NX.out, if_neg ha, if_neg hb])
              clear ha hb
              go_wp2_with (go_at_call 103; ((with_reducible refine (CJ.out _ (by repeat (first | (with_reducible exact Grow.refl _) | (with_reducible assumption) | (with_reducible refine Grow.set ?_ (by first | (simp; done) | (simp; omega)) _) | (with_reducible refine Grow.al ?_ _) | (with_reducible refine Grow.drew ?_) | (with_reducible refine Grow.drewN ?_ _) | (with_reducible refine Grow.trans ?_ (by assumption))))).mono ?_); rintro en w2 ⟨rfl, hg2⟩))
              go_roundw
              case rel => exact ⟨j + 1, by omega, by go_num, by rw [N2.out], by rw [N2.out], (by repeat (first | (with_reducible exact Grow.refl _) | (with_reducible assumption) | (with_reducible refine Grow.set ?_ (by first | (simp; done) | (simp; omega)) _) | (with_reducible refine Grow.al ?_ _) | (with_reducible refine Grow.drew ?_) | (with_reducible refine Grow.drewN ?_ _) | (with_reducible refine Grow.trans ?_ (by assumption))))⟩
              case measure => simp [intOf]; omega
        · obtain rfl : j = m := by omega
          rw [HR.out]
          clear hlt
          go_wp2
          exact bodyPost_ret (by simp [results, Try.results103, go_sem]) rfl ⟨rfl, (by repeat (first | (with_reducible exact Grow.refl _) | (with_reducible assumption) | (with_reducible refine Grow.set ?_ (by first | (simp; done) | (simp; omega)) _) | (with_reducible refine Grow.al ?_ _) | (with_reducible refine Grow.drew ?_) | (with_reducible refine Grow.drewN ?_ _) | (with_reducible refine Grow.trans ?_ (by assumption))))⟩
end Go.Proofs.Ytpgpecdiajmgmaa

namespace Go.Proofs.Ytpgpecdiajmgmaa
open Go.RowKit Go.Calm
set_option linter.unusedSimpArgs false
set_option linter.unusedVariables false

theorem wpList_append_new {tr te : TypeId} {sz bytes : Nat} {z : Value} (T : ElT tr te sz bytes z) {w : World} {ops : Array Oper} {rest : List Oper} {o : Oper} {a : Act} {Q : Exit → Act → World → Prop} (hgd : o.guard = none) (s x : Operand)
    (ho : o.op = .call { callee := .builtin .append, args := #[s, x], argTypes := #[tr, tr] })
    (base : Nat) (v : Value) (n : Nat) (vs : List Value) (hs : a.eval s = v) (hown : w.ownsRow base te sz v n vs) (ad : Addr) (m c : Nat) (news : List Value) (hx : a.eval x = .slice (some ad) m c) (hl : news.length = m * sz) (hnews : ∀ j u, news[j]? = some u → w.cell? (ad.add j) = some u) (h1 : ∀ u ∈ news, u.oneCell' = true) (h63 : n + m ≤ maxLen) (hB : (n + m) * bytes ≤ 140737488355328) (hbase : base ≤ w.heap.size)
    (h : ∀ v' w', w'.ownsRow base te sz v' (n + m) (vs ++ news) → w.grownBy w' v.ownBlock → (v'.ownBlock = v.ownBlock ∨ v'.ownBlock = some w.heap.size) → wpList Try.prog ops Q rest (a.put o.dst v') w') : wpList Try.prog ops Q (o :: rest) a w := by
  obtain ⟨ti, hti, hz0, hz1, hz2⟩ := T.hi
  exact Go.wpList_append_own_at w hgd s x tr ho base te ti z sz bytes T.hu hti hz0 hz1 hz2 T.hz T.hp v n vs hs hown ad m c news hx hl hnews h1 h63 hB hbase (fun v' w' a b _ d => h v' w' a b d)
theorem own_heap {w W : World} {base n s : Nat} {e : TypeId} {v : Value} {xs : List Value} (h : w.ownsRow base e s v n xs) (hh : ∀ g, v.ownBlock = some g → W.heap[g]? = w.heap[g]?) : W.ownsRow base e s v n xs := by
  obtain ⟨h1, h2⟩ := h
  refine ⟨h1, ?_⟩
  rcases h2 with h2 | ⟨g, cap, cur, a, b, c, d⟩
  · exact .inl h2
  · exact .inr ⟨g, cap, cur, a, b, (hh g (by rw [a]; rfl)).trans c, d⟩
theorem own_lt {w : World} {base n s : Nat} {e : TypeId} {v : Value} {xs : List Value} (h : w.ownsRow base e s v n xs) {g : Nat} (hg : v.ownBlock = some g) : base ≤ g ∧ g < w.heap.size := by
  rcases h.2 with ⟨rfl, _⟩ | ⟨g', cap, cur, rfl, b, c, d⟩
  · cases hg
  · cases hg
    exact ⟨b, (Array.getElem?_eq_some_iff.1 c).1⟩
theorem own_sl {w : World} {base n s : Nat} {e : TypeId} {v : Value} {xs : List Value} (h : w.ownsRow base e s v n xs) : ∃ (B : Option Addr) (cap : Nat), v = .slice B n cap := by
  rcases h.2 with ⟨rfl, rfl⟩ | ⟨g, cap, cur, rfl, _⟩
  · exact ⟨none, 0, rfl⟩
  · exact ⟨_, _, rfl⟩
abbrev Tk (S : Nat → Prop) (b0 b : Nat) (v : Value) : Nat → Prop := fun q => (S q ∧ q < b0) ∨ (b < q ∧ v.ownBlock ≠ some q)
abbrev Tn (S : Nat → Prop) (b0 b : Nat) : Nat → Prop := fun q => (S q ∧ q < b0) ∨ b < q
theorem flatG_succ (f : Nat → List Value) (n : Nat) : flatG f (n + 1) = flatG f n ++ f n := by
  unfold flatG
  rw [List.range_succ, List.flatMap_append]
  simp
theorem flatG_congr {f g : Nat → List Value} : ∀ n : Nat, (∀ i, i < n → f i = g i) → flatG f n = flatG g n
  | 0, _ => rfl
  | n + 1, h => by rw [flatG_succ, flatG_succ, flatG_congr n (fun i hi => h i (by omega)), h n (by omega)]
structure BkE (S : Nat → Prop) (b0 b : Nat) (wr : World) (v : Value) (j : Nat) (Q : E → E) (kid F : Nat → E) : Prop where
  own : wr.ownsRow (b + 1) 27 6 v j (flatG (fun i => (F i).cells) j)
  kept : ∀ i, i < j → EXs (Tk S b0 b v) wr (F i)
  done : ∀ i, i < j → nE (F i) = Q (kid i)
theorem BkE.grow {S : Nat → Prop} {b0 b : Nat} {wr w' : World} {v : Value} {j : Nat} {Q : E → E} {kid F : Nat → E} (h : BkE S b0 b wr v j Q kid F) (hg : Grow wr w') : BkE S b0 b w' v j Q kid F := ⟨own_grow h.own hg, fun i hi => (h.kept i hi).grow hg, h.done⟩
theorem BkE.nil {S : Nat → Prop} {b0 b : Nat} {wr : World} {Q : E → E} {kid : Nat → E} : BkE S b0 b wr (.slice none 0 0) 0 Q kid kid := ⟨World.ownsRow_nil _ _ _ _, fun i hi => absurd hi (Nat.not_lt_zero _), fun i hi => absurd hi (Nat.not_lt_zero _)⟩
theorem BkE.set {S : Nat → Prop} {b0 b : Nat} {wr : World} {v : Value} {j : Nat} {Q : E → E} {kid F : Nat → E} (h : BkE S b0 b wr v j Q kid F) (hb : b0 ≤ b) {g : Nat} (hg : g ≤ b) (h0 : b0 ≤ g) (o : Nat) (u : Value) : BkE S b0 b (wr.setCell ⟨g, o, none⟩ u) v j Q kid F := by
  have hh : ∀ q, q ≠ g → (wr.setCell ⟨g, o, none⟩ u).heap[q]? = wr.heap[q]? := fun q hq => Below.heap_setCell wr ⟨g, o, none⟩ _ q hq
  exact ⟨own_heap h.own (fun g' hg' => hh g' (by have := (own_lt h.own hg').1; omega)), fun i hi => (h.kept i hi).move (fun q hq _ => hh q (by rcases hq with ⟨_, h⟩ | ⟨h, _⟩ <;> omega)) (by simp), h.done⟩
theorem BkE.app {S : Nat → Prop} {b0 b : Nat} {w1 w2 : World} {v v' : Value} {j : Nat} {Q : E → E} {kid F : Nat → E} (h : BkE S b0 b w1 v j Q kid F) (hb : b0 ≤ b) {r : E} (hr : EXs (Tk S b0 b v) w1 r) (hn : nE r = Q (kid j)) (own' : w2.ownsRow (b + 1) 27 6 v' (j + 1) (flatG (fun i => (F i).cells) j ++ r.cells)) (gr : w1.grownBy w2 v.ownBlock) (hat : v'.ownBlock = v.ownBlock ∨ v'.ownBlock = some w1.heap.size) : BkE S b0 b w2 v' (j + 1) Q kid (fun i => if i = j then r else F i) := by
  have mv : ∀ e : E, EXs (Tk S b0 b v) w1 e → EXs (Tk S b0 b v') w2 e := fun e he => by
    have ag : Agr (Tk S b0 b v) w1 w2 := fun q hq hlt => gr.block q hlt (fun e => by
      rcases hq with ⟨_, h2⟩ | ⟨_, h2⟩
      · have := (own_lt h.own e.symm).1; omega
      · exact h2 e.symm)
    have he' : EXs (fun q => Tk S b0 b v q ∧ q < w1.heap.size) w1 e := he.mono (fun q a b => ⟨b, a⟩)
    refine (he'.move (fun q hq hlt => ag q hq.1 hlt) gr.size).mono (fun q _ hq => ?_)
    rcases hq with ⟨h1 | ⟨h1, h2⟩, h3⟩
    · exact .inl h1
    · refine .inr ⟨h1, fun e => ?_⟩
      rcases hat with h4 | h4
      · exact h2 (h4.symm.trans e)
      · rw [h4] at e; cases e; omega
  refine ⟨?_, fun i hi => ?_, fun i hi => ?_⟩
  · rw [flatG_succ, if_pos rfl, flatG_congr j (g := fun i => (F i).cells) (fun i hi => by rw [if_neg (by omega)])]
    exact own'
  · by_cases hij : i = j
    · simp only [if_pos hij]; exact mv r hr
    · simp only [if_neg hij]; exact mv _ (h.kept i (by omega))
  · by_cases hij : i = j
    · subst hij; simp only [if_pos]; exact hn
    · simp only [if_neg hij]; exact h.done i (by omega)
structure BkP (S : Nat → Prop) (b0 b : Nat) (wr : World) (v : Value) (j : Nat) (Q : PL → PL) (kid F : Nat → PL) : Prop where
  own : wr.ownsRow (b + 1) 31 11 v j (flatG (fun i => (F i).cells) j)
  kept : ∀ i, i < j → PXs (Tk S b0 b v) wr (F i)
  done : ∀ i, i < j → nP (F i) = Q (kid i)
theorem BkP.grow {S : Nat → Prop} {b0 b : Nat} {wr w' : World} {v : Value} {j : Nat} {Q : PL → PL} {kid F : Nat → PL} (h : BkP S b0 b wr v j Q kid F) (hg : Grow wr w') : BkP S b0 b w' v j Q kid F := ⟨own_grow h.own hg, fun i hi => (h.kept i hi).grow hg, h.done⟩
theorem BkP.nil {S : Nat → Prop} {b0 b : Nat} {wr : World} {Q : PL → PL} {kid : Nat → PL} : BkP S b0 b wr (.slice none 0 0) 0 Q kid kid := ⟨World.ownsRow_nil _ _ _ _, fun i hi => absurd hi (Nat.not_lt_zero _), fun i hi => absurd hi (Nat.not_lt_zero _)⟩
theorem BkP.set {S : Nat → Prop} {b0 b : Nat} {wr : World} {v : Value} {j : Nat} {Q : PL → PL} {kid F : Nat → PL} (h : BkP S b0 b wr v j Q kid F) (hb : b0 ≤ b) {g : Nat} (hg : g ≤ b) (h0 : b0 ≤ g) (o : Nat) (u : Value) : BkP S b0 b (wr.setCell ⟨g, o, none⟩ u) v j Q kid F := by
  have hh : ∀ q, q ≠ g → (wr.setCell ⟨g, o, none⟩ u).heap[q]? = wr.heap[q]? := fun q hq => Below.heap_setCell wr ⟨g, o, none⟩ _ q hq
  exact ⟨own_heap h.own (fun g' hg' => hh g' (by have := (own_lt h.own hg').1; omega)), fun i hi => (h.kept i hi).move (fun q hq _ => hh q (by rcases hq with ⟨_, h⟩ | ⟨h, _⟩ <;> omega)) (by simp), h.done⟩
theorem BkP.app {S : Nat → Prop} {b0 b : Nat} {w1 w2 : World} {v v' : Value} {j : Nat} {Q : PL → PL} {kid F : Nat → PL} (h : BkP S b0 b w1 v j Q kid F) (hb : b0 ≤ b) {r : PL} (hr : PXs (Tk S b0 b v) w1 r) (hn : nP r = Q (kid j)) (own' : w2.ownsRow (b + 1) 31 11 v' (j + 1) (flatG (fun i => (F i).cells) j ++ r.cells)) (gr : w1.grownBy w2 v.ownBlock) (hat : v'.ownBlock = v.ownBlock ∨ v'.ownBlock = some w1.heap.size) : BkP S b0 b w2 v' (j + 1) Q kid (fun i => if i = j then r else F i) := by
  have mv : ∀ e : PL, PXs (Tk S b0 b v) w1 e → PXs (Tk S b0 b v') w2 e := fun e he => by
    have ag : Agr (Tk S b0 b v) w1 w2 := fun q hq hlt => gr.block q hlt (fun e => by
      rcases hq with ⟨_, h2⟩ | ⟨_, h2⟩
      · have := (own_lt h.own e.symm).1; omega
      · exact h2 e.symm)
    have he' : PXs (fun q => Tk S b0 b v q ∧ q < w1.heap.size) w1 e := he.mono (fun q a b => ⟨b, a⟩)
    refine (he'.move (fun q hq hlt => ag q hq.1 hlt) gr.size).mono (fun q _ hq => ?_)
    rcases hq with ⟨h1 | ⟨h1, h2⟩, h3⟩
    · exact .inl h1
    · refine .inr ⟨h1, fun e => ?_⟩
      rcases hat with h4 | h4
      · exact h2 (h4.symm.trans e)
      · rw [h4] at e; cases e; omega
  refine ⟨?_, fun i hi => ?_, fun i hi => ?_⟩
  · rw [flatG_succ, if_pos rfl, flatG_congr j (g := fun i => (F i).cells) (fun i hi => by rw [if_neg (by omega)])]
    exact own'
  · by_cases hij : i = j
    · simp only [if_pos hij]; exact mv r hr
    · simp only [if_neg hij]; exact mv _ (h.kept i (by omega))
  · by_cases hij : i = j
    · subst hij; simp only [if_pos]; exact hn
    · simp only [if_neg hij]; exact h.done i (by omega)
def BackC (n0 : Int) (e : E) : Prop := ∀ (S : Nat → Prop) (w : World), WfE e → EXs S w e → colsAll (fun c => decide (n0 ≤ c)) e = true →
  Calls Try.prog 104 #[e.val, .int .i64 n0] w fun en w' => ME S (-n0) e w w' en
def VS1 (T : Nat → Prop) (lo : Nat) (z : E) (v : Value) (W : World) : Prop := ∃ (g : Nat) (r : E), v = .slice (some ⟨g, 0, none⟩) 1 1 ∧ lo ≤ g ∧ Blk W g 27 #[.int .i64 r.kind, .int .i64 r.v.k, .int .i64 r.v.n, .string r.v.s, .int .i64 r.col, .slice r.A r.n r.cap] ∧ EXs T W r ∧ nE r = z
theorem VS1.pers (T : Nat → Prop) (lo : Nat) (z : E) : Pers (VS1 T lo z) := fun v w w' hg ⟨g, r, a, b, c, d, e⟩ => ⟨g, r, a, b, c.grow hg, d.grow hg, e⟩
theorem BkE.fin {S : Nat → Prop} {w wr : World} {b : Nat} {B : Option Addr} {m cap cap0 : Nat} {n0 : Int} {kid F : Nat → E} {k : Int} {v : V} {c c' : Int} {A : Option Addr} (h : BkE S w.heap.size b wr (.slice B m cap) m (movE (-n0)) kid F) (hb : w.heap.size ≤ b) (he : EXs S w (.mk k v c A m cap0 kid)) (hc : inI64 c') (hcc : c' = if k = 2 then c + -n0 else c) :
    EXs (Tn S w.heap.size b) wr (.mk k v c' B m cap F) ∧ nE (.mk k v c' B m cap F) = movE (-n0) (.mk k v c A m cap0 kid) := by
  constructor
  · intro W a
    have e0 := he.ex
    cases e0 with
    | mk hn hc0 hk0 hv hi =>
      rcases own_rowE h.own with ⟨h0, rfl⟩ | ⟨g, cur, rfl, hg, hB, f, hcs⟩
      · subst h0
        exact .mk hn (fun i hi => absurd hi (Nat.not_lt_zero _)) (fun i hi => absurd hi (Nat.not_lt_zero _)) hv ⟨hi.1, hc⟩
      · refine .mk hn (fun i hi => ⟨g, 0, rfl, ?_⟩) (fun i hi => h.kept i hi W (a.mono (fun q _ hq => ?_))) hv ⟨hi.1, hc⟩
        · rw [Nat.zero_add]; exact (hcs i hi).agr a (.inr hg)
        · rcases hq with hq | hq
          · exact .inl hq
          · exact .inr hq.1
  · rw [nE_mk]
    unfold movE
    rw [hcc]
    congr 1
    funext i
    by_cases hi : i < m
    · rw [if_pos hi, if_pos hi]; exact h.done i hi
    · rw [if_neg hi, if_neg hi]
set_option maxRecDepth 100000 in
set_option maxHeartbeats 4000000 in
theorem back_mk (n0 : Int) (hb0 : 0 ≤ n0) (hb1 : n0 ≤ 100) (k : Int) (v : V) (c : Int) (A : Option Addr) (m cap : Nat) (kid : Nat → E) (ih : ∀ i, BackC n0 (kid i)) : BackC n0 (.mk k v c A m cap kid) := by
  intro S w hw hE hcol
  have HE := Lib.hid hE
  have HW := Lib.hid hw
  have HCol := Lib.hid hcol
  have hm3 : m ≤ 3 := hw.1
  obtain ⟨hci, hck⟩ : inI64 c ∧ ∀ i, i < m → ∃ g o, A = some ⟨g, o, none⟩ ∧ ECells w g (o + i * 6) (kid i) := by
    cases hE.ex with
    | mk hn hc hk hv hi => exact ⟨hi.2, hc⟩
  have hW2 := hw.2.1
  have hcc2 : k = 2 → n0 ≤ c := fun h => by
    have := hcol
    rw [colsAll_mk, if_pos h, Bool.and_eq_true] at this
    exact of_decide_eq_true this.1
  have HCK := Lib.hid hck
  have IH := Lib.hid ih
  unfold E.val
  simp only [E.kind, E.v, E.col, E.A, E.n, E.cap]
  obtain ⟨c', hcc⟩ : ∃ c' : Int, c' = if k = 2 then c + -n0 else c := ⟨_, rfl⟩
  have hwp : k = 2 → IntKind.i64.wrap (c - n0) = c' := fun h => by
    have := hcc2 h
    have := hW2 h
    rw [hcc, if_pos h, IntKind.wrap_i64]; omega
  have hwp2 : ¬ k = 2 → c = c' := fun h => by rw [hcc, if_neg h]
  have hci' : inI64 c' := by
    by_cases h : k = 2
    · have := hcc2 h
      have := hW2 h
      rw [hcc, if_pos h]; constructor <;> omega
    · rw [hcc, if_neg h]; exact hci
  have HCC := Lib.hid (And.intro hcc hci')
  clear hw hE hcol hck ih hci hW2 hcc2 hcc hci'
  go_enter Try.func104, Try.ntmps104
  go_upto_region 1 with fail
  refine wp_forget (fun X => Blk X w.heap.size 27 #[.int .i64 k, .int .i64 v.k, .int .i64 v.n, .string v.s, .int .i64 c, .slice A m cap] ∧ Blk X (w.heap.size + 1) 27 #[.int .i64 0, .int .i64 0, .int .i64 0, .string ⟨#[]⟩, .int .i64 0, .slice none 0 0] ∧ Grow w X ∧ X.heap.size = w.heap.size + 2) ⟨(Blk.new _ _ _).al _, Blk.new' _ _ _ (by simp), (by repeat (first | (with_reducible exact Grow.refl _) | (with_reducible assumption) | (with_reducible refine Grow.set ?_ (by first | (simp; done) | (simp; omega)) _) | (with_reducible refine Grow.al ?_ _) | (with_reducible refine Grow.drew ?_) | (with_reducible refine Grow.drewN ?_ _) | (with_reducible refine Grow.trans ?_ (by assumption)))), by simp⟩ ?_
  rintro X ⟨Bx, Br, G, hsz⟩
  obtain ⟨gx, hgx⟩ : ∃ gx, w.heap.size = gx := ⟨_, rfl⟩
  rw [hgx] at Bx Br hsz ⊢
  have lx := Bx.lt
  have lr := Br.lt
  obtain ⟨bx, fx⟩ := Bx.rules
  have HX := Lib.hid (And.intro hgx hsz)
  have BX := Lib.hid Bx
  have BR := Lib.hid Br
  clear hgx Bx Br
  go_upto_region 2 with fail
  refine wp_forget (fun Y => Blk Y (gx + 2) 27 #[.int .i64 k, .int .i64 v.k, .int .i64 v.n, .string v.s, .int .i64 c, .slice none 0 0] ∧ Grow X Y) ⟨by have h := Blk.new X 27 #[.int .i64 k, .int .i64 v.k, .int .i64 v.n, .string v.s, .int .i64 c, .slice none 0 0]; rw [hsz] at h; exact h, (Grow.refl X).al _⟩ ?_
  rintro Y ⟨BO, GY⟩
  clear bx fx lx lr hsz
  have BX2 := BX.out.grow GY
  have BR2 := BR.out.grow GY
  obtain ⟨bx, fx⟩ := BX2.rules
  have lx := BX2.lt
  have HWW := Lib.hid (And.intro hwp hwp2)
  clear hwp hwp2
  go_cut [17] (fun s wx => s = .bool (k == 2) ∧ wx = Y)
  case first =>
    go_wp2
    go_meet
    exact ⟨rfl, rfl⟩
  obtain ⟨rfl, rfl⟩ := hcut
  rename World => Y
  apply_assumption
  go_cut [] (fun wx => Blk wx (gx + 2) 27 #[.int .i64 k, .int .i64 v.k, .int .i64 v.n, .string v.s, .int .i64 c', .slice none 0 0] ∧ Blk wx gx 27 #[.int .i64 k, .int .i64 v.k, .int .i64 v.n, .string v.s, .int .i64 c, .slice A m cap] ∧ Blk wx (gx + 1) 27 #[.int .i64 0, .int .i64 0, .int .i64 0, .string ⟨#[]⟩, .int .i64 0, .slice none 0 0] ∧ Grow w wx)
  case first =>
    obtain ⟨bo, fo⟩ := BO.rules
    have lo := BO.lt
    have hgx := HX.out.1
    by_cases hk : k = 2
    · have dk : (k == 2) = true := by simpa using hk
      have wp := HWW.out.1 hk
      have B2 := Lib.hid (BO.set 4 (.int .i64 c'))
      have X2 := Lib.hid (Blk.other BX2 (show gx + 2 ≠ gx by omega) 4 (.int .i64 c'))
      have R2 := Lib.hid (Blk.other BR2 (show gx + 2 ≠ gx + 1 by omega) 4 (.int .i64 c'))
      have G2 := Lib.hid (Grow.set (G.trans GY) (show w.heap.size ≤ (⟨gx + 2, 4, none⟩ : Addr).block by show w.heap.size ≤ gx + 2; omega) (.int .i64 c'))
      clear hk BX2 BR2 BO hgx hm3
      go_wp2
      go_meet
      exact ⟨by have h := B2.out; simpa only [List.setIfInBounds_toArray, List.set_cons_zero, List.set_cons_succ] using h, X2.out, R2.out, G2.out⟩
    · have dk : (k == 2) = false := by simpa using hk
      have e := HWW.out.2 hk
      have F2 := Lib.hid (And.intro BO (And.intro BX2 BR2))
      clear hk BX2 BR2 BO hgx hm3
      go_wp2
      go_meet
      exact ⟨by rw [← e]; exact F2.out.1, F2.out.2.1, F2.out.2.2, G.trans GY⟩
  case rest =>
    obtain ⟨BO1, BX1, BR1, G1⟩ := hcut
    rename World => Z
    clear BO BX BR BX2 BR2 bx fx lx
    have hgx := HX.out.1
    have G1s := G1.size
    obtain ⟨bx, fx⟩ := BX1.rules
    have lx := BX1.lt
    have HB := Lib.hid (And.intro BO1 BR1)
    have lo1 := BO1.lt
    have L1 := Lib.hid lo1
    clear BO1 BX1 BR1 hgx G1s lo1
    go_wp2
    clear bx fx lx
    go_loopw [26] (fun i wr => ∃ (j : Nat) (F : Nat → E) (B : Option Addr) (cp : Nat), j ≤ m ∧ i = .int .i64 j ∧ Blk wr (gx + 2) 27 #[.int .i64 k, .int .i64 v.k, .int .i64 v.n, .string v.s, .int .i64 c', .slice B j cp] ∧ Blk wr (gx + 1) 27 #[.int .i64 0, .int .i64 0, .int .i64 0, .string ⟨#[]⟩, .int .i64 0, .slice none 0 0] ∧ BkE S gx (gx + 2) wr (.slice B j cp) j (movE (-n0)) kid F ∧ Grow w wr) (fun i _ => m - (intOf i).toNat)
    case atStart => exact ⟨0, kid, none, 0, Nat.zero_le _, rfl, HB.out.1, HB.out.2, BkE.nil, G1⟩
    case round =>
      clear HB
      obtain ⟨j, F, B, cp, hj, rfl, Bo, Br, bk, Gr⟩ := hrel
      have BO := Lib.hid Bo
      have BR := Lib.hid Br
      have BK := Lib.hid bk
      by_cases hlt : j < m
      · obtain ⟨gk, ok, hA, hcj⟩ := HCK.out j hlt
        subst hA
        obtain ⟨c0, c1, c2, c3, c4, c5⟩ := hcj.grow Gr
        clear bk Bo Br hcj
        go_upto_region 7 with fail
        refine wp_forget (fun Z => Blk Z wr.heap.size 27 #[.int .i64 (kid j).kind, .int .i64 (kid j).v.k, .int .i64 (kid j).v.n, .string (kid j).v.s, .int .i64 (kid j).col, .slice (kid j).A (kid j).n (kid j).cap] ∧ Grow wr Z) ⟨Blk.new _ _ _, (Grow.refl wr).al _⟩ ?_
        rintro Z ⟨BZ, gZ⟩
        have BZ' := Lib.hid BZ
        have tt : ∀ W, Grow Z W → ∀ q, Snew (fun q => S q ∧ q < w.heap.size) W.heap.size q → Tk S gx (gx + 2) (.slice B j cp) q := fun W h q hq => by
          have h1 := HX.out.1
          have h2 := BO.out.lt
          have h3 := gZ.size
          have h4 := h.size
          rcases hq with hq | hq
          · exact .inl ⟨hq.1, by omega⟩
          · exact .inr ⟨by omega, fun e => by have := (own_lt BK.out.own e).2; omega⟩
        have cj := fun W (h : Grow Z W) => (IH.out j (fun q => S q ∧ q < w.heap.size) W (HW.out.2.2 j hlt) (((HE.out.kid hlt).mono (T := fun q => S q ∧ q < w.heap.size) (fun q hq hs => ⟨hs, hq⟩)).grow (Gr.trans (gZ.trans h))) (colsAll_kid HCol.out hlt)).mono (fun en w' ⟨r, h1, h2, h3, h4⟩ => (⟨r, h1, h2.mono (fun q _ hq => tt W h q hq), h3, h4⟩ : ∃ r : E, en = Ending.returned (eV r) ∧ EXs (Tk S gx (gx + 2) (.slice B j cp)) w' r ∧ nE r = movE (-n0) (kid j) ∧ Grow W w'))
        unfold E.val at cj
        have CJ := Lib.hid cj
        clear c0 c1 c2 c3 c4 c5 BZ cj tt
        generalize wr.heap.size = gz at *
        apply wp_region_calm 6 (by kernel_rfl) (by kernel_rfl)
        case h' =>
          intro Q0 hQ0
          simp only [List.take_succ_cons, List.take_zero]
          repeat (
            first
              | (apply calm_p rfl; case h1 => (intro w1 hw1 hF K hK; obtain ⟨bo, fo⟩ := ((BO.out.grow gZ).grow hw1).rules; obtain ⟨bz, fz⟩ := (BZ'.out.grow hw1).rules; go_simp; first | exact hK _ (Grow.refl _) | fail))
              | (apply calm_y rfl rfl rfl; case h1 => (intro w1 hw1 hF K hK; obtain ⟨bo, fo⟩ := ((BO.out.grow gZ).grow hw1).rules; obtain ⟨bz, fz⟩ := (BZ'.out.grow hw1).rules; go_simp; first | exact hK _ (Grow.refl _) | fail))
              | apply calm_n rfl rfl rfl rfl
            intro K hK
            go_simp
            apply hK
            clear hK K)
          apply calm_fp (VE (Tk S gx (gx + 2) (.slice B j cp)) (movE (-n0) (kid j))) rfl
          case h1 =>
            intro w1 hw1 hF K hK
            go_simp
            go_at_call 104
            refine (CJ.out w1 hw1).mono ?_
            rintro en w' ⟨r, rfl, hr, hn, hg'⟩
            exact ⟨_, rfl, hK _ _ hg' ⟨r, rfl, hr, hn⟩⟩
          intro v34 K hK
          go_simp
          apply hK
          clear hK K
          apply calm_fp (VS1 (Tk S gx (gx + 2) (.slice B j cp)) Z.heap.size (movE (-n0) (kid j))) rfl
          case h1 =>
            intro w1 hw1 hF K hK
            obtain ⟨r, hv, hr, hn⟩ := hF _ (List.mem_cons_self ..) ⟨_, rfl, by decide⟩
            subst hv
            go_simp
            exact hK _ _ ((Grow.refl _).al _) ⟨w1.heap.size, r, rfl, hw1.size, Blk.new _ _ _, hr.grow ((Grow.refl _).al _), hn⟩
          intro v35 K hK
          go_simp
          apply hK
          clear hK K
          refine calm_nil ?_
          intro w1 hw1 hF
          apply hQ0
          clear hQ0
          simp only [List.drop_succ_cons, List.drop_zero]
          obtain ⟨g1, r, hv, hg1, hB1, hr, hn⟩ := hF _ (List.mem_cons_self ..)
          subst hv
          clear hF
          have bk1 := (BK.out.grow gZ).grow hw1
          have bo1 := (BO.out.grow gZ).grow hw1
          have br1 := (BR.out.grow gZ).grow hw1
          have lb := bo1.lt
          have HR := Lib.hid (And.intro hr hn)
          have BK1 := Lib.hid bk1
          have BO1 := Lib.hid bo1
          have BR1 := Lib.hid br1
          have hc1 : ∀ q u, r.cells[q]? = some u → w1.cell? ((⟨g1, 0, none⟩ : Addr).add q) = some u := fun q u hq => by
            rw [addr_add, hB1.cell, Nat.zero_add, ← Array.getElem?_toList]
            exact hq
          have HC1 := Lib.hid hc1
          clear hr hn bk1 bo1 br1 hc1 hB1
          refine wpList_append_new elT_expr rfl _ _ rfl (gx + 2 + 1) _ j _ rfl BK1.out.own ⟨g1, 0, none⟩ 1 1 r.cells rfl rfl HC1.out (E.ones r) (by unfold maxLen; omega) (by omega) (by omega) ?_
          intro v' w' own' gr' at'
          obtain ⟨B', cp', rfl⟩ := own_sl own'
          have bo2 : Blk w' (gx + 2) 27 _ := (gr'.block (gx + 2) lb (fun e => by have := (own_lt BK1.out.own e.symm).1; omega)).trans BO1.out
          have br2 : Blk w' (gx + 1) 27 _ := (gr'.block (gx + 1) (by omega) (fun e => by have := (own_lt BK1.out.own e.symm).1; omega)).trans BR1.out
          have BK2 := Lib.hid (BK1.out.app (by omega) HR.out.1 HR.out.2 own' gr' at')
          have G2 := Lib.hid (Grow.own ((Gr.trans gZ).trans hw1) gr' (fun q hq => by have := (own_lt BK1.out.own hq).1; have := HX.out.1; omega))
          have BO2 := Lib.hid bo2
          have BR2 := Lib.hid br2
          obtain ⟨bo, fo⟩ := bo2.rules
          have lo := bo2.lt
          clear own' gr' at' bo2 br2
          go_wp2
          go_roundw
          case rel => exact ⟨j + 1, _, B', cp', by omega, by go_num, by have h := BO2.out.set 5 (.slice B' (j + 1) cp'); simpa only [List.setIfInBounds_toArray, List.set_cons_zero, List.set_cons_succ] using h, Blk.other BR2.out (by omega) 5 _, BK2.out.set (by omega) (by omega) (by omega) 5 _, Grow.set G2.out (by have := HX.out.1; show w.heap.size ≤ gx + 2; omega) _⟩
          case measure => simp [intOf]; omega
        case hp' => exact ⟨VE.pers _ _, VS1.pers _ _ _, trivial⟩
      · obtain rfl : j = m := by omega
        have fin := BkE.fin (n0 := n0) (k := k) (v := v) (c := c) (c' := c') (cap0 := cap) (A := A) (by rw [HX.out.1]; exact bk) (by have := HX.out.1; omega) HE.out HCC.out.2 HCC.out.1
        rw [HX.out.1] at fin
        have Fin := Lib.hid fin
        clear fin bk
        obtain ⟨bo, fo⟩ := Bo.rules
        obtain ⟨br, fr⟩ := Br.rules
        have lo := Bo.lt
        have lr := Br.lt
        clear Bo Br hlt
        go_wp2
        have B3 := (((((BR.out.set 0 (.int .i64 k)).set 1 (.int .i64 v.k)).set 2 (.int .i64 v.n)).set 3 (.string v.s)).set 4 (.int .i64 c')).set 5 (.slice B j cp)
        simp only [List.setIfInBounds_toArray, List.set_cons_zero, List.set_cons_succ] at B3
        obtain ⟨b3, f3⟩ := B3.rules
        have G3 := st6_grow (g := gx + 1) Gr (by have := HX.out.1; omega) 0 (.mk k v c' B j cp F)
        refine bodyPost_ret (v := (E.mk k v c' B j cp F).val) (by simp [results, Try.results104, go_sem, b3, E.val, E.kind, E.v, E.col, E.A, E.n, E.cap]) rfl ⟨E.mk k v c' B j cp F, rfl, ?_, Fin.out.2, G3⟩
        have h1 := Fin.out.1.move (w' := st6 wr (gx + 1) 0 (.mk k v c' B j cp F)) (fun q hq _ => st6_heap wr (gx + 1) 0 _ (by rcases hq with h | h <;> omega)) (by rw [st6_size]; exact Nat.le_refl _)
        exact h1.mono (fun q _ hq => by have := HX.out.1; rcases hq with h | h; exact .inl h.1; exact .inr (by omega))
theorem back_any (n0 : Int) (hb0 : 0 ≤ n0) (hb1 : n0 ≤ 100) (e : E) : BackC n0 e := by
  induction e with
  | leaf => intro S w hw; exact absurd hw id
  | mk k v c A m cap kid ih => exact back_mk n0 hb0 hb1 k v c A m cap kid ih
end Go.Proofs.Ytpgpecdiajmgmaa

namespace Go.Proofs.Ytpgpecdiajmgmaa
open Go.RowKit Go.Calm
set_option linter.unusedSimpArgs false
set_option linter.unusedVariables false

theorem calm_append {P : Program} {o : Oper} {a : Act} {w : World} {R : Value → World → Prop} (s x : Operand) (t : TypeId) (ho : o.op = .call { callee := .builtin .append, args := #[s, x], argTypes := #[t, t] }) (ty : TypeId) (hty : o.type = ty) (v v2 : Value) (hs : a.eval s = v) (hx : a.eval x = v2) (v' : Value) (w' : World) (hr : (Builtin.append_ #[t, t] ty #[v, v2]).run P w = .ok v' w') (hR : R v' w') : calmOp P o a w R := by
  subst hty
  unfold calmOp execOp
  simp only [ho, resolve, invoke, builtin, Sem.run_bind, Sem.run_pure, Result.andThen_ok, List.map_toArray, List.map_cons, List.map_nil, hs, hx, hr, calmUpon]
  exact hR
def RowQ (w : World) (lo : Nat) (B : Option Addr) (m : Nat) (F : Nat → PL) : Prop := 0 < m → ∃ g cur, B = some ⟨g, 0, none⟩ ∧ lo ≤ g ∧ Blk w g 31 cur ∧ m * 11 ≤ cur.size ∧ ∀ i, i < m → PCells w g (i * 11) (F i)
theorem RowQ.grow {w w' : World} {lo m : Nat} {B : Option Addr} {F : Nat → PL} (h : RowQ w lo B m F) (hg : Grow w w') : RowQ w' lo B m F := fun hm => by
  obtain ⟨g, cur, a, b, c, d, e⟩ := h hm
  exact ⟨g, cur, a, b, c.grow hg, d, fun i hi => (e i hi).grow hg⟩
theorem rowQ_of {w : World} {lo m : Nat} {B : Option Addr} {F : Nat → PL} (h : RowP w lo B m F) : RowQ w lo B m F := fun hm => by
  rcases h with ⟨h0, _⟩ | h
  · omega
  · exact h
theorem run_fresh (ty : TypeId) {w : World} {lo m cap : Nat} {A : Option Addr} {kid : Nat → PL} {g : Nat} (hm : m ≤ 10) (hv : ∀ i, i < m → ∃ g o, A = some ⟨g, o, none⟩ ∧ PCells w g (o + i * 11) (kid i)) (hB : Blk w g 31 #[]) (hg : lo ≤ g) :
    ∃ (B : Option Addr) (cap' : Nat) (w' : World), (Builtin.append_ #[29, 29] ty #[.slice (some ⟨g, 0, none⟩) 0 0, .slice A m cap]).run Try.prog w = .ok (.slice B m cap') w' ∧ RowQ w' lo B m kid ∧ Grow w w' := by
  have own : w.ownsRow lo 31 11 (.slice (some ⟨g, 0, none⟩) 0 0) 0 [] := ⟨rfl, .inr ⟨g, 0, #[], rfl, hg, hB, Nat.le_refl _, by unfold maxLen; omega, rfl, rfl⟩⟩
  obtain ⟨ti, hti, hz0, hz1, hz2⟩ := elT_plan.hi
  obtain ⟨hl, h1, h2⟩ := srcG_of (w := w) (sz := 11) (A := A) (m := m) (c := cap) (cells := fun i => (kid i).cells) (fun i => PL.cells_len (kid i)) (by decide) (fun i => PL.ones (kid i)) (fun i hi => by
    obtain ⟨g, o, e, hc⟩ := hv i hi
    exact ⟨g, o, e, fun k u hk => hc.at k u hk⟩)
  have lg := hB.lt
  rcases h2 with ⟨c, e, rfl⟩ | ⟨ad, c, e, hc⟩
  · rw [e]
    exact ⟨_, _, _, run_append_none_c (P := Try.prog) (w := w) lo 29 ty 31 ti 11 elT_plan.hu hti _ 0 [] own c, fun h => absurd h (Nat.lt_irrefl _), Grow.refl _⟩
  · rw [e]
    by_cases h0 : m = 0
    · subst h0
      have hr := run_append_room (P := Try.prog) w 29 ty 31 ti elT_plan.hu hti g 0 0 #[] hB ad 0 c [] (by simp) (fun j u h => by simp at h) (fun u h => by simp at h) (Nat.le_refl _) (by simp)
      obtain ⟨v', w', hr', own', gr, _, hat⟩ := run_append_own_at (P := Try.prog) w lo 29 ty 31 ti _ 11 160 elT_plan.hu hti hz0 hz1 hz2 elT_plan.hz elT_plan.hp _ 0 [] own ad 0 c [] (by simp) (fun j u h => by simp at h) (fun u h => by simp at h) (by unfold maxLen; omega) (by omega) (by omega)
      have e2 := hr'.symm.trans hr
      simp only [Result.ok.injEq] at e2
      obtain ⟨rfl, rfl⟩ := e2
      refine ⟨_, _, _, hr, fun h => absurd h (Nat.lt_irrefl _), ⟨⟨gr.os, gr.tape, gr.output, gr.size, fun i hi => ?_⟩⟩⟩
      by_cases hig : i = g
      · subst hig
        have h3 := setRow_heap w i #[] (#[].toList.take 0 ++ [] ++ #[].toList.drop 0).toArray 31 _ hB
        have hB' : w.heap[i]? = _ := hB
        rw [hB']
        simpa using h3
      · exact gr.block i hi (by simp [Value.ownBlock]; exact hig)
    · have hr := run_append_grow (P := Try.prog) w 29 ty 31 ti _ elT_plan.hu hti hz0 ⟨g, 0, none⟩ 0 0 [] (by simp) (fun j u h => by simp at h) ad m c (flatG (fun i => (kid i).cells) m) (by rw [hz1]; exact hl) hc (by omega) (by omega) (growslice_fits (by omega) (by rw [hz2]; omega))
      obtain ⟨v', w', hr', own', gr, _, hat⟩ := run_append_own_at (P := Try.prog) w lo 29 ty 31 ti _ 11 160 elT_plan.hu hti hz0 hz1 hz2 elT_plan.hz elT_plan.hp _ 0 [] own ad m c (flatG (fun i => (kid i).cells) m) hl hc h1 (by unfold maxLen; omega) (by omega) (by omega)
      have e2 := hr'.symm.trans hr
      simp only [Result.ok.injEq] at e2
      obtain ⟨rfl, rfl⟩ := e2
      simp only [Nat.zero_add, List.nil_append] at own' hr
      exact ⟨_, _, _, hr, rowQ_of (own_rowP own'), Grow.al (Grow.drew (Grow.refl w)) _⟩
def DE0 (lo : Nat) (v : Value) (W : World) : Prop := ∃ g, v = .slice (some ⟨g, 0, none⟩) 0 0 ∧ lo ≤ g ∧ Blk W g 31 #[]
def DRow (lo m : Nat) (kid : Nat → PL) (v : Value) (W : World) : Prop := ∃ (B : Option Addr) (cap' : Nat), v = .slice B m cap' ∧ RowQ W lo B m kid
def DOut (k n : Int) (y : E) (xs : XsS) (ag : AgS) (lo m : Nat) (kid : Nat → PL) (v : Value) (W : World) : Prop := ∃ (B : Option Addr) (cap' : Nat), v = .agg #[.int .i64 k, .int .i64 n, .int .i64 y.kind, .int .i64 y.v.k, .int .i64 y.v.n, .string y.v.s, .int .i64 y.col, .slice y.A y.n y.cap, .slice xs.A xs.l.length xs.c, .slice ag.A ag.l.length ag.c, .slice B m cap'] ∧ RowQ W lo B m kid
abbrev z11 : Array Value := #[.int .i64 0, .int .i64 0, .int .i64 0, .int .i64 0, .int .i64 0, .string ⟨#[]⟩, .int .i64 0, .slice none 0 0, .slice none 0 0, .slice none 0 0, .slice none 0 0]
def DZ (lo : Nat) (v : Value) (W : World) : Prop := ∃ g, v = .pointer (some ⟨g, 0, none⟩) ∧ lo ≤ g ∧ Blk W g 31 z11
theorem DE0.pers (lo : Nat) : Pers (DE0 lo) := fun v w w' hg ⟨g, a, b, c⟩ => ⟨g, a, b, c.grow hg⟩
theorem DRow.pers (lo m : Nat) (kid : Nat → PL) : Pers (DRow lo m kid) := fun v w w' hg ⟨B, c, a, b⟩ => ⟨B, c, a, b.grow hg⟩
theorem DOut.pers (k n : Int) (y : E) (xs : XsS) (ag : AgS) (lo m : Nat) (kid : Nat → PL) : Pers (DOut k n y xs ag lo m kid) := fun v w w' hg ⟨B, c, a, b⟩ => ⟨B, c, a, b.grow hg⟩
theorem DZ.pers (lo : Nat) : Pers (DZ lo) := fun v w w' hg ⟨g, a, b, c⟩ => ⟨g, a, b, c.grow hg⟩
theorem wfP_k0 {p : PL} (h : WfP p) : p.k ≠ 0 := by
  cases p with
  | leaf => exact absurd h id
  | mk k n x xs ag A m cap kid =>
    have h1 : 0 ≤ kidsP k := h.2.1
    intro h0
    have h2 : k = 0 := h0
    subst h2
    exact absurd h1 (by decide)
theorem RowQ.st {w : World} {lo m : Nat} {B : Option Addr} {F : Nat → PL} (h : RowQ w lo B m F) (hw : ∀ i, i < m → WfP (F i)) {go : Nat} (hz : Blk w go 31 z11) (r : PL) : RowQ (st11 w go r) lo B m F := fun hm => by
  obtain ⟨g, cur, a, b, c, d, e⟩ := h hm
  have hne : g ≠ go := fun h => by
    subst h
    have h1 := (e 0 hm).c0
    rw [hz.cell] at h1
    simp at h1
    exact wfP_k0 (hw 0 hm) h1.symm
  have hh : (st11 w go r).heap[g]? = w.heap[g]? := st11_heap w go r hne
  refine ⟨g, cur, a, b, ?_, d, fun i hi => (e i hi).agr (S := fun q => q = g) (fun q hq _ => by subst hq; exact hh) rfl⟩
  unfold Blk at c ⊢
  rw [hh]; exact c
theorem RowQ.ne {w : World} {lo m : Nat} {B : Option Addr} {F : Nat → PL} (h : RowQ w lo B m F) (hw : ∀ i, i < m → WfP (F i)) {go : Nat} (hz : Blk w go 31 z11) : ∀ g, B = some ⟨g, 0, none⟩ → 0 < m → g ≠ go := fun g' hb hm => by
  obtain ⟨g, cur, a, b, c, d, e⟩ := h hm
  rw [a] at hb
  cases hb
  intro h
  subst h
  have h1 := (e 0 hm).c0
  rw [hz.cell] at h1
  simp at h1
  exact wfP_k0 (hw 0 hm) h1.symm
theorem pxs_row {T : Nat → Prop} {V : World} {k n : Int} {y : E} {xs : XsS} {ag : AgS} {B : Option Addr} {m cap' lo : Nat} {F : Nat → PL} (hB : RowQ V lo B m F) (hT : ∀ g, lo ≤ g → T g) (hn : NXs T V k n y xs ag) (hk : ∀ i, i < m → PXs T V (F i)) (hm : m ≤ 10) : PXs T V (.mk k n y xs ag B m cap' F) := fun W a => by
  have nx := hn W a
  refine .mk (by show m ≤ 140737488355328; omega) (fun i hi => ?_) (fun i hi => hk i hi W a) nx.hx nx.hs nx.ha nx.hl nx.hi
  obtain ⟨g, cur, rfl, b, c, d, e⟩ := hB (by omega)
  exact ⟨g, 0, rfl, by rw [Nat.zero_add]; exact (e i hi).agr a (hT g b)⟩
theorem RowQ.put {w : World} {lo m gB : Nat} {F : Nat → PL} (h : RowQ w lo (some ⟨gB, 0, none⟩) m F) {j : Nat} (hj : j < m) (r : PL) : RowQ (st11o w gB (j * 11) r) lo (some ⟨gB, 0, none⟩) m (fun i => if i = j then r else F i) := fun hm => by
  obtain ⟨g, cur, a, b, hb, d, hc⟩ := h hm
  cases a
  obtain ⟨c', hb', hs, hec, ho⟩ := st11o_blk (r := r) (o := j * 11) hb (by omega)
  refine ⟨gB, c', rfl, b, hb', by omega, fun i hi => ?_⟩
  by_cases hij : i = j
  · subst hij; simp only [if_pos]; exact hec
  · simp only [if_neg hij]
    have hc := hc i hi
    have tr : ∀ k u, k < 11 → w.cell? ⟨gB, i * 11 + k, none⟩ = some u → (st11o w gB (j * 11) r).cell? ⟨gB, i * 11 + k, none⟩ = some u := fun k u hk hu => by
      rw [hb.cell] at hu
      rw [hb'.cell, ho _ (by omega)]; exact hu
    exact ⟨tr 0 _ (by omega) hc.c0, tr 1 _ (by omega) hc.c1, tr 2 _ (by omega) hc.c2, tr 3 _ (by omega) hc.c3, tr 4 _ (by omega) hc.c4, tr 5 _ (by omega) hc.c5, tr 6 _ (by omega) hc.c6, tr 7 _ (by omega) hc.c7, tr 8 _ (by omega) hc.c8, tr 9 _ (by omega) hc.c9, tr 10 _ (by omega) hc.c10⟩
theorem st11_far {w : World} {g q : Nat} {t : TypeId} {cs : Array Value} (r : PL) (hne : q ≠ g) (h : Blk w g t cs) : Blk (st11 w q r) g t cs := by
  unfold Blk at h ⊢
  rw [st11_heap w q r (Ne.symm hne)]
  exact h
def SinkC (ts : List (L2 Int)) (At : Option Addr) (nt : Nat) (p : PL) : Prop := ∀ (S : Nat → Prop) (x : E) (w : World), TbS w ts At → WfP p → WfE x → PXs S w p → EXs S w x →
  Calls Try.prog 57 #[.slice At ts.length nt, x.val, p.val] w fun en w' => RP S (pushP (tabs ts) (nP p) (nE x)) w w' en
def SinkN (ts : List (L2 Int)) (At : Option Addr) (nt : Nat) (p : PL) : Prop := ∀ (S : Nat → Prop) (x : E) (w : World), TbS w ts At → WfP p → WfE x → PXs S w p → EXs S w x → litT x = false →
  Calls Try.prog 57 #[.slice At ts.length nt, x.val, p.val] w fun en w' => RP S (pushP (tabs ts) (nP p) (nE x)) w w' en
end Go.Proofs.Ytpgpecdiajmgmaa
