/- Parts of a proof. No condition. -/
import Derived.Test.YtphaeahdmfapgaaGreatGY
import Derived.Test.YtphaeahdmfapgaaGreatGX
import Derived.Test.YtphaeahdmfapgaaGreatGVc
import Derived.Deep.RegionLaw
set_option maxRecDepth 100000
set_option maxHeartbeats 8000000
set_option linter.unusedSimpArgs false
set_option linter.unusedVariables false
namespace Go.Proofs.YtphaeahdmfapgaaGreat
open Go.RowKit Go.Calm
def Ga (row : List V) (A : Option Addr) (cr : Nat) (e : E) : Prop := ∀ (w0 w : World), EX w0 e -> yS w0 A row -> za w0 w ->
 Calls Tryz.prog 142 #[e.val, .slice A row.length cr] w fun en w' => en = .returned (yd row e).val /\ za w w'
theorem LB (cols : List Int) (row : List V) (A : Option Addr) (cr : Nat) (hlen : row.length <= 9223372036854775807) (hf : ja cols row) (e : E) : ∀ {T : Int}, wt cols e T -> Ga row A cr e := by
 induction e with
 | leaf => intro T h; exact h.elim
 | mk k v c Ak n cap kid ih =>
  intro T h w0 w hE hrow hg; have hre := Yc _ h; have hrv := hf.rv; have hty := fun (i : Nat) (t : Int) (h : wt cols (kid i) t) => FQ hf (kid i) h
  have hRE : ∀ i, i < n -> RE row.length (kid i) := fun i hi => by
   rw [hf.1]; cases hre with
   | mk h0 hn hv hc hk => exact hk i hi
  simp only [wt] at h; obtain ⟨h0, hn, ts, hl, hw, ht⟩ := h; have e0 : yd row (.mk k v c Ak n cap kid) = if k = 1 then bare v else if k = 2 then bare (row.getD c.toNat zR) else QP k (yd row (kid 0)) (yd row (kid 1)) (yd row (kid 2)) := rfl
  rw [e0]; clear e0; have rv : ∀ i, i < n -> RV (yd row (kid i)) := fun i hi => XW row hrv _ (hRE i hi)
  by_cases hk1 : k = 1
  ·rw [if_pos hk1]
   have hv : RV v := by
    unfold BF at ht; rw [if_pos hk1] at ht; exact (RV.of v).1 ht.1
   exact Dg _ k v c Ak n cap kid w hk1 hv
  ·rw [if_neg hk1]
   by_cases hk2 : k = 2
   ·rw [if_pos hk2]; unfold BF at ht; rw [if_neg hk1, if_pos hk2] at ht; obtain ⟨c0, c1, _⟩ := ht; have hlt : c.toNat < row.length := by have := hf.1; omega
    rw [List.getD_eq_getElem?_getD, qQ_ hlt]; exact Df row A cr hlen k v c Ak n cap kid w (hrow.grow hg) hk2 c.toNat u4_ _ (qQ_ hlt) (hrv _ (List.getElem_mem hlt))
   ·rw [if_neg hk2]; have hz : zl k ≠ 0 := fun hz => by rcases kI hz with h8 | h8 <;> contradiction
    have hk : ∀ i, i < n -> EX w0 (kid i) := fun i hi => by
     cases hE with
     | mk hn' hc hk hv hi' => exact hk i hi
    refine Vv row A cr k v c Ak n cap kid w0 w hE hg u4_ hn (yd row (kid 0)) (yd row (kid 1)) (yd row (kid 2)) (rv 0 u4_) (fun h2 => rv 1 u4_) (fun W hW => ?_) (fun h2 W hW => ?_) (fun h3 W hW => ?_) (fun h6 ha hb => ?_) _ rfl
    ·exact ih 0 (hw 0 u4_) w0 W (hk 0 u4_) hrow hW
    ·exact ih 1 (hw 1 u4_) w0 W (hk 1 u4_) hrow hW
    ·exact ih 2 (hw 2 u4_) w0 W (hk 2 u4_) hrow hW
    ·have hn2 : n = 2 := by have := MQ h6; omega
     subst hn2; have a0 := hty 0 _ (hw 0 u4_); have b0 := hty 1 _ (hw 1 u4_)
     match ts, hl with
     | [t, u], _ =>
      rw [Nt u4_ u4_, MT h6] at ht; simp only [List.getD_cons_zero, List.getD_cons_succ] at a0 b0; cases h1 : yk t u
      ·rw [h1] at ht; simp at ht
      ·simp only [yk, Bool.or_eq_true, decide_eq_true_eq] at h1; omega
theorem qC (cols : List Int) (Ac : Option Addr) (cc : Nat) (xs : List I) (A : Option Addr) (c : Nat) (w : World) (hlen : cols.length <= 9223372036854775807) (hc : yD w Ac cols) (h : In w ⟨A, xs, c⟩) :
  Calls Tryz.prog 31 #[.slice Ac cols.length cc, .slice A xs.length c] w fun en w' => en = .returned (.int .i64 (zO cols (xs.map zg))) /\ za w w' := by
 have hza : xc w A xs := h.z; have l1 : xs.length <= 9223372036854775807 := h.ok.1; have l2 : ∀ x ∈ xs, x.row.length <= 9223372036854775807 := h.ok.2; have Hz := hh_ hza; have Hc := hh_ hc; have L2 := hh_ l2; obtain ⟨R, hR⟩ : ∃ R, zO cols (xs.map zg) = R := ⟨_, rfl⟩
 rw [hR]; have HR := hh_ hR; obtain ⟨E, hE⟩ : ∃ E, zD (xs.map zg) = E := ⟨_, rfl⟩
 have cw := fun W (h : za w W) => jl xs A c W l1 (Hz.out.grow h) L2.out E hE
 have HE := hh_ hE; clear h hza l2 hc hR hE; go_enter Tryz.func31, Tryz.ntmps31
 by_cases h8 : 8 < cols.length
 ·exact xJ_
 ·have d8 : decide ((8 : Int) < (cols.length : Int)) = false := decide_eq_false u4_
  by_cases h0 : E = 0
  ·subst h0; have inv0 : XJ cols ((xs.drop 0).map zg) = R := by rw [<- HR.out]; unfold zO; rw [if_neg h8, HE.out, if_neg u5_, List.drop_zero]
   have Inv0 := hh_ inv0; clear inv0; go_upto_region 6 with (go_at_call 54; ((with_reducible refine (cw _ (za.refl _)).mono ?_); rintro e w2 ⟨rfl, hg2⟩)); go_wp2
   go_loopw [18] (fun i wr => ∃ k : Nat, k <= xs.length /\ i = .int .i64 k /\ XJ cols ((xs.drop k).map zg) = R /\ za w wr) (fun i _ => xs.length - (intOf i).toNat)
   case atStart => exact ⟨0, Nat.zero_le _, rfl, Inv0.out, hg2⟩
   case round =>
    rename World => wr
    obtain ⟨k, hk, rfl, hinv, hg⟩ := hrel; have xP := hh_ hinv; clear hinv
    by_cases hlt : k < xs.length
    ·obtain ⟨x, hxk⟩ : ∃ x, xs[k]? = some x := ⟨_, qQ_ hlt⟩
     obtain ⟨gx, ox, rfl, c1, c2, hxv⟩ := (Hz.out.grow hg) k x hxk; have hlx := L2.out x (qZ_ hxk); have inv2 := (MF cols hxk).symm.trans xP.out; obtain ⟨F, hF⟩ : ∃ F, xN cols x.row = F := ⟨_, rfl⟩
     have cf := fun W (h : za wr W) => SY cols x.row Ac x.A cc x.cap W hlen hlx (Hc.out.grow (hg.trans h)) (hxv.grow h) F hF
     rw [hF] at inv2; have Inv2 := hh_ inv2; have b1 : (k : Int) < (xs.length : Int) := by omega
     clear hxk hxv inv2 hF
     by_cases hf0 : F = 0
     ·subst hf0
      go_wp2_with (go_at_call 55; ((with_reducible refine (cf _ (za.refl _)).mono ?_); rintro e w3 ⟨rfl, hg3⟩))
      go_roundw
      case rel => exact ⟨k + 1, by omega, by go_num, by have := Inv2.out; rw [if_neg u5_] at this; exact this, hg.trans hg3⟩
      case measure => exact wa_
     ·have df : (F != 0) = true := by simpa using hf0
      go_wp2_with (go_at_call 55; ((with_reducible refine (cf _ (za.refl _)).mono ?_); rintro e w3 ⟨rfl, hg3⟩))
      go_ret; exact zk oy_ (hg.trans hg3)
    ·exact wk_
  ·have d0 : (E != 0) = true := by simpa using h0
   go_wp2_with (go_at_call 54; ((with_reducible refine (cw _ (za.refl _)).mono ?_); rintro e w2 ⟨rfl, hg2⟩))
   go_ret; exact zk ok_ hg2
theorem Bi {cols : List Int} {x : E} {T : Int} (h : zP cols x = (T, 0)) : 1 <= T := by
 have ok := Wy.1 h; have ty := LS cols ok.all x 1 0; have h16 := ok.len; have hall := ok.all; unfold zP at h; rw [if_neg u4_, if_neg (by rw [hall]; simp)] at h; split at h
 ·rename_i h0; exact absurd (Prod.mk.inj h).2 h0
 ·rename_i h0; rw [<- (Prod.mk.inj h).1]; exact (ty uI_).1
theorem Qc (cols : List Int) (Ac : Option Addr) (cc : Nat) (x : E) (w : World) (hlen : cols.length <= 9223372036854775807) (hc : yD w Ac cols) (hE : EX w x) :
  Calls Tryz.prog 24 #[.slice Ac cols.length cc, x.val] w fun en w' => en = .returned (.int .i64 (yQ cols x)) /\ za w w' := by
 obtain ⟨T, e, hT⟩ : ∃ T e, zP cols x = (T, e) := ⟨_, _, rfl⟩
 have ct := fun W (h : za w W) => YZ cols Ac cc x W hlen (hc.grow h) (hE.grow h)
 rw [hT] at ct; simp only at ct; have hR : yQ cols x = if e = 0 /\ T ≠ 2 /\ T ≠ 1 then 9 else e := by unfold yQ; rw [hT]
 rw [hR]; have hpos : e = 0 -> 1 <= T := fun h => Bi (by rw [hT, h])
 clear hc hE hT hR; unfold E.val at *; go_enter Tryz.func24, Tryz.ntmps24
 by_cases h0 : e = 0
 ·subst h0; have hp := hpos rfl
  by_cases h2 : 2 < T
  ·have d2 : decide (2 < T) = true := decide_eq_true h2
   go_wp2_with (go_at_call 37; ((with_reducible refine (ct _ zd).mono ?_); rintro en w3 ⟨rfl, hg3⟩))
   go_ret; exact zk (by first | rfl | rw [if_pos ⟨rfl, by omega, by omega⟩]) ((((za.refl w).al _).trans hg3))
  ·have d2 : decide (2 < T) = false := decide_eq_false h2
   go_wp2_with (go_at_call 37; ((with_reducible refine (ct _ zd).mono ?_); rintro en w3 ⟨rfl, hg3⟩))
   go_ret; exact zk (by first | rfl | rw [if_neg u4_]) ((((za.refl w).al _).trans hg3))
 ·have d0 : (e != 0) = true := by simpa using h0
  go_wp2_with (go_at_call 37; ((with_reducible refine (ct _ zd).mono ?_); rintro en w3 ⟨rfl, hg3⟩))
  go_ret; exact zk (by simp [h0]) ((((za.refl w).al _).trans hg3))
theorem Pq (w : World) : (w.alloc (.cells #[] 24)).ownsRow w.heap.size 24 3 (.slice (some ⟨w.heap.size, 0, none⟩) 0 0) 0 (zF []) :=
 ⟨rfl, .inr ⟨w.heap.size, 0, #[], rfl, Nat.le_refl _, heap_alloc_new w _, Nat.le_refl _, by unfold maxLen; omega, rfl, rfl⟩⟩
theorem kB (a b : List V) (A B : Option Addr) (ca cb : Nat) (w : World) (hl : a.length + b.length <= 10000) (ha : yS w A a) (hb : yS w B b) :
  Calls Tryz.prog 104 #[.slice A a.length ca, .slice B b.length cb] w fun en w' => ∃ (C : Option Addr) (cap : Nat), en = .returned (.slice C (a ++ b).length cap) /\ w'.ownsRow w.heap.size 24 3 (.slice C (a ++ b).length cap) (a ++ b).length (zF (a ++ b)) /\ za w w' := by
 have hsa := hh_ (Q1 (c := ca) (ha.grow ((za.refl w).al (.cells #[] 24)))); have Hb := hh_ hb; have Own0 := hh_ (Pq w); clear ha hb; go_enter Tryz.func104, Tryz.ntmps104
 go_wp2_with (first
  | (at_builtin; refine yx rfl _ _ rfl w.heap.size _ _ _ rfl Own0.out _ a rfl hsa.out u4_ u5_ ?_; intro v5 w5 own5 gr5; obtain ⟨B5, cap5, rfl⟩ := yg own5; simp only [Nat.zero_add, List.nil_append] at own5 gr5; have G5 : za w w5 := zp ((za.refl w).al _) gr5 Own0.out; have Own5 := hh_ own5; have hsb := hh_ (Q1 (c := cb) (Hb.out.grow G5)); have sz5 := G5.size; clear own5 gr5)
  | (at_builtin; refine yx rfl _ _ rfl w.heap.size _ _ _ rfl Own5.out _ b rfl hsb.out u4_ sz5 ?_; intro v6 w6 own6 gr6; obtain ⟨B6, cap6, rfl⟩ := yg own6; have G6 : za w w6 := zp G5 gr6 Own5.out; have Own6 := hh_ own6; clear own6 gr6))
 go_ret; have e : (a ++ b).length = a.length + b.length := by simp
 exact ⟨B6, cap6, by rw [e]; rfl, by have h := Own6.out; rw [e]; simpa using h, G6⟩
theorem CA {v : V} (h : RV v) : L4 v true = (yq v == 2) := by
 have hb := h.bool; unfold L4 yq
 by_cases h2 : v.k = 2
 ·rcases hb h2 with h1 | h1 <;> simp [h2, h1]
 ·simp [h2]
theorem kF {l r : List Int} {a b : List V} (ha : ja l a) (hb : ja r b) : ja (l ++ r) (a ++ b) := by
 refine ⟨by rw [List.length_append, List.length_append, ha.1, hb.1], fun i v hv => ?_⟩; rcases Nat.lt_or_ge i a.length with h | h
 ·rw [List.getElem?_append_left h] at hv; have := ha.2 i v hv; rw [List.getD_eq_getElem?_getD, List.getElem?_append_left (by rw [<- ha.1]; exact h), <- List.getD_eq_getElem?_getD]; exact this
 ·rw [List.getElem?_append_right h] at hv; have := hb.2 _ v hv; rw [List.getD_eq_getElem?_getD, List.getElem?_append_right (by rw [<- ha.1]; exact h), <- List.getD_eq_getElem?_getD, <- ha.1]; exact this
theorem Xm (cols : List Int) (row : List V) (A : Option Addr) (cr : Nat) (x : E) (T : Int) (w : World) (hlen : row.length <= 9223372036854775807) (hf : ja cols row) (ht : wt cols x T) (hx : EX w x) (hr : yS w A row) :
  Calls Tryz.prog 101 #[x.val, .slice A row.length cr] w fun en w' => en = .returned (.bool (yi x row)) /\ za w w' := by
 have hre : RE row.length x := by rw [hf.1]; exact Yc x ht
 have rv := XW row hf.rv x hre; have co := fun W (h : za w W) => LB cols row A cr hlen hf x ht W W (hx.grow h) (hr.grow h) (za.refl W)
 have ci := fun W => ju (yd row x) true W
 rw [CA rv, show (yq (yd row x) == 2) = yi x row from rfl] at ci; generalize yd row x = v9 at co ci; generalize yi x row = hb at *; clear hre rv hf ht hx hr; unfold E.val at *; unfold V.val at co ci; go_enter Tryz.func101, Tryz.ntmps101
 go_wp2_with (first
  | (go_at_call 142; ((with_reducible refine (co _ zd).mono ?_); rintro e w5 ⟨rfl, hg5⟩))
  | (go_at_call 141; ((with_reducible refine (ci _).mono ?_); rintro e w6 ⟨rfl, hg6⟩)))
 go_ret; exact yG rfl ((((za.refl w).al _).trans hg5).trans hg6)
abbrev Ed (x : E) : Array Value := #[.int .i64 x.kind, .int .i64 x.v.k, .int .i64 x.v.n, .string x.v.s, .int .i64 x.col, .slice x.A x.n x.cap]
theorem Jb {w : World} {o : Oper} {a : Act} {K : Act -> World -> Prop} {Q : Exit -> Act -> World -> Prop} (s x : Operand)
  (ho : o.op = .call { callee := .builtin .append, args := #[s, x], argTypes := #[33, 33] })
  (base : Nat) (v : Value) (n : Nat) (xs : List Int) (hs : a.eval s = v) (hown : w.ownsRow base 3 1 v n (yw xs)) (src : Value) (L : List Int) (hx : a.eval x = src) (hsrc : TW w src L) (hB : n + L.length <= 1000000) (hbase : base <= w.heap.size)
  (h : ∀ B cap w', w'.ownsRow base 3 1 (.slice B (n + L.length) cap) (n + L.length) (yw (xs ++ L)) -> w.grownBy w' v.ownBlock -> K (a.put o.dst (.slice B (n + L.length) cap)) w') : Oper.wp Tryz.prog o a w K Q := by
 obtain ⟨ti, hti, hz0, hz1, hz2⟩ := x9; rcases hsrc with ⟨c, rfl, rfl⟩ | ⟨ad, c, rfl, hc⟩
 ·have hrun := j8 (P := Tryz.prog) (w := w) base 33 o.type 3 ti 1 Tryz.underlying33 hti v n (yw xs) hown c; obtain ⟨B, cap, rfl⟩ := yg hown; unfold Oper.wp; simp [execOp, ho, resolve, invoke, builtin, hs, hx, hrun, Result.andThen]; have := h B cap w uB_ ⟨rfl, rfl, rfl, Nat.le_refl _, fun _ _ _ => rfl⟩; rw [Oper.upon_value]; simpa using this
 ·refine wp_append_own w s x _ ho base 3 ti (.int .i64 0) 1 8 Tryz.underlying33 hti hz0 hz1 hz2 rfl u3_ v n (yw xs) hs hown ad L.length c (yw L) hx (by rw [JU]) hc (Wm _) us_ u4_ hbase ?_; intro v' w' h1 h2 _; obtain ⟨B, cap, rfl⟩ := yg h1; exact h B cap w' (by rw [Ym]; exact h1) h2
theorem kU {ops : Array Oper} {w : World} {o : Oper} {a : Act} {K : Act -> World -> Prop} {Q : Exit -> Act -> World -> Prop} {E : Prop} (hgd : o.guard = none) (s x : Operand)
  (ho : o.op = .call { callee := .builtin .append, args := #[s, x], argTypes := #[33, 33] })
  (base : Nat) (v : Value) (n : Nat) (xs : List Int) (hs : a.eval s = v) (hown : w.ownsRow base 3 1 v n (yw xs)) (src : Value) (L : List Int) (hx : a.eval x = src) (hsrc : TW w src L) (hB : n + L.length <= 1000000) (hbase : base <= w.heap.size)
  (h : ∀ B cap w', w'.ownsRow base 3 1 (.slice B (n + L.length) cap) (n + L.length) (yw (xs ++ L)) -> w.grownBy w' v.ownBlock -> K (a.put o.dst (.slice B (n + L.length) cap)) w') :
  if Region.wanted o (yielded ops a.tmps) = true then Oper.wp Tryz.prog o a w K Q else E := by
 have hw : Region.wanted o (yielded ops a.tmps) = true := by simp [Region.wanted, hgd]
 rw [if_pos hw]; exact Jb s x ho base v n xs hs hown src L hx hsrc hB hbase h
theorem WH (w : World) : (w.alloc (.cells #[] 3)).ownsRow w.heap.size 3 1 (.slice (some ⟨w.heap.size, 0, none⟩) 0 0) 0 (yw []) :=
 ⟨rfl, .inr ⟨w.heap.size, 0, #[], rfl, Nat.le_refl _, heap_alloc_new w _, Nat.le_refl _, by unfold maxLen; omega, rfl, rfl⟩⟩
def PR (r : List V) (v : Value) (W : World) : Prop := ∃ (B : Option Addr) (cap : Nat), v = .slice B r.length cap /\ yS W B r
theorem j7 (cols : List Int) (x : E) (T : Int) (row : List V) (Ar : Option Addr) (cr : Nat) (b : S) (w : World) (hlb : b.xs.length <= 400) (hfit : ∀ z ∈ b.xs, ja cols (row ++ z.row)) (ht : wt cols x T) (hl8 : ∀ z ∈ b.xs, (row ++ z.row).length <= 8) (hx : EX w x) (hr : yS w Ar row) (hb : xc w b.A b.xs) :
  Calls Tryz.prog 105 #[x.val, .slice Ar row.length cr, .slice b.A b.xs.length b.cap] w fun en w' => en = .returned (.bool (qL x b.z row)) /\ za w w' := by
 obtain ⟨Ab, bs1, cb⟩ := b; simp only at hlb hfit hl8 hb ⊢; have HX := hh_ hx; have HR := hh_ hr; have Hb := hh_ hb; have HF := hh_ hfit; have L8 := hh_ hl8; have HT := hh_ ht; clear hfit ht hl8 hx hr hb; obtain ⟨M, hM⟩ : ∃ M, qL x (S.z ⟨Ab, bs1, cb⟩) row = M := ⟨_, rfl⟩
 rw [hM]; have HM := hh_ hM; clear hM; unfold E.val; go_enter Tryz.func105, Tryz.ntmps105; go_upto_region 1 with fail
 refine zb (fun X => zc X w.heap.size 27 (Ed x) /\ za w X) ⟨zc.new _ _ _, (za.refl _).al _⟩ ?_; generalize w.heap.size = g1; rintro X ⟨B1, G⟩; have BB := hh_ B1; clear B1; go_wp2
 go_loopw [11] (fun i wr => ∃ k : Nat, k <= bs1.length /\ i = .int .i64 k /\ ((bs1.take k).map zg).any (fun q => yi x (row ++ q.1) && decide (0 < q.2)) = false /\ za X wr) (fun i _ => bs1.length - (intOf i).toNat)
 case atStart => exact ⟨0, Nat.zero_le _, rfl, rfl, za.refl _⟩
 case round =>
  rename World => wr
  obtain ⟨k, hk, rfl, hno, hg⟩ := hrel; have No := hh_ hno; clear hno
  by_cases hlt : k < bs1.length
  ·obtain ⟨z, hzk⟩ : ∃ z, bs1[k]? = some z := ⟨_, qQ_ hlt⟩
   obtain ⟨gx2, ox2, rfl, c1, c2, hzv⟩ := (Hb.out.grow (G.trans hg)) k z hzk; have hm := qZ_ hzk; have ff := HF.out z hm; have l8 := L8.out z hm; have tk := zT zg hzk; have TK := hh_ tk; have HZ := hh_ hzv; have Hmem := hh_ hm; clear hzk hm tk hzv; have cb4 := fun W (h : za wr W) => kB row z.row Ar z.A cr z.cap W (by simp at l8; omega) (HR.out.grow (G.trans (hg.trans h))) (HZ.out.grow h)
   obtain ⟨R, hR⟩ : ∃ R, row ++ z.row = R := ⟨_, rfl⟩
   rw [hR] at cb4 ff l8; have ch := fun B cap W (h : za wr W) (hv : yS W B R) => Xm cols R B cap x T W u4_ ff HT.out (HX.out.grow (G.trans (hg.trans h))) hv
   obtain ⟨hit, hh⟩ : ∃ t, yi x R = t := ⟨_, rfl⟩
   rw [hh] at ch; have HH := hh_ (And.intro hR hh); unfold E.val at ch; clear hR hh; go_upto_region 4 with fail
   refine zb (fun Z => zc Z wr.heap.size 59 #[.slice z.A z.row.length z.cap, .int .i64 z.w] /\ za wr Z) ⟨zc.new _ _ _, (za.refl wr).al _⟩ ?_; rintro Z ⟨Bz, Gz⟩; have BZ := hh_ Bz; have B1 := hh_ (BB.out.grow (hg.trans Gz)); clear Bz c1 c2; generalize wr.heap.size = gz at *
   by_cases hw : 0 < z.w
   ·have dw : decide (0 < z.w) = true := decide_eq_true hw; apply ze 11 uY_ uY_
    case h' =>
     intro Q0 hQ0; simp only [List.take_succ_cons, List.take_zero]
     repeat ((first | ((first | apply zu rfl | apply zw rfl rfl rfl); case h1 => (intro w1 hw1 hF K hK; obtain ⟨bz, fz⟩ := (BZ.out.grow hw1).rules; obtain ⟨bx, fx⟩ := (B1.out.grow hw1).rules; go_simp; first | exact hK _ (za.refl _))) | apply zz rfl rfl rfl rfl); intro K hK; go_simp; apply hK; clear hK K)
     apply K4 (PR R) rfl rfl rfl
     case h1 =>
      intro w1 hw1 hF K hK; go_simp
      go_at_call 104
      refine (cb4 w1 (Gz.trans hw1)).mono ?_; rintro en w' ⟨B, cap, rfl, ho, hg'⟩; exact ⟨_, rfl, hK _ _ hg' ⟨B, cap, rfl, WJ ho⟩⟩
     intro v23 K hK; go_simp; apply hK; clear hK K; apply zw rfl rfl rfl
     case h1 =>
      intro w1 hw1 hF K hK; obtain ⟨B, cap, hv, h1⟩ := hF _ (List.mem_cons_self ..) ⟨_, rfl, by decide⟩; subst hv; go_simp
      go_at_call 101
      with_reducible refine (ch B cap w1 (Gz.trans hw1) h1).mono ?_
      rintro en w' ⟨rfl, hg'⟩; exact ⟨_, rfl, hK _ hg'⟩
     intro K hK; go_simp; apply hK; clear hK K
     repeat ((first | ((first | apply zu rfl | apply zw rfl rfl rfl); case h1 => (intro w1 hw1 hF K hK; obtain ⟨bz, fz⟩ := (BZ.out.grow hw1).rules; obtain ⟨bx, fx⟩ := (B1.out.grow hw1).rules; go_simp; first | exact hK _ (za.refl _))) | apply zz rfl rfl rfl rfl); intro K hK; go_simp; apply hK; clear hK K)
     refine zo ?_; intro w1 hw1 hF; apply hQ0; clear hQ0; simp only [List.drop_succ_cons, List.drop_zero]; clear hF; cases hit with
     | true =>
      go_wp2; go_ret; refine yG ?_ (G.trans (hg.trans (Gz.trans hw1))); rw [<- HM.out]; unfold qL; symm; rw [List.any_eq_true]; refine ⟨zg z, qZ9 Hmem.out, ?_⟩; have e : (zg z).1 = z.row := rfl; have e2 : (zg z).2 = z.w := rfl; rw [e, e2, HH.out.1, HH.out.2, dw]; rfl
     | false =>
      go_wp2; go_roundw
      case rel =>
       refine ⟨k + 1, by omega, by go_num, ?_, hg.trans (Gz.trans hw1)⟩; rw [TK.out, List.any_append, No.out]; have e : (zg z).1 = z.row := rfl; simp [e, HH.out.1, HH.out.2]
      case measure => exact wa_
    case hp' => exact ⟨fun v w w' hg ⟨B, c, e, h⟩ => ⟨B, c, e, h.grow hg⟩, trivial⟩
   ·have dw : decide (0 < z.w) = false := decide_eq_false hw; apply ze 11 uY_ uY_
    case h' =>
     intro Q0 hQ0; simp only [List.take_succ_cons, List.take_zero]
     repeat ((first | ((first | apply zu rfl | apply zw rfl rfl rfl); case h1 => (intro w1 hw1 hF K hK; obtain ⟨bz, fz⟩ := (BZ.out.grow hw1).rules; obtain ⟨bx, fx⟩ := (B1.out.grow hw1).rules; go_simp; first | exact hK _ (za.refl _))) | apply zz rfl rfl rfl rfl); intro K hK; go_simp; apply hK; clear hK K)
     refine zo ?_; intro w1 hw1 hF; apply hQ0; clear hQ0; simp only [List.drop_succ_cons, List.drop_zero]; clear hF; go_wp2; go_roundw
     case rel => exact ⟨k + 1, by omega, by go_num, by rw [TK.out, List.any_append, No.out]; simp [zg, dw], hg.trans (Gz.trans hw1)⟩
     case measure => exact wa_
    case hp' => trivial
  ·obtain rfl : k = bs1.length := by omega
   go_wp2; go_ret; exact yG (by rw [<- HM.out]; have := No.out; rw [List.take_length] at this; exact this.symm) (G.trans hg)
theorem Zq (l r : L2 Int) (x : E) (a b : S) (w : World) (hll : l.xs.length <= 140737488355328) (hlr : r.xs.length <= 140737488355328) (hl : yD w l.A l.xs) (hr : yD w r.A r.xs) (hE : EX w x) (ha : In w a) (hb : In w b) :
  Calls Tryz.prog 103 #[.slice l.A l.xs.length l.cap, .slice r.A r.xs.length r.cap, x.val, .slice a.A a.xs.length a.cap, .slice b.A b.xs.length b.cap] w fun en w' => en = .returned (.int .i64 (x5 l.xs r.xs x a.z b.z)) /\ za w w' := by
 have HL := hh_ hl; have HR := hh_ hr; have HX := hh_ hE; have Ha := hh_ ha; have Hb := hh_ hb; obtain ⟨CE, hCE⟩ : ∃ CE, yQ (l.xs ++ r.xs) x = CE := ⟨_, rfl⟩
 obtain ⟨I1, hI1⟩ : ∃ I1, zO l.xs a.z = I1 := ⟨_, rfl⟩
 obtain ⟨I2, hI2⟩ : ∃ I2, zO r.xs b.z = I2 := ⟨_, rfl⟩
 have c1 := fun W (hg : za w W) => qC l.xs l.A l.cap a.xs a.A a.cap W u4_ (HL.out.grow hg) (Ha.out.grow hg)
 have c2 := fun W (hg : za w W) => qC r.xs r.A r.cap b.xs b.A b.cap W u4_ (HR.out.grow hg) (Hb.out.grow hg)
 rw [show a.xs.map zg = a.z from rfl, hI1] at c1; rw [show b.xs.map zg = b.z from rfl, hI2] at c2; obtain ⟨R, hR⟩ : ∃ R, x5 l.xs r.xs x a.z b.z = R := ⟨_, rfl⟩
 have fin : R = if 8 < l.xs.length + r.xs.length then 5 else if CE ≠ 0 then CE else if I1 ≠ 0 then I1 else I2 := by
  rw [<- hR]; unfold x5; split
  ·rfl
  ·rw [hCE, hI1, hI2]; unfold Kj; split
   ·rfl
   ·unfold Kj; split
    ·rfl
    ·unfold Kj Kj; split
     ·rfl
     ·rename_i h; have h : I2 = 0 := by simpa using h
      exact h.symm
 rw [hR]; have Fin := hh_ fin; have ccd := fun (B : Option Addr) cap W (hg : za w W) (h : yD W B (l.xs ++ r.xs)) (h8 : l.xs.length + r.xs.length <= 8) => Qc (l.xs ++ r.xs) B cap x W uV_ h (HX.out.grow hg)
 rw [hCE] at ccd; obtain ⟨LR, hLR⟩ : ∃ LR, l.xs ++ r.xs = LR := ⟨_, rfl⟩
 rw [hLR] at ccd; have lLR : LR.length = l.xs.length + r.xs.length := by rw [<- hLR]; simp
 unfold E.val at ccd; rw [lLR] at ccd; have CC := hh_ ccd; have HLR := hh_ hLR; clear hl hr hE ha hb hCE hI1 hI2 hR fin ccd hLR; unfold E.val; go_enter Tryz.func103, Tryz.ntmps103; go_upto_region 1 with fail
 refine zb (fun X => zc X w.heap.size 27 (Ed x) /\ za w X) ⟨zc.new _ _ _, (za.refl w).al _⟩ ?_; generalize w.heap.size = g1; rintro X ⟨Bx, G⟩; have hwp : IntKind.i64.wrap ((l.xs.length : Int) + (r.xs.length : Int)) = ((l.xs.length + r.xs.length : Nat) : Int) := by rw [IntKind.wrap_i64]; omega
 by_cases h8 : 8 < l.xs.length + r.xs.length
 ·exact xp_
 ·have d8 : decide ((8 : Int) < ((l.xs.length + r.xs.length : Nat) : Int)) = false := decide_eq_false u4_; have eR : R = if CE ≠ 0 then CE else if I1 ≠ 0 then I1 else I2 := by rw [Fin.out, if_neg h8]
  have ER := hh_ eR; clear eR Fin; go_upto_region 3 with fail
  clear hwp d8; have BX := hh_ Bx; clear Bx
  go_cut [11] (fun s wx => s = .int .i64 CE /\ za w wx)
  case first =>
   obtain ⟨b1x, f1x⟩ := BX.out.rules; obtain ⟨b2x, f2x⟩ := (BX.out.grow ((za.refl X).al (.cells #[] 3))).rules
   go_region_law (first
    | (refine kU rfl _ _ rfl X.heap.size _ 0 [] rfl (WH X) _ l.xs rfl (jE (HL.out.grow (G.trans zd))) u4_ u5_ ?_; intro B5 cap5 w5 own5 gr5; simp only [Nat.zero_add, List.nil_append] at own5 gr5; have G5 : za X w5 := zp zd gr5 (WH X); have Own5 := hh_ own5; have sz5 := G5.size; clear own5 gr5; obtain ⟨b5x, f5x⟩ := (BX.out.grow G5).rules)
    | (refine kU rfl _ _ rfl X.heap.size _ l.xs.length l.xs rfl Own5.out _ r.xs rfl (jE (HR.out.grow (G.trans zd))) u4_ sz5 ?_; intro B6 cap6 w6 own6 gr6; have G6 : za X w6 := zp zd gr6 Own5.out; rw [HLR.out] at own6; have hv6 := xX own6 lLR.symm; have HV6 := hh_ hv6; clear own6 gr6 hv6; obtain ⟨bx, fx⟩ := (BX.out.grow G6).rules)
    | (go_simp; go_at_call 24; ((with_reducible refine (CC.out _ _ _ (G.trans zd) (HV6.out.grow zd) u4_).mono ?_); rintro e w7 ⟨rfl, hg7⟩)))
   all_goals (
    go_wp2_with fail
    go_meet
    exact ⟨rfl, G.trans zd⟩)
  case rest =>
   obtain ⟨rfl, G7⟩ := hcut; rename World => w7
   by_cases h0 : CE = 0
   ·by_cases h1 : I1 = 0
    ·have eR : R = I2 := by rw [ER.out, if_neg uI_, if_neg uM_]
     subst h0 h1
     go_wp2_with (first
      | (go_at_call 31; ((with_reducible refine (c1 _ G7).mono ?_); rintro e w8 ⟨rfl, hg8⟩))
      | (go_at_call 31; ((with_reducible refine (c2 _ (G7.trans hg8)).mono ?_); rintro e w9 ⟨rfl, hg9⟩)))
     go_ret; exact zk eR.symm (G7.trans (hg8.trans hg9))
    ·have eR : R = I1 := by rw [ER.out, if_neg uI_, if_pos h1]
     have d1 : (I1 != 0) = true := by simpa using h1
     subst h0
     go_wp2_with (go_at_call 31; ((with_reducible refine (c1 _ G7).mono ?_); rintro e w8 ⟨rfl, hg8⟩))
     go_ret; exact zk eR.symm (G7.trans hg8)
   ·have eR : R = CE := by rw [ER.out, if_pos h0]
    have d0 : (CE != 0) = true := by simpa using h0
    go_wp2; go_ret; exact zk eR.symm G7
