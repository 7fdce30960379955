/- Parts of a proof. No condition. -/
import Derived.Test.YtphaeahdmfapgaaGreatGTc
import Derived.Test.YtphaeahdmfapgaaGreatGZb
set_option maxRecDepth 100000
set_option maxHeartbeats 8000000
set_option maxRecDepth 100000
set_option linter.unusedSimpArgs false
set_option linter.unusedVariables false
namespace Go
variable {p : Prop}
theorem oD_ (h : p := by have := (qQ9.1 hx).1; omega) : p := h
theorem o1_ (h : p := by simp [results, Tryz.results65, go_sem] <;> rfl) : p := h
theorem yo_ (h : p := by
 obtain rfl : i = j := by omega
 rw [hx] at hu; cases hu; exact Int.le_of_eq (JG _ _)) : p := h
theorem yJ_ (h : p := by
 exact ((yL es (P1 ++ P2)).cons _).trans List.perm_middle.symm) : p := h
end Go
namespace Go.Proofs.YtphaeahdmfapgaaGreat
open Go.RowKit Go.Calm
structure jK (w : World) (g : Nat) (wr : World) (t : Value) (l : List Z) : Prop where
 sl : ∃ (B : Option Addr) (ys : List I) (cap : Nat), t = .slice B ys.length cap /\ xc wr B ys /\ ys.map zg = yC l /\ zX B ys.length cap /\ L5 g B /\ ∀ y ∈ ys, L5 g y.A
 grow : za w wr
 pl : BI l
theorem jK.nil (w : World) (g : Nat) (wr : World) (hg : za w wr) : jK w g wr (.slice none 0 0) [] := ⟨⟨none, [], 0, rfl, zy _ _, rfl, zX.nil, fun a h => (by cases h), fun y hy => by simp at hy⟩, hg, BI.nil⟩
theorem jK.more {w : World} {g : Nat} {wr wq : World} {t : Value} {l : List Z} (h : jK w g wr t l) (hg : za wr wq) : jK w g wq t l := by
 obtain ⟨⟨B, ys, cap, h1, h2, h3, h4, h7, h8⟩, h5, h6⟩ := h; exact ⟨⟨B, ys, cap, h1, h2.grow hg, h3, h4, h7, h8⟩, h5.trans hg, h6⟩
theorem Fg {g : Nat} {w w' : World} {A : Option Addr} {xs : List V} (hx : yS w A xs) (hA : L5 g A) (hg : GX g w w') : yS w' A xs := fun i x hi => by
 obtain ⟨g', o', e, a, b, c⟩ := hx i x hi; have hne : g' ≠ g := hA _ e; exact ⟨g', o', e, World.grownBy.cell hg a uE_, World.grownBy.cell hg b uE_, World.grownBy.cell hg c uE_⟩
theorem Fi {g : Nat} {w w' : World} {A : Option Addr} {ys : List I} (hz : xc w A ys) (hA : L5 g A) (hr : ∀ y ∈ ys, L5 g y.A) (hg : GX g w w') : xc w' A ys := fun i x hx => by
 obtain ⟨g', o', e, a, b, c⟩ := hz i x hx; have hne : g' ≠ g := hA _ e; exact ⟨g', o', e, World.grownBy.cell hg a uE_, World.grownBy.cell hg b uE_, Fg c (hr x (qZ_ hx)) hg⟩
theorem jK.gx {w : World} {g : Nat} {wr wq : World} {t : Value} {l : List Z} (h : jK w g wr t l) (hg : GX g wr wq) (hb : w.heap.size <= g) : jK w g wq t l := by
 obtain ⟨⟨B, ys, cap, h1, h2, h3, h4, h7, h8⟩, h5, h6⟩ := h; exact ⟨⟨B, ys, cap, h1, Fi h2 h7 h8 hg, h3, h4, h7, h8⟩, GX.base h5 hb hg, h6⟩
theorem jK.slice {w : World} {g : Nat} {wr : World} {t : Value} {l : List Z} (h : jK w g wr t l) : ∃ (B : Option Addr) (n cap : Nat), t = .slice B n cap := yA_
theorem SQ {w : World} {g : Nat} {wr : World} {t : Value} {l : List Z} (h : jK w g wr t l) (hg0 : g < wr.heap.size) (row : List V) (Ar : Option Addr) (cr : Nat) (n : Int) (hx : yS wr Ar row) (hl : row.length <= 1000) (hr : ∀ v ∈ row, RV v) (hn : -1000000000000 <= n /\ n <= 1000000000000) (hlen : l.length <= 200000) :
  Calls Tryz.prog 56 #[t, .slice Ar row.length cr, .int .i64 n] wr fun en w' => ∃ v, en = .returned v /\ jK w g w' v (l ++ [(row, n)]) /\ za wr w' := by
 obtain ⟨⟨B, ys, cap, rfl, hz, hm, hk, ha, har⟩, hg, hp⟩ := h
 have hlen2 : ys.length <= 200000 := xA_
 have hrow : ∀ x ∈ ys, x.row.length <= 1000 := fun x hx => wG_
 have hw : ∀ x ∈ ys, -2000000000000000000 <= x.w /\ x.w <= 2000000000000000000 := fun x hx => w1_
 refine (Ru ys B cap row Ar cr n wr hlen2 hk hz hrow hw hl hr hx u4_).mono ?_; rintro en w' ⟨C, zs, cap2, rfl, hz2, hm2, hk2, hf, hfr, hg2⟩; refine ⟨_, rfl, ⟨⟨C, zs, cap2, rfl, hz2, by rw [hm2, hm, Qi], hk2, fun a e => by have := hf a e; omega, fun y hy => ?_⟩, hg.trans hg2, hp.snoc hl hr hn⟩, hg2⟩; rcases hfr y hy with ⟨x, hx, e⟩ | h
 ·rw [e]; exact har x hx
 ·exact fun a e => by have := h a e; omega
theorem ZI.dec {w : World} {g : Nat} {xs : List I} (h : ZI w g xs) {i : Nat} {x : I} (hx : xs[i]? = some x) (n : Int) : ZI (w.setCell ⟨g, i * 2 + 1, none⟩ (.int .i64 n)) g (xs.set i { x with w := n }) := by
 obtain ⟨r, h⟩ := h; have hi := (qQ9.1 hx).1; have hb := zc.set h (i * 2 + 1) (.int .i64 n); refine ⟨r, ?_⟩
 have e1 : (zx xs).set (i * 2) (.slice x.A x.row.length x.cap) = zx xs := by
  obtain ⟨h1, h2⟩ := qQ9.1 (xI xs i x hx).1; rw [<- h2]; exact List.set_getElem_self h1
 have e2 := Yl xs i { x with w := n } hi; simp only at e2; rw [e1] at e2; rw [<- e2]; have l2 : i * 2 + 1 < (zx xs).length := by rw [yW]; omega
 simp only [List.setIfInBounds_toArray, List.set_append_left _ _ l2] at hb; exact hb
def qO : Nat -> List Z -> List Z
 | 0, _ => []
 | _ + 1, [] => []
 | n + 1, x :: M => (x.1, 1) :: qO n (if x.2 <= 1 then M else (x.1, x.2 - 1) :: M)
theorem LW (q : List V) : ∀ (n : Nat) (M : List Z), (∀ x ∈ M, 0 < x.2) -> xe (qO n M) q = xe (yJ n M) q
 | 0, M, _ => by unfold qO; rw [Xo u5_]
 | n + 1, [], _ => rfl
 | n + 1, x :: M, hp => by
  have hx := hp x (List.mem_cons_self ..); have hp' := fun y (hy : y ∈ M) => hp y (List.mem_cons_of_mem _ hy)
  unfold qO; rw [zv]
  by_cases h1 : x.2 <= 1
  ·rw [if_pos h1, LW q n M hp']; have e : x.2 = 1 := by omega
   have er : yJ ((n + 1 : Nat) : Int) (x :: M) = (x.1, 1) :: yJ (n : Int) M := by
    have u : yJ ((n + 1 : Nat) : Int) (x :: M) = if 0 < ((n + 1 : Nat) : Int) then (x.1, if x.2 <= ((n + 1 : Nat) : Int) then x.2 else ((n + 1 : Nat) : Int)) :: yJ (((n + 1 : Nat) : Int) - if x.2 <= ((n + 1 : Nat) : Int) then x.2 else ((n + 1 : Nat) : Int)) M else yJ ((n + 1 : Nat) : Int) M := rfl
    rw [u, if_pos u4_, if_pos u4_, e, show ((n + 1 : Nat) : Int) - 1 = (n : Int) by omega]
   rw [er, zv]
  ·rw [if_neg h1, LW q n _ (fun y hy => by
    rcases List.mem_cons.1 hy with e | hy
    ·rw [e]; show 0 < x.2 - 1; omega
    ·exact hp' y hy)]
   unfold yJ; rw [if_pos (by omega : (0 : Int) < ((n + 1 : Nat) : Int))]
   by_cases hn : (0 : Int) < (n : Int)
   ·rw [if_pos hn, zv, zv]; simp only
    by_cases h2 : x.2 <= ((n + 1 : Nat) : Int)
    ·rw [if_pos h2, if_pos (by omega : x.2 - 1 <= (n : Int)), show (n : Int) - (x.2 - 1) = ((n + 1 : Nat) : Int) - x.2 by omega]; split <;> omega
    ·rw [if_neg h2, if_neg (by omega : ¬ x.2 - 1 <= (n : Int)), show (n : Int) - (n : Int) = ((n + 1 : Nat) : Int) - ((n + 1 : Nat) : Int) by omega]; split <;> omega
   ·rw [if_neg hn, Xo u4_, zv]; simp only; rw [if_neg (by omega : ¬ x.2 <= ((n + 1 : Nat) : Int)), Xo u4_]; have : ((n + 1 : Nat) : Int) = 1 := by omega
    rw [this]
def j1 (x : Z) : Z := (zj x.1, x.2)
theorem Qm (f : List V -> List V) : ∀ (M : List Z) (left : Int), yJ left (M.map (fun x => (f x.1, x.2))) = (yJ left M).map (fun x => (f x.1, x.2))
 | [], _ => rfl
 | x :: M, left => by
  rw [List.map_cons]; unfold yJ; split
  ·rw [List.map_cons]; simp only; rw [Qm f M]
  ·exact Qm f M left
theorem Je (q : List V) : ∀ l : List Z, xe (l.map j1) q = xe l q
 | [] => rfl
 | x :: l => by
  rw [List.map_cons, zv, zv, Je q l]; unfold j1; rw [yK]
def yY (l : List Z) : List Z := l.filter (fun x => decide (0 < x.2))
theorem YE : ∀ z : List Z, yz xh z = (yY z).map j1
 | [] => rfl
 | x :: z => by
  have ih := YE z; unfold yz at ih ⊢; unfold yY at ih ⊢; rw [List.map_cons, List.filter_cons, List.filter_cons, ih]
  by_cases h : 0 < x.2
  ·have e : xh x.2 = x.2 := by unfold xh; split <;> omega
   rw [if_pos (by simpa [e] using (show x.2 ≠ 0 by omega)), if_pos uT_, List.map_cons, e]; rfl
  ·have e : xh x.2 = 0 := by unfold xh; split <;> omega
   rw [if_neg (by simp [e]), if_neg uT_]
theorem Tq {es : List E} {z : List Z} (hr : ∀ x ∈ z, ∀ v ∈ x.1, RV v) (hu : z.Pairwise (fun x y => zZ x.1 y.1 < 0)) : yI es (yz xh z) = (yI es (yY z)).map j1 := by
 have can := j4 (f := xh) hr hu; symm; refine Zv can.up ?_ ?_
 ·rw [YE]; exact (yL es (yY z)).map j1
 ·rw [List.pairwise_map]; refine List.Pairwise.imp_of_mem ?_ (Zw es (yY z)); intro a b ha hb hab; have ra := hr a (List.mem_filter.1 ((yL es (yY z)).mem_iff.1 ha)).1; have rb := hr b (List.mem_filter.1 ((yL es (yY z)).mem_iff.1 hb)).1; have ka : es.map (yd (j1 a).1) = es.map (yd a.1) := KL es a.1; have kb : es.map (yd (j1 b).1) = es.map (yd b.1) := KL es b.1; unfold qQ at hab ⊢; rw [ka, kb]; split at hab
  ·rename_i h; rw [if_pos h]; exact hab
  ·rename_i h; rw [if_neg h]; have c1 : zZ (zj a.1) a.1 <= 0 := Int.le_of_eq (YR ra); have c2 : zZ b.1 (zj b.1) <= 0 := Int.le_of_eq (kL rb); exact xp (xp c1 hab) c2
theorem V7 {cols : List Int} {es : List E} {k : Nat} {z : List Z} (h1 : (zE cols es).2 = 0) (hk : k <= 50) (h2 : zO cols z = 0) : Qn cols es k z = (yC (qO k (yI es (yY z))), 0) := by
 obtain ⟨_, hw, _⟩ := zt h2; have smz := SM.of hw; unfold Qn; rw [if_neg (by rw [h1]; simp), if_neg u4_, if_neg (by rw [h2]; simp), Tq smz.rv smz.up]
 have pos : ∀ x ∈ yI es (yY z), 0 < x.2 := fun x hx => by
  have := (List.mem_filter.1 ((yL es (yY z)).mem_iff.1 hx)).2; simpa using this
 have mz : ∀ x ∈ yI es (yY z), x ∈ z := fun x hx => (List.mem_filter.1 ((yL es (yY z)).mem_iff.1 hx)).1
 have et : yJ (k : Int) ((yI es (yY z)).map j1) = (yJ k (yI es (yY z))).map j1 := Qm zj _ _; rw [et]
 have ok : ZG ((yJ k (yI es (yY z))).map j1) := fun y hy => by
  obtain ⟨t, ht, rfl⟩ := List.mem_map.1 hy; obtain ⟨x, hx, e, _⟩ := jI pos ht; have := smz.ok x (mz x hx); rw [e] at this; exact ⟨by show (zj t.1).length <= 8; rw [xt]; exact this.1, xS this.2⟩
 have okp : ZG (qO k (yI es (yY z))) := fun y hy => by
  have sub : ∀ (n : Nat) (l : List Z), y ∈ qO n l -> ∃ x ∈ l, x.1 = y.1 := by
   intro n
   induction n with
   | zero => intro l h; simp [qO] at h
   | succ n ih =>
    intro l h; cases l with
    | nil => simp [qO] at h
    | cons a l =>
     unfold qO at h; rcases List.mem_cons.1 h with e | h
     ·exact ⟨a, List.mem_cons_self .., by rw [e]⟩
     ·obtain ⟨x, hx, e⟩ := ih _ h; split at hx
      ·exact ⟨x, List.mem_cons_of_mem _ hx, e⟩
      ·rcases List.mem_cons.1 hx with e2 | hx
       ·exact ⟨a, List.mem_cons_self .., by rw [<- e, e2]⟩
       ·exact ⟨x, List.mem_cons_of_mem _ hx, e⟩
  obtain ⟨x, hx, e⟩ := sub k _ hy; have := smz.ok x (mz x hx); rw [e] at this; exact this
 have dS : DZ (yI es (yY z)) := by
  refine (List.Perm.pairwise_iff (fun {a b} h => Ne.symm h) (yL es (yY z))).2 ?_; refine List.Pairwise.imp_of_mem ?_ (List.Pairwise.filter _ smz.up); intro a b ha hb hab e; have := (yX a.1 b.1 (smz.rv a (List.mem_filter.1 ha).1) (smz.rv b (List.mem_filter.1 hb).1)).2 e; omega
 have bd : ∀ q, -1000000 <= xe ((yJ k (yI es (yY z))).map j1) q /\ xe ((yJ k (yI es (yY z))).map j1) q <= 1000000 := fun q => by
  rw [Je]
  by_cases h0 : xe (yJ k (yI es (yY z))) q = 0
  ·rw [h0]; omega
  ·obtain ⟨t, ht, e⟩ := LZ h0
   have w1 : xe (yJ k (yI es (yY z))) q = t.2 := by
    rw [<- DW (WZ pos dS) ht]; unfold xe; rw [e]
   obtain ⟨x, hx, _, hp1, hp2⟩ := jI pos ht; have := smz.bd x (mz x hx); rw [w1]; omega
 have ln : ((yJ k (yI es (yY z))).map j1).length <= 400 := by
  have l1 : ∀ (l : List Z) (left : Int), (yJ left l).length <= l.length := by
   intro l
   induction l with
   | nil => intro left; simp [yJ]
   | cons a l ih =>
    intro left; unfold yJ; split
    ·simp only [List.length_cons]; have := ih (left - if a.2 <= left then a.2 else left); omega
    ·have := ih left; simp only [List.length_cons]; omega
  rw [List.length_map]; refine Nat.le_trans (l1 _ _) ?_; rw [(yL es (yY z)).length_eq]; exact Nat.le_trans (List.length_filter_le _ _) smz.len
 rw [(PG (M := 1000000) (N := 400) ok bd ln u4_ u4_).1]; have s1 := qe (qO k (yI es (yY z))) (fun y hy => (okp y hy).2); rw [Zs (l := (yJ k (yI es (yY z))).map j1) (fun y hy => (ok y hy).2) s1.1 (fun q => by rw [s1.2, LW q k _ pos, Je])]
def YB (xs R : List I) : Prop := R.map (fun x => (x.A, x.row, x.cap)) = xs.map (fun x => (x.A, x.row, x.cap)) /\ ∀ x ∈ R, -1000000 <= x.w /\ x.w <= 1000000
theorem YB.len {xs R : List I} (h : YB xs R) : R.length = xs.length := by
 have := congrArg List.length h.1; simpa using this
theorem YB.mem {xs R : List I} (h : YB xs R) {x : I} (hx : x ∈ R) : ∃ y ∈ xs, y.A = x.A /\ y.row = x.row /\ y.cap = x.cap := by
 have h1 : (x.A, x.row, x.cap) ∈ R.map (fun x => (x.A, x.row, x.cap)) := qZ9 (f := fun x : I => (x.A, x.row, x.cap)) hx; rw [h.1] at h1; obtain ⟨y, hy, e⟩ := List.mem_map.1 h1; simp only [Prod.mk.injEq] at e; exact ⟨y, hy, e⟩
theorem YB.up {xs R : List I} (h : YB xs R) (hu : (xs.map zg).Pairwise (fun a b => zZ a.1 b.1 < 0)) : (R.map zg).Pairwise (fun a b => zZ a.1 b.1 < 0) := by
 rw [List.pairwise_map] at hu ⊢; have h1 : (xs.map (fun x => (x.A, x.row, x.cap))).Pairwise (fun a b => zZ a.2.1 b.2.1 < 0) := by rw [List.pairwise_map]; exact hu
 rw [<- h.1, List.pairwise_map] at h1; exact h1
theorem YB.dec {xs R : List I} (h : YB xs R) {m : Nat} {y : I} (hm : R[m]? = some y) (hy : 0 < y.w) : YB xs (R.set m { y with w := y.w - 1 }) := by
 obtain ⟨hl, e⟩ := qQ9.1 hm; refine ⟨?_, fun x hx => ?_⟩
 ·rw [<- h.1, List.map_set]
  have : (R.map (fun x : I => (x.A, x.row, x.cap))).set m (y.A, y.row, y.cap) = R.map (fun x : I => (x.A, x.row, x.cap)) := by
   have hl2 : m < (R.map (fun x : I => (x.A, x.row, x.cap))).length := by simpa using hl
   have e2 : (R.map (fun x : I => (x.A, x.row, x.cap)))[m] = (y.A, y.row, y.cap) := by rw [List.getElem_map, e]
   rw [<- e2]; exact List.set_getElem_self hl2
  exact this
 ·rcases List.mem_or_eq_of_mem_set hx with h1 | h1
  ·exact h.2 x h1
  ·have := h.2 y (qZ_ hm); rw [h1]; show -1000000 <= y.w - 1 /\ y.w - 1 <= 1000000; omega
theorem To {R : List I} {m : Nat} {y : I} (h : R[m]? = some y) (z : I) : R = R.take m ++ y :: R.drop (m + 1) /\ R.set m z = R.take m ++ z :: R.drop (m + 1) := by
 obtain ⟨hl, e⟩ := qQ9.1 h
 constructor
 ·rw [<- e, List.getElem_cons_drop, List.take_append_drop]
 ·exact List.set_eq_take_append_cons_drop.trans (by rw [if_pos hl])
theorem Ua {es : List E} {a b c d : Z} (h1 : a.1 = c.1) (h2 : b.1 = d.1) : qQ es a b = qQ es c d := by unfold qQ; rw [h1, h2]
theorem M9 (a b : List Z) : yY (a ++ b) = yY a ++ yY b := List.filter_append ..
theorem V8 {es : List E} {R : List I} {m : Nat} {y : I} (hm : R[m]? = some y) (hy : 0 < y.w) (hu : (R.map zg).Pairwise (fun a b => zZ a.1 b.1 < 0)) (hmin : ∀ (i : Nat) (x : I), R[i]? = some x -> 0 < x.w -> qQ es (zg y) (zg x) <= 0) (k : Nat) :
  qO (k + 1) (yI es (yY (R.map zg))) = (y.row, 1) :: qO k (yI es (yY ((R.set m { y with w := y.w - 1 }).map zg))) := by
 obtain ⟨e1, e2⟩ := To hm { y with w := y.w - 1 }; obtain ⟨P1, hP1⟩ : ∃ P, yY ((R.take m).map zg) = P := ⟨_, rfl⟩
 obtain ⟨P2, hP2⟩ : ∃ P, yY ((R.drop (m + 1)).map zg) = P := ⟨_, rfl⟩
 have ep : yY (R.map zg) = P1 ++ zg y :: P2 := by
  rw [e1, List.map_append, List.map_cons, M9, hP1]; congr 1; unfold yY at hP2 ⊢; rw [List.filter_cons, if_pos (decide_eq_true (show 0 < (zg y).2 from hy)), hP2]
 have up : (P1 ++ zg y :: P2).Pairwise (fun a b => zZ a.1 b.1 < 0) := by rw [<- ep]; exact List.Pairwise.filter _ hu
 have up0 : (P1 ++ P2).Pairwise (fun a b => zZ a.1 b.1 < 0) := by
  refine List.Pairwise.sublist ?_ up; exact List.Sublist.append (List.Sublist.refl _) (List.sublist_cons_self ..)
 have le : ∀ x ∈ P1 ++ P2, qQ es (zg y) x <= 0 := fun x hx => by
  have h1 : x ∈ yY (R.map zg) := by
   rw [ep]; rcases List.mem_append.1 hx with h | h
   ·exact List.mem_append_left _ h
   ·exact List.mem_append_right _ (List.mem_cons_of_mem _ h)
  obtain ⟨h2, h3⟩ := List.mem_filter.1 h1; obtain ⟨u, hu, rfl⟩ := List.mem_map.1 h2; obtain ⟨i, hi, e⟩ := List.mem_iff_getElem.1 hu; exact hmin i u vl_ (of_decide_eq_true h3)
 have s1 : yI es (yY (R.map zg)) = zg y :: yI es (P1 ++ P2) := by
  rw [ep]; symm; refine Zv up ?_ ?_
  ·exact yJ_
  ·rw [List.pairwise_cons]; exact ⟨fun x hx => le x ((yL es (P1 ++ P2)).mem_iff.1 hx), Zw es _⟩
 have s2 : yI es (yY ((R.set m { y with w := y.w - 1 }).map zg)) = if y.w <= 1 then yI es (P1 ++ P2) else (y.row, y.w - 1) :: yI es (P1 ++ P2) := by
  rw [e2, List.map_append, List.map_cons, M9, hP1]
  by_cases h1 : y.w <= 1
  ·rw [if_pos h1]; congr 2; unfold yY at hP2 ⊢; rw [List.filter_cons, if_neg (by simp [zg]; omega), hP2]
  ·rw [if_neg h1]
   have e3 : yY (zg { y with w := y.w - 1 } :: (R.drop (m + 1)).map zg) = (y.row, y.w - 1) :: P2 := by
    unfold yY at hP2 ⊢; rw [List.filter_cons, if_pos (by simp [zg]; omega), hP2]; rfl
   rw [e3]; symm
   have up2 : (P1 ++ ((y.row, y.w - 1) : Z) :: P2).Pairwise (fun a b => zZ a.1 b.1 < 0) := by
    rw [List.pairwise_append, List.pairwise_cons] at up ⊢; refine ⟨up.1, ⟨fun x hx => up.2.1.1 x hx, up.2.1.2⟩, fun a ha b hb => ?_⟩; rcases List.mem_cons.1 hb with h | h
    ·rw [h]; exact up.2.2 a ha (zg y) (List.mem_cons_self ..)
    ·exact up.2.2 a ha b (List.mem_cons_of_mem _ h)
   refine Zv up2 ?_ ?_
   ·exact yJ_
   ·rw [List.pairwise_cons]; exact ⟨fun x hx => by rw [Ua (a := (y.row, y.w - 1)) (c := zg y) (d := x) rfl rfl]; exact le x ((yL es (P1 ++ P2)).mem_iff.1 hx), Zw es _⟩
 rw [s1, s2]; rfl
theorem V6 {es : List E} {R : List I} (h : ∀ (i : Nat) (x : I), R[i]? = some x -> x.w <= 0) (k : Nat) : qO k (yI es (yY (R.map zg))) = [] := by
 have e : yY (R.map zg) = [] := by
  unfold yY; rw [List.filter_eq_nil_iff]; intro a ha; obtain ⟨u, hu, rfl⟩ := List.mem_map.1 ha; obtain ⟨i, hi, e⟩ := List.mem_iff_getElem.1 hu; have := h i u vl_; rw [decide_eq_true_eq]; show ¬ 0 < u.w; omega
 rw [e]; have : yI es [] = [] := by unfold yI; exact List.mergeSort_nil ..
 rw [this]; cases k <;> rfl
def kt (es : List E) (R : List I) (j : Nat) (b : Value) : Prop := (b = .int .i64 (-1) /\ ∀ (i : Nat) (x : I), i < j -> R[i]? = some x -> x.w <= 0) \/ ∃ (m : Nat) (y : I), m < j /\ b = .int .i64 (m : Int) /\ R[m]? = some y /\ 0 < y.w /\ ∀ (i : Nat) (x : I), i < j -> R[i]? = some x -> 0 < x.w -> qQ es (zg y) (zg x) <= 0
theorem kt.skip {es : List E} {R : List I} {j : Nat} {b : Value} {x : I} (h : kt es R j b) (hx : R[j]? = some x) (hw : x.w <= 0) : kt es R (j + 1) b := by
 rcases h with ⟨h1, h2⟩ | ⟨m, y, h1, h2, h3, h4, h5⟩
 ·refine .inl ⟨h1, fun i u hi hu => ?_⟩; rcases Nat.lt_or_ge i j with h | h
  ·exact h2 i u h hu
  ·obtain rfl : i = j := by omega
   rw [hx] at hu; cases hu; exact hw
 ·refine .inr ⟨m, y, by omega, h2, h3, h4, fun i u hi hu hp => ?_⟩; rcases Nat.lt_or_ge i j with h | h
  ·exact h5 i u h hu hp
  ·obtain rfl : i = j := by omega
   rw [hx] at hu; cases hu; omega
theorem JG (es : List E) (a : Z) : qQ es a a = 0 := by
 have := ZT es a a; omega
theorem kt.first {es : List E} {R : List I} {j : Nat} {x : I} (h : ∀ (i : Nat) (x : I), i < j -> R[i]? = some x -> x.w <= 0) (hx : R[j]? = some x) (hw : 0 < x.w) : kt es R (j + 1) (.int .i64 (j : Int)) := by
 refine .inr ⟨j, x, by omega, rfl, hx, hw, fun i u hi hu hp => ?_⟩; rcases Nat.lt_or_ge i j with h1 | h1
 ·have := h i u h1 hu; omega
 ·exact yo_
theorem kt.take {es : List E} {R : List I} {j m : Nat} {x y : I} (h5 : ∀ (i : Nat) (x : I), i < j -> R[i]? = some x -> 0 < x.w -> qQ es (zg y) (zg x) <= 0) (hx : R[j]? = some x) (hw : 0 < x.w) (hc : zC zH (es.map (yd x.row)) (es.map (yd y.row)) < 0) : kt es R (j + 1) (.int .i64 (j : Int)) := by
 have h0 : qQ es (zg x) (zg y) <= 0 := by
  show (if zC zH (es.map (yd x.row)) (es.map (yd y.row)) ≠ 0 then zC zH (es.map (yd x.row)) (es.map (yd y.row)) else zC zH x.row y.row) <= 0; rw [if_pos u4_]; omega
 refine .inr ⟨j, x, by omega, rfl, hx, hw, fun i u hi hu hp => ?_⟩; rcases Nat.lt_or_ge i j with h1 | h1
 ·exact Wb es _ _ _ h0 (h5 i u h1 hu hp)
 ·exact yo_
theorem kt.keep {es : List E} {R : List I} {j m : Nat} {x y : I} (hu : (R.map zg).Pairwise (fun a b => zZ a.1 b.1 < 0)) (hm : m < j) (hy : R[m]? = some y) (hyw : 0 < y.w) (h5 : ∀ (i : Nat) (x : I), i < j -> R[i]? = some x -> 0 < x.w -> qQ es (zg y) (zg x) <= 0) (hx : R[j]? = some x) (hc : ¬ zC zH (es.map (yd x.row)) (es.map (yd y.row)) < 0) : kt es R (j + 1) (.int .i64 (m : Int)) := by
 have hxy : zZ y.row x.row < 0 := by
  obtain ⟨h1, e1⟩ := qQ9.1 hy; obtain ⟨h2, e2⟩ := qQ9.1 hx; have := List.pairwise_iff_getElem.1 hu m j uM_ uQ_ hm; rw [List.getElem_map, List.getElem_map, e1, e2] at this; exact this
 have h0 : qQ es (zg y) (zg x) <= 0 := by
  have sw := yu zH yr (es.map (yd x.row)) (es.map (yd y.row)); show (if zC zH (es.map (yd y.row)) (es.map (yd x.row)) ≠ 0 then zC zH (es.map (yd y.row)) (es.map (yd x.row)) else zC zH y.row x.row) <= 0; split
  ·omega
  ·unfold zZ at hxy; omega
 refine .inr ⟨m, y, by omega, rfl, hy, hyw, fun i u hi hu hp => ?_⟩; rcases Nat.lt_or_ge i j with h1 | h1
 ·exact h5 i u h1 hu hp
 ·obtain rfl : i = j := by omega
  rw [hx] at hu; cases hu; exact h0
theorem WI (w : World) : (w.alloc (.cells #[] 59)).ownsRow w.heap.size 59 2 (.slice (some ⟨w.heap.size, 0, none⟩) 0 0) 0 (zx []) :=
 ⟨rfl, .inr ⟨w.heap.size, 0, #[], rfl, Nat.le_refl _, heap_alloc_new w _, Nat.le_refl _, by unfold maxLen; omega, rfl, rfl⟩⟩
theorem SK {w : World} {base n : Nat} {v : Value} {xs : List I} (h : w.ownsRow base 59 2 v n (zx xs)) : ∃ (g : Nat) (B : Option Addr) (cap : Nat), v = .slice B n cap /\ n = xs.length /\ base <= g /\ (xs ≠ [] -> B = some ⟨g, 0, none⟩ /\ ZI w g xs) := by
 have hn := h.1; rw [yW] at hn; have hn : n = xs.length := by omega
 have h0 := h; rcases h.2 with ⟨e, h1⟩ | ⟨g, cap, cur, e, hB, _⟩
 ·subst h1; exact ⟨base, none, 0, e, hn, Nat.le_refl _, fun hne => absurd (List.length_eq_zero_iff.1 hn.symm) hne⟩
 ·subst e; exact ⟨g, _, cap, rfl, hn, hB, fun _ => ⟨rfl, (U5 h0).1⟩⟩
theorem VD (cols : List Int) (Ac : Option Addr) (cc : Nat) (es : List E) (Ae : Option Addr) (ce : Nat) (k : Int) (s : S) (w : World) (hlen : cols.length <= 9223372036854775807) (hle : es.length <= 9223372036854775807) (hc : yD w Ac cols) (hE : Xa w Ae es) (hs : In w s) :
  Calls Tryz.prog 65 #[.slice Ac cols.length cc, .slice Ae es.length ce, .int .i64 k, .slice s.A s.xs.length s.cap] w fun en w' => z0 w w' en (Qn cols es k s.z) := by
 obtain ⟨A, xs, c⟩ := s; have H := hh_ hs; have HX := hh_ hE; have ct := YX cols Ac cc es Ae ce w hlen hle hc hE; have ci := fun W (hg : za w W) => qC cols Ac cc xs A c W hlen (hc.grow hg) (hs.grow hg)
 obtain ⟨TS, TE, hTE⟩ : ∃ TS TE, zE cols es = (TS, TE) := ⟨_, _, rfl⟩
 obtain ⟨IE, hIE⟩ : ∃ IE, zO cols (xs.map zg) = IE := ⟨_, rfl⟩
 rw [hTE] at ct; rw [hIE] at ci; obtain ⟨Q, hQ⟩ : ∃ Q, Qn cols es k (xs.map zg) = Q := ⟨_, rfl⟩
 rw [show S.z ⟨A, xs, c⟩ = xs.map zg from rfl, hQ]; have fin : Q = if TE ≠ 0 then ([], TE) else if k < 0 \/ 50 < k then ([], 3) else if IE ≠ 0 then ([], IE) else yZ (yJ k (yI es (yz xh (xs.map zg)))) := by rw [<- hQ]; unfold Qn; rw [hTE, hIE]
 have Fin := hh_ fin; have HQ := hh_ hQ; have HTE := hh_ hTE; have HIE := hh_ hIE; clear hs hc hE hTE hIE hQ fin; go_enter Tryz.func65, Tryz.ntmps65
 by_cases h0 : TE = 0
 ·by_cases hk1 : k < 0 \/ 50 < k
  ·have eQ : Q = ([], 3) := by rw [Fin.out, if_neg uI_, if_pos hk1]
   subst h0; rcases hk1 with hk1 | hk1
   ·have d1 : decide (k < 0) = true := decide_eq_true hk1
    go_wp2_with (go_at_call 25; ((with_reducible refine ct.mono ?_); rintro e w2 ⟨BT, capT, rfl, _, _, hg2⟩))
    refine qX_ o1_ rfl ?_; exact ⟨none, [], 0, by rw [eQ]; rfl, zy _ _, by rw [eQ]; rfl, zX.nil, hg2⟩
   ·have d1 : decide (k < 0) = false := decide_eq_false u4_; have d2 : decide (50 < k) = true := decide_eq_true hk1
    go_wp2_with (go_at_call 25; ((with_reducible refine ct.mono ?_); rintro e w2 ⟨BT, capT, rfl, _, _, hg2⟩))
    refine qX_ o1_ rfl ?_; exact ⟨none, [], 0, by rw [eQ]; rfl, zy _ _, by rw [eQ]; rfl, zX.nil, hg2⟩
  ·have d1 : decide (k < 0) = false := decide_eq_false u4_; have d2 : decide (50 < k) = false := decide_eq_false u4_
   by_cases h1 : IE = 0
   ·subst h0 h1; obtain ⟨k0, rfl⟩ : ∃ k0 : Nat, k = k0 := ⟨k.toNat, by omega⟩
    have hk50 : k0 <= 50 := by omega
    have eQ : Q = (yC (qO k0 (yI es (yY (xs.map zg)))), 0) := by
     rw [<- HQ.out]; exact V7 (by rw [HTE.out]) hk50 HIE.out
    have EQ := hh_ eQ; obtain ⟨_, hwz, hfit⟩ := zt HIE.out; obtain ⟨a1, a2, a3, a4⟩ := S.facts (s := ⟨A, xs, c⟩) hwz; have a1 : xs.length <= 400 := a1; have smz := SM.of hwz; have A2 := hh_ (show ∀ y ∈ xs, y.row.length <= 8 from a2); have A4 := hh_ (show ∀ y ∈ xs, -1000000 <= y.w /\ y.w <= 1000000 from a4); have Hfit := hh_ (show ∀ y ∈ xs, ja cols y.row from fun y hy => (yo _ _).1 (hfit (zg y) (qZ9 hy))); have Hrv := hh_ (show ∀ y ∈ xs, ∀ v ∈ y.row, RV v from fun y hy => smz.rv (zg y) (qZ9 hy)); have Hup := hh_ smz.up; obtain ⟨he8, hty⟩ := xo (by rw [HTE.out] : (zE cols es).2 = 0); have Hty := hh_ (show ∀ x ∈ es, ∃ T, wt cols x T from fun x hx => by obtain ⟨T, hok⟩ := xk (hty x hx); exact ⟨T, hok.ty⟩); clear eQ hwz hfit a2 a3 a4 hty smz hk1
    go_upto_region 10 with (first
     | (go_at_call 25; ((with_reducible refine ct.mono ?_); rintro e w2 ⟨BT, capT, rfl, _, _, hg2⟩))
     | (go_at_call 31; ((with_reducible refine (ci _ hg2).mono ?_); rintro e w3 ⟨rfl, hg3⟩)))
    have G3 := hg2.trans hg3; clear ct ci; go_upto_region 11 with (at_builtin; refine zi rfl _ _ rfl w3.heap.size _ 0 [] rfl (WI w3) _ xs rfl (Ry H.out.sl (H.out.z.grow zd)) u4_ u5_ ?_; intro v4 w4 own4 gr4); have G4 : za w3 w4 := zp zd gr4 (WI w3); rw [List.nil_append] at own4; obtain ⟨g, B, cap, rfl, hn, hbase, hdb⟩ := SK own4; rw [hn]; have DB4 := hh_ hdb; clear own4 gr4 hdb hn d1 d2; go_wp2
    go_loopw [13, 2] (fun t i wr => ∃ (k : Nat) (R : List I) (OL : List Z), k <= k0 /\ i = .int .i64 k /\ jK w3 g wr t OL /\ OL.length + k = k0 /\ OL ++ qO k (yI es (yY (R.map zg))) = qO k0 (yI es (yY (xs.map zg))) /\ YB xs R /\ (xs ≠ [] -> ZI wr g R) /\ GX g w4 wr) (fun _ i _ => (intOf i).toNat)
    case atStart => exact ⟨k0, xs, [], Nat.le_refl _, rfl, jK.nil _ _ _ G4, by simp, rfl, ⟨rfl, A4.out⟩, fun h => (DB4.out h).2, GX.refl _ _⟩
    case round =>
     rename World => wr
     obtain ⟨k, R, OL, hk, rfl, hp, hol, hinv, hrest, hdb, hgx⟩ := hrel; obtain ⟨Bt, nt, ct, rfl⟩ := hp.slice; have P := hh_ hp; have xP := hh_ hinv; have Rest := hh_ hrest; have DBr := hh_ hdb; have Gr : za w3 wr := GX.base G4 hbase hgx; have lR := hrest.len; have upR := hh_ (hrest.up Hup.out); clear hp hinv hrest hdb
     by_cases hk9 : 0 < k
     ·have dk : decide (0 < (k : Int)) = true := decide_eq_true u4_; go_wp2
      go_loopw [15, 48] (fun b i w5 => ∃ j : Nat, j <= xs.length /\ i = .int .i64 j /\ kt es R j b /\ za wr w5) (fun _ i _ => xs.length - (intOf i).toNat)
      case atStart => exact ⟨0, Nat.zero_le _, rfl, .inl ⟨rfl, fun i x h => by omega⟩, za.refl _⟩
      case round =>
       rename World => w5
       obtain ⟨j, hj, rfl, hbest, hg5⟩ := hrel; have Best := hh_ hbest; clear hbest
       by_cases hlt : j < xs.length
       ·have hne : xs ≠ [] := fun e => by rw [e] at hlt; simp at hlt
        obtain ⟨rfl, _⟩ := DB4.out hne; have db5 := (DBr.out hne).grow hg5; obtain ⟨x, hxk⟩ : ∃ x, R[j]? = some x := ⟨_, qQ_ u4_⟩
        obtain ⟨c1, c2⟩ := db5.at hxk; have hm := qZ_ hxk; obtain ⟨x0, hx0, e1, e2, e3⟩ := Rest.out.mem hm; have lx := A2.out x0 hx0; have fx := hh_ (Hfit.out x0 hx0); have vx := hh_ ((H.out.z.vsl x0 hx0).grow (G3.trans (Gr.trans hg5))); rw [e2] at lx fx; rw [e1, e2] at vx; have HXK := hh_ hxk; have DB5 := hh_ db5; clear hxk hm hx0 e1 e2 e3 db5; go_upto_region 17 with fail
        refine zb (fun Z1 => zc Z1 w5.heap.size 59 #[.slice x.A x.row.length x.cap, .int .i64 x.w] /\ za w5 Z1) ⟨zc.new _ _ _, (za.refl w5).al _⟩ ?_; rintro Z1 ⟨Bz, Gz⟩; have BZ := hh_ Bz; obtain ⟨bz, fz⟩ := Bz.rules; clear Bz c1 c2; generalize w5.heap.size = gz at *
        by_cases hw : x.w <= 0
        ·have dw : decide (x.w <= 0) = true := decide_eq_true hw; go_wp2; go_roundw
         case rel => exact ⟨j + 1, by omega, by go_num, Best.out.skip HXK.out hw, hg5.trans Gz⟩
         case measure => exact wa_
        ·have dw : decide (x.w <= 0) = false := decide_eq_false hw; rcases Best.out with ⟨rfl, hno⟩ | ⟨m, y, hmj, rfl, hym, hyw, hmin⟩
         ·go_upto_region 18 with fail
          clear bz fz; apply ze 17 uY_ uY_
          case h' =>
           intro Q0 hQ0; simp only [List.take_succ_cons, List.take_zero]
           repeat ((first | ((first | apply zu rfl | apply zw rfl rfl rfl); case h1 => (intro w1 hw1 hF K hK; obtain ⟨bz, fz⟩ := (BZ.out.grow hw1).rules; go_simp; first | exact hK _ (za.refl _))) | apply zz rfl rfl rfl rfl); intro K hK; go_simp; apply hK; clear hK K)
           refine zo ?_; intro w1 hw1 hF; apply hQ0; clear hQ0; simp only [List.drop_succ_cons, List.drop_zero]; clear hF; go_wp2; go_roundw
           case rel => exact ⟨j + 1, by omega, by go_num, kt.first hno HXK.out u4_, hg5.trans (Gz.trans hw1)⟩
           case measure => exact wa_
          case hp' => trivial
         ·obtain ⟨y0, hy0, e1, e2, e3⟩ := Rest.out.mem (qZ_ hym); have ly := A2.out y0 hy0; have fy := hh_ (Hfit.out y0 hy0); have vy := hh_ ((H.out.z.vsl y0 hy0).grow (G3.trans (Gr.trans hg5))); rw [e2] at ly fy; rw [e1, e2] at vy; obtain ⟨cm1, _⟩ := (DB5.out.grow Gz).at hym; have b0 : (0 : Int) <= (m : Int) := by omega
          have b1 : (m : Int) < (xs.length : Int) := by omega
          have cvx := fun W (h : za w5 W) => jk es Ae ce x.row x.A x.cap W u4_ u4_ (HX.out.grow (G3.trans (Gr.trans (hg5.trans h)))) cols Hty.out fx.out (vx.out.grow h)
          have cvy := fun W (h : za w5 W) => jk es Ae ce y.row y.A y.cap W u4_ u4_ (HX.out.grow (G3.trans (Gr.trans (hg5.trans h)))) cols Hty.out fy.out (vy.out.grow h)
          obtain ⟨KX, hKX⟩ : ∃ q, es.map (yd x.row) = q := ⟨_, rfl⟩
          obtain ⟨KY, hKY⟩ : ∃ q, es.map (yd y.row) = q := ⟨_, rfl⟩
          have lkx : KX.length = es.length := by rw [<- hKX]; simp
          have lky : KY.length = es.length := by rw [<- hKY]; simp
          rw [hKX] at cvx; rw [hKY] at cvy; have cr := fun B1 c1 B2 c2 W (h1 : yS W B1 KX) (h2 : yS W B2 KY) => kT KX KY B1 B2 c1 c2 W u4_ u4_ h1 h2
          rw [lkx, lky] at cr; obtain ⟨d, hd⟩ : ∃ d, zC zH KX KY = d := ⟨_, rfl⟩
          rw [hd] at cr; have Hd := hh_ (show zC zH (es.map (yd x.row)) (es.map (yd y.row)) = d by rw [hKX, hKY]; exact hd); have Lkx := hh_ lkx; have Lky := hh_ lky; have Hym := hh_ hym; have Hmin := hh_ hmin; have CM := hh_ cm1; have dm : decide ((m : Int) < 0) = false := decide_eq_false u4_; clear hd hKX hKY lkx lky hym hmin hy0 e1 e2 e3 cm1; go_upto_region 18 with fail
          clear bz fz; apply ze 17 uY_ uY_
          case h' =>
           intro Q0 hQ0; simp only [List.take_succ_cons, List.take_zero]
           repeat ((first | ((first | apply zu rfl | apply zw rfl rfl rfl); case h1 => (intro w1 hw1 hF K hK; obtain ⟨bz, fz⟩ := (BZ.out.grow hw1).rules; have cm1 := hw1.cell CM.out; go_simp; first | exact hK _ (za.refl _))) | apply zz rfl rfl rfl rfl); intro K hK; go_simp; apply hK; clear hK K)
           apply K4 (F9 es.length KX) rfl rfl rfl
           case h1 =>
            intro w1 hw1 hF K1 hK1; go_simp
            go_at_call 102
            refine (cvx w1 (Gz.trans hw1)).mono ?_; rintro en w' ⟨B, cap, rfl, ho, hg'⟩; exact ⟨_, rfl, hK1 _ _ hg' ⟨B, cap, rfl, Lz Lkx.out ho⟩⟩
           intro v62 K1 hK1; go_simp; apply hK1; clear hK1 K1
           repeat ((first | ((first | apply zu rfl | apply zw rfl rfl rfl); case h1 => (intro w1 hw1 hF K hK; obtain ⟨bz, fz⟩ := (BZ.out.grow hw1).rules; have cm1 := hw1.cell CM.out; go_simp; first | exact hK _ (za.refl _))) | apply zz rfl rfl rfl rfl); intro K hK; go_simp; apply hK; clear hK K)
           apply K4 (F9 es.length KY) rfl rfl rfl
           case h1 =>
            intro w1 hw1 hF K1 hK1; go_simp
            go_at_call 102
            refine (cvy w1 (Gz.trans hw1)).mono ?_; rintro en w' ⟨B, cap, rfl, ho, hg'⟩; exact ⟨_, rfl, hK1 _ _ hg' ⟨B, cap, rfl, Lz Lky.out ho⟩⟩
           intro v69 K1 hK1; go_simp; apply hK1; clear hK1 K1; apply zw rfl rfl rfl
           case h1 =>
            intro w1 hw1 hF K1 hK1; obtain ⟨B2, c2, hv2, h2⟩ := hF _ (List.mem_cons_self ..) ⟨_, rfl, by decide⟩; obtain ⟨B1, c1, hv1, h1⟩ := hF _ (List.mem_cons_of_mem _ (List.mem_cons_self ..)) ⟨_, rfl, by decide⟩; subst hv1 hv2; go_simp
            go_at_call 98
            refine (cr B1 c1 B2 c2 w1 h1 h2).mono ?_; rintro en w' ⟨rfl, hg'⟩; exact ⟨_, rfl, hK1 _ hg'⟩
           intro K1 hK1; go_simp; apply hK1; clear hK1 K1
           repeat ((first | ((first | apply zu rfl | apply zw rfl rfl rfl); case h1 => (intro w1 hw1 hF K hK; obtain ⟨bz, fz⟩ := (BZ.out.grow hw1).rules; go_simp; first | exact hK _ (za.refl _))) | apply zz rfl rfl rfl rfl); intro K hK; go_simp; apply hK; clear hK K)
           refine zo ?_; intro w1 hw1 hF; apply hQ0; clear hQ0; simp only [List.drop_succ_cons, List.drop_zero]; clear hF
           by_cases hd0 : d < 0
           ·have dd : decide (d < 0) = true := decide_eq_true hd0; go_wp2; go_roundw
            case rel => exact ⟨j + 1, by omega, by go_num, kt.take (m := m) Hmin.out HXK.out u4_ (by rw [Hd.out]; exact hd0), hg5.trans (Gz.trans hw1)⟩
            case measure => exact wa_
           ·have dd : decide (d < 0) = false := decide_eq_false hd0; go_wp2; go_roundw
            case rel => exact ⟨j + 1, by omega, by go_num, kt.keep upR.out hmj Hym.out hyw Hmin.out HXK.out (by rw [Hd.out]; exact hd0), hg5.trans (Gz.trans hw1)⟩
            case measure => exact wa_
          case hp' => exact xw_
       ·obtain rfl : j = xs.length := by omega
        rcases Best.out with ⟨rfl, hno⟩ | ⟨m, y, hmj, rfl, hym, hyw, hmin⟩
        ·have e9 := xP.out; rw [V6 (fun i x hx => hno i x oD_ hx), List.append_nil] at e9; obtain ⟨⟨B9, ys, cap9, e8, hz, hm, hk2, _⟩, hg', _⟩ := P.out.more hg5; simp only [Value.slice.injEq] at e8; obtain ⟨rfl, rfl, rfl⟩ := e8; have Out := hh_ (And.intro hz (And.intro hm hk2)); rw [e9] at Out; clear hz hm hk2 e9; go_wp2; refine qX_ o1_ rfl ?_; exact ⟨_, ys, _, by rw [EQ.out], Out.out.1, by rw [EQ.out]; exact Out.out.2.1, Out.out.2.2, G3.trans hg'⟩
        ·have hne : xs ≠ [] := fun e => by rw [e] at hmj; simp at hmj
         obtain ⟨rfl, _⟩ := DB4.out hne; have db5 := (DBr.out hne).grow hg5; obtain ⟨c1, c2⟩ := db5.at hym; have fz := db5.frozen (m * 2 + 1); obtain ⟨y0, hy0, e1, e2, e3⟩ := Rest.out.mem (qZ_ hym); have ly := A2.out y0 hy0; have rvy := hh_ (Hrv.out y0 hy0); have vy := hh_ (H.out.z.vsl y0 hy0); rw [e2] at ly rvy; rw [e1, e2] at vy; obtain ⟨wy1, wy2⟩ := Rest.out.2 y (qZ_ hym); have hwp : IntKind.i64.wrap (y.w - 1) = y.w - 1 := by rw [IntKind.wrap_i64]; omega
         have st := hh_ (V8 hym hyw upR.out (fun i x hx hp => hmin i x oD_ hx hp) (k - 1)); have dec := hh_ (Rest.out.dec hym hyw); have DBd := hh_ (db5.dec hym (y.w - 1)); have GXd := GX.set (hgx.grow hg5) (m * 2 + 1) (.int .i64 (y.w - 1)); have Pd := hh_ ((P.out.more hg5).gx (GX.set (GX.refl g w5) (m * 2 + 1) (.int .i64 (y.w - 1))) hbase); have b0 : (0 : Int) <= (m : Int) := by omega
         have b1 : (m : Int) < (xs.length : Int) := by omega
         have hml := (qQ9.1 hym).1; have Hym := hh_ hym; have dm : decide ((m : Int) < 0) = false := decide_eq_false u4_; clear db5 hym hmin hy0 e1 e2 e3; go_upto_region 23 with fail
         refine zb (fun Z1 => ZI Z1 g (R.set m { y with w := y.w - 1 }) /\ GX g w4 Z1 /\ jK w3 g Z1 (.slice Bt nt ct) OL) ⟨DBd.out, GXd, Pd.out⟩ ?_; rintro Z1 ⟨db6, gx6, p6⟩; obtain ⟨c3, _⟩ := db6.at (x := { y with w := y.w - 1 }) (i := m) (by rw [List.getElem?_set_self hml]); have DB6 := hh_ db6; have P6 := hh_ p6; have lt6 := db6.lt; have Gr6 : za w3 Z1 := GX.base G4 hbase gx6; have cp := SQ P6.out lt6 y.row y.A y.cap 1 (vy.out.grow (G3.trans Gr6)) u4_ rvy.out u4_ u4_; clear c1 c2 fz DBd GXd Pd db6 p6; have hwk : IntKind.i64.wrap ((k : Int) - 1) = ((k - 1 : Nat) : Int) := by rw [IntKind.wrap_i64]; omega
         go_wp2_with (go_at_call 56; (with_reducible refine cp.mono ?_); rintro e w7 ⟨v7, rfl, hp7, hg7⟩; have P7 := hh_ hp7; clear hp7)
         go_roundw
         case rel => exact ⟨k - 1, R.set m { y with w := y.w - 1 }, OL ++ [(y.row, 1)], by omega, by go_num, P7.out, by simp; omega, by have h1 := xP.out; rw [show k = (k - 1) + 1 by omega, st.out] at h1; rw [List.append_assoc]; exact h1, dec.out, fun _ => DB6.out.grow hg7, gx6.grow hg7⟩
         case measure => exact wa_
     ·obtain rfl : k = 0 := by omega
      have e9 := xP.out; rw [show qO 0 (yI es (yY (R.map zg))) = [] from rfl, List.append_nil] at e9; obtain ⟨⟨B9, ys, cap9, e8, hz, hm, hk2, _⟩, hg', _⟩ := P.out; simp only [Value.slice.injEq] at e8; obtain ⟨rfl, rfl, rfl⟩ := e8; have Out := hh_ (And.intro hz (And.intro hm hk2)); rw [e9] at Out; clear hz hm hk2 e9; go_wp2; refine qX_ o1_ rfl ?_; exact ⟨_, ys, _, by rw [EQ.out], Out.out.1, by rw [EQ.out]; exact Out.out.2.1, Out.out.2.2, G3.trans hg'⟩
   ·have eQ : Q = ([], IE) := by rw [Fin.out, if_neg uI_, if_neg hk1, if_pos h1]
    have d3 : (IE != 0) = true := by simpa using h1
    subst h0
    go_wp2_with (first
     | (go_at_call 25; ((with_reducible refine ct.mono ?_); rintro e w2 ⟨BT, capT, rfl, _, _, hg2⟩))
     | (go_at_call 31; ((with_reducible refine (ci _ hg2).mono ?_); rintro e w3 ⟨rfl, hg3⟩)))
    refine qX_ o1_ rfl ?_; exact ⟨none, [], 0, by rw [eQ]; rfl, zy _ _, by rw [eQ]; rfl, zX.nil, hg2.trans hg3⟩
 ·have d0 : (TE != 0) = true := by simpa using h0
  have eQ : Q = ([], TE) := by rw [Fin.out, if_pos h0]
  go_wp2_with (go_at_call 25; ((with_reducible refine ct.mono ?_); rintro e w2 ⟨BT, capT, rfl, _, _, hg2⟩))
  refine qX_ o1_ rfl ?_; exact ⟨none, [], 0, by rw [eQ]; rfl, zy _ _, by rw [eQ]; rfl, zX.nil, hg2⟩
