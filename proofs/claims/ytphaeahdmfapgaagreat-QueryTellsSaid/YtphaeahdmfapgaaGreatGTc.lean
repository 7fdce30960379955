/- Parts of a proof. No condition. -/
import Derived.Test.YtphaeahdmfapgaaGreatGTd
import Derived.Test.YtphaeahdmfapgaaGreatGVb
set_option maxRecDepth 100000
set_option maxHeartbeats 8000000
set_option maxRecDepth 100000
set_option linter.unusedSimpArgs false
set_option linter.unusedVariables false
namespace Go
variable {p : Prop}
theorem oV_ (h : p := by simp [results, Tryz.results53, go_sem] <;> rfl) : p := h
theorem xI_ (h : p := by
 obtain ⟨z, hz, h⟩ := jI (fun x hx => hp x (List.mem_cons_of_mem _ hx)) hy; exact ⟨z, List.mem_cons_of_mem _ hz, h⟩) : p := h
end Go
namespace Go.Proofs.YtphaeahdmfapgaaGreat
open Go.RowKit Go.Calm
abbrev DL (K : KS) : Value := .func (.func 95) #[] #[.pointer (some ⟨K.gk, 0, none⟩)]
def Cq (K : KS) : Cm (.q K.gk) I where
 A := I.A
 n := fun x => x.row.length
 cap := I.cap
 w := I.w
 b := fun _ => 0
 cmp := Wa K
 ans := R2 K
 tg := tg
 good := j0 K
 trans := NV
 swap := R6
 lt := Cg
 call := Ch K
theorem N6 (K : KS) : ∀ xs : List I, (Cq K).flat xs = zx xs
 | [] => rfl
 | x :: xs => by have h := N6 K xs; unfold Cm.flat at *; unfold zx; rw [<- h]; rfl
theorem LN {K : KS} (L : List I) (N c g : Nat) (w0 w : World) (hN : N = L.length) (hmax : N <= 500000) (hT : L.Pairwise tg) (hG : ∀ x ∈ L, j0 K g w0 x) (hg0 : GX g w0 w) (hd : ZI w g L) :
  Calls Tryz.prog 76 #[.slice (some ⟨g, 0, none⟩) N c, (DL K)] w fun en w' => en = .returned (.tuple #[]) /\ (∃ M' : List I, M'.Perm L /\ Gm K M' /\ ZI w' g M') /\ GX g w w' := by
 obtain ⟨rs, hd⟩ := hd; refine (LO (Cq K) rs L N c g w0 w hN hmax hT hG hg0 (by unfold DY; rw [N6]; exact hd)).mono ?_; rintro en w' ⟨rfl, ⟨M, p, u, d⟩, hg⟩; exact ⟨rfl, ⟨M, p, u, rs, by unfold DY at d; rw [N6] at d; exact d⟩, hg⟩
def TQ (w w' : World) (e : Ending) (r : List Z) : Prop := ∃ (B : Option Addr) (ys : List I) (cap : Nat), e = .returned (.tuple #[.slice B ys.length cap, .int .i64 0]) /\ w'.ownsRow w.heap.size 59 2 (.slice B ys.length cap) ys.length (zx ys) /\ (∀ y ∈ ys, ∃ g, y.A = some ⟨g, 0, none⟩ /\ DV w' g y.row) /\ ys.map zg = r /\ za w w'
theorem Se (f : Int -> Int) (hf : ∀ n W, -1000000 <= n -> n <= 1000000 -> Calls Tryz.prog 92 #[.int .i64 n] W fun e w' => e = .returned (.int .i64 (f n)) /\ za W w') (A : Option Addr) (xs : List I) (c : Nat) (w : World) (ha : In w ⟨A, xs, c⟩) (hw0 : zD (xs.map zg) = 0) :
  Calls Tryz.prog 91 #[.slice A xs.length c, .func (.func 92) #[] #[]] w fun en w' => TQ w w' en (yz f (xs.map zg)) := by
 have Ha := hh_ ha; have Hf := hh_ hf; clear ha hf; go_enter Tryz.func91, Tryz.ntmps91; obtain ⟨E, hE⟩ : ∃ E, zD (xs.map zg) = E := ⟨_, rfl⟩
 have cr := fun W (h1 : zc W w.heap.size 38 #[.slice A xs.length c]) (hg : za w W) => Xu ⟨A, xs, c⟩ w.heap.size W _ h1 (Ha.out.grow hg)
 rw [show zD (S.z ⟨A, xs, c⟩) = E from hE] at cr; have HE := hh_ hE; clear hE; go_upto_region 2 with (go_at_call 88; ((with_reducible refine (cr _ (zc.new _ _ _) zd).mono ?_); rintro e w2 ⟨rfl, hg2⟩)); have G2 := ((za.refl w).al _).trans hg2; clear cr
 by_cases h0 : E = 0
 ·have d0 : (E != 0) = false := by simpa using h0
  obtain ⟨a1, a2, a3, a4⟩ := S.facts (s := ⟨A, xs, c⟩) (HE.out.trans h0); have A2 := hh_ a2; have A4 := hh_ a4; clear a2 a3 a4; go_wp2
  go_loopw [7, 19] (fun t i wr => ∃ (k : Nat) (out : List I), k <= xs.length /\ i = .int .i64 k /\ wr.ownsRow w.heap.size 59 2 t out.length (zx out) /\ out.map zg = yz f ((xs.take k).map zg) /\ (∀ y ∈ out, ∃ g, y.A = some ⟨g, 0, none⟩ /\ DV wr g y.row) /\ out.length <= k /\ za w wr) (fun _ i _ => xs.length - (intOf i).toNat)
  case atStart => exact wQ_
  case round =>
   obtain ⟨k, out, hk, rfl, hown, hmap, hdv, hol, hg⟩ := hrel; have Own := hh_ hown; have Map := hh_ hmap; have Dvs := hh_ hdv; clear hown hmap hdv
   by_cases hlt : k < xs.length
   ·exact yT_
   ·obtain rfl : k = xs.length := by omega
    obtain ⟨B, cap, rfl⟩ := yg Own.out; have hm2 : out.map zg = yz f (xs.map zg) := by rw [Map.out, List.take_length]
    have Hm2 := hh_ hm2; clear hm2; go_wp2; refine qX_ oL_ rfl ?_; exact ⟨B, out, cap, rfl, Own.out, Dvs.out, Hm2.out, hg⟩
 ·exact absurd (HE.out.symm.trans hw0) h0
theorem Db (a : S) (w : World) (ha : In w a) (h0 : zD a.z = 0) :
  Calls Tryz.prog 50 #[.slice a.A a.xs.length a.cap] w fun en w' => TQ w w' en (yz xh a.z) := by
 have cs := Se xh (fun n W h1 h2 => Vf n W h1 h2) a.A a.xs a.cap w ha h0; go_enter Tryz.func50, Tryz.ntmps50
 go_wp2_with (go_at_call 91; ((with_reducible refine cs.mono ?_); rintro en w3 ⟨C, zs, cap2, rfl, hz3, hd3, hm, hg3⟩; have Fin := hh_ (And.intro hz3 (And.intro hd3 hm)); clear hz3 hd3 hm))
 refine qX_ oM_ rfl ?_; exact ⟨C, zs, cap2, rfl, Fin.out.1, Fin.out.2.1, Fin.out.2.2, hg3⟩
def qQ (es : List E) (a b : Z) : Int := if zC zH (es.map (yd a.1)) (es.map (yd b.1)) ≠ 0 then zC zH (es.map (yd a.1)) (es.map (yd b.1)) else zC zH a.1 b.1
theorem ZT (es : List E) (a b : Z) : qQ es b a = - qQ es a b := by
 have h1 := yu zH yr (es.map (yd a.1)) (es.map (yd b.1)); have h2 := yu zH yr a.1 b.1; unfold qQ; split <;> split <;> omega
theorem Wb (es : List E) (a b c : Z) (h1 : qQ es a b <= 0) (h2 : qQ es b c <= 0) : qQ es a c <= 0 := by
 have k := Yv (es.map (yd a.1)) (es.map (yd b.1)) (es.map (yd c.1)); have r := Yv a.1 b.1 c.1; unfold qQ at *; split at h1 <;> split at h2 <;> split <;> omega
theorem Ub {es : List E} {a b : Z} (h1 : qQ es a b <= 0) (h2 : qQ es b a <= 0) : zC zH a.1 b.1 = 0 := by
 rw [ZT] at h2; have h0 : qQ es a b = 0 := by omega
 unfold qQ at h0; split at h0
 ·rename_i h; exact absurd h0 h
 ·exact h0
def FI (es : List E) (a b : Z) : Bool := decide (qQ es a b <= 0)
def yI (es : List E) (l : List Z) : List Z := l.mergeSort (FI es)
theorem yL (es : List E) (l : List Z) : (yI es l).Perm l := List.mergeSort_perm l _
theorem Zw (es : List E) (l : List Z) : (yI es l).Pairwise (fun a b => qQ es a b <= 0) := by
 have h := List.pairwise_mergeSort (le := FI es) (fun a b c h1 h2 => by simp only [FI, decide_eq_true_eq] at *; exact Wb es a b c h1 h2) (fun a b => by
  simp only [FI, Bool.or_eq_true, decide_eq_true_eq]; have := ZT es a b
  omega) l
 refine List.Pairwise.imp (fun hab => ?_) h; simpa [FI] using hab
theorem M8 {α : Type} {R : α -> α -> Prop} : ∀ {l : List α}, l.Pairwise R -> ∀ {a b : α}, a ∈ l -> b ∈ l -> a = b \/ R a b \/ R b a
 | x :: l, h, a, b, ha, hb => by
  rw [List.pairwise_cons] at h; rcases List.mem_cons.1 ha with e1 | h1
  ·rcases List.mem_cons.1 hb with e2 | h2
   ·exact .inl (e1.trans e2.symm)
   ·exact .inr (.inl (by rw [e1]; exact h.1 b h2))
  ·rcases List.mem_cons.1 hb with e2 | h2
   ·exact .inr (.inr (by rw [e2]; exact h.1 a h1))
   ·exact M8 h.2 h1 h2
theorem Zv {es : List E} {l m : List Z} (hl : l.Pairwise (fun a b => zZ a.1 b.1 < 0)) (hp : m.Perm l) (hm : m.Pairwise (fun a b => qQ es a b <= 0)) : m = yI es l := by
 refine List.Perm.eq_of_pairwise (le := fun a b => qQ es a b <= 0) (fun a b ha hb h1 h2 => ?_) hm (Zw es l) (hp.trans (yL es l).symm); have h0 := Ub h1 h2; have ha := hp.mem_iff.1 ha; have hb := (yL es l).mem_iff.1 hb; rcases M8 hl ha hb with h | h | h
 ·exact h
 ·unfold zZ at h; omega
 ·unfold zZ at h; have := yu zH yr a.1 b.1; omega
def yJ : Int -> List Z -> List Z
 | _, [] => []
 | left, x :: l => if 0 < left then (x.1, if x.2 <= left then x.2 else left) :: yJ (left - if x.2 <= left then x.2 else left) l else yJ left l
def Qn (cols : List Int) (es : List E) (k : Int) (z : List Z) : List Z × Int := if (zE cols es).2 ≠ 0 then ([], (zE cols es).2) else if k < 0 \/ 50 < k then ([], 3) else if zO cols z ≠ 0 then ([], zO cols z) else yZ (yJ k (yI es (yz xh z)))
def DZ (l : List Z) : Prop := l.Pairwise (fun a b => zj a.1 ≠ zj b.1)
theorem F3 {l : List Z} {q : List V} (h : ∀ y ∈ l, zj y.1 ≠ zj q) : xe l q = 0 := by
 by_cases h0 : xe l q = 0
 ·exact h0
 ·obtain ⟨x, hx, e⟩ := LZ h0; exact absurd e (h x hx)
theorem DW : ∀ {l : List Z}, DZ l -> ∀ {y : Z}, y ∈ l -> xe l y.1 = y.2
 | x :: l, h, y, hy => by
  unfold DZ at h; rw [List.pairwise_cons] at h; rw [zv]; rcases List.mem_cons.1 hy with e | hy
  ·rw [e, if_pos rfl, F3 (fun z hz => Ne.symm (h.1 z hz))]; omega
  ·rw [if_neg (h.1 y hy), DW h.2 hy]; omega
theorem Xo {left : Int} (h : left <= 0) : ∀ M : List Z, yJ left M = []
 | [] => rfl
 | x :: M => by unfold yJ; rw [if_neg u4_, Xo h M]
theorem jI : ∀ {M : List Z} {left : Int}, (∀ x ∈ M, 0 < x.2) -> ∀ {y : Z}, y ∈ yJ left M -> ∃ x ∈ M, x.1 = y.1 /\ 0 < y.2 /\ y.2 <= x.2
 | x :: M, left, hp, y, hy => by
  have hx := hp x (List.mem_cons_self ..); unfold yJ at hy; split at hy
  ·rcases List.mem_cons.1 hy with e | hy
   ·refine ⟨x, List.mem_cons_self .., by rw [e], ?_, ?_⟩
    ·rw [e]; simp only; split <;> omega
    ·rw [e]; simp only; split <;> omega
   ·exact xI_
  ·exact xI_
theorem WZ : ∀ {M : List Z} {left : Int}, (∀ x ∈ M, 0 < x.2) -> DZ M -> DZ (yJ left M)
 | [], _, _, _ => List.Pairwise.nil
 | x :: M, left, hp, h => by
  unfold DZ at h; rw [List.pairwise_cons] at h; have hp' := fun y (hy : y ∈ M) => hp y (List.mem_cons_of_mem _ hy)
  unfold yJ; split
  ·unfold DZ; rw [List.pairwise_cons]; refine ⟨fun y hy => ?_, WZ hp' h.2⟩; obtain ⟨z, hz, e, _⟩ := jI hp' hy; have := h.1 z hz; rw [e] at this; exact this
  ·exact WZ hp' h.2
theorem FC {w : World} {g g' : Nat} {xs : List I} {row : List V} (h : ZI w g xs) (hd : DV w g' row) : g' ≠ g := by
 rintro rfl; obtain ⟨r, h⟩ := h; unfold DV zc at hd; unfold zc at h; rw [h] at hd; simp at hd
theorem VS (K : KS) (ys : List I) (B : Option Addr) (cap : Nat) (w3 w4 : World) (hg : za w3 w4) (own : w4.ownsRow w3.heap.size 59 2 (.slice B ys.length cap) ys.length (zx ys)) (hdv : ∀ y ∈ ys, ∃ g, y.A = some ⟨g, 0, none⟩ /\ DV w4 g y.row) (hl : ys.length <= 400) (ht : ys.Pairwise tg) (hr8 : ∀ y ∈ ys, y.row.length <= 8) (hrv : ∀ y ∈ ys, ∀ v ∈ y.row, RV v) (hre : ∀ y ∈ ys, ∀ e ∈ K.es, RE y.row.length e) (hkl : K.es.length <= 1000) (hk : zc w3 K.gk 25 #[.slice K.A K.es.length K.c]) (hes : Xa w3 K.A K.es) :
  Calls Tryz.prog 76 #[.slice B ys.length cap, (DL K)] w4 fun en w' => en = .returned (.tuple #[]) /\ (∃ M : List I, M.Perm ys /\ Gm K M /\ xc w' B M) /\ za w3 w' := by
 have own0 := own; rcases own.2 with ⟨e, h0⟩ | ⟨g, cap', cur, e, hB, hgb, _⟩
 ·simp at e; obtain ⟨rfl, h1, rfl⟩ := e; subst h1; refine (Nj (.q K.gk) w4).mono ?_; rintro en w' ⟨rfl, hg'⟩; exact ⟨rfl, ⟨[], List.Perm.refl _, List.Pairwise.nil, zy _ _⟩, hg.trans hg'⟩
 ·simp at e; obtain ⟨rfl, rfl⟩ := e; have db := (U5 own0).1; have base : ∀ W, GX g w4 W -> za w3 W := fun W h => GX.base hg hB h
  have good : ∀ y ∈ ys, j0 K g w4 y := fun y hy => by
   obtain ⟨g', eA, hd⟩ := hdv y hy; have hne := FC db hd; exact ⟨fun W h => by rw [eA]; exact DV.vsl (GX.blk h hne hd), fun W h => ⟨hk.grow (base W h), hes.grow (base W h)⟩, by have := hr8 y hy; omega, hkl, hrv y hy, hre y hy⟩
  refine (LN (K := K) ys ys.length cap g w4 w4 rfl u4_ ht good (GX.refl _ _) db).mono ?_; rintro en w' ⟨rfl, ⟨M, p, u, db'⟩, hgx⟩; refine ⟨rfl, ⟨M, p, u, db'.zin (fun x hx => ?_)⟩, base _ hgx⟩; exact (good x (p.mem_iff.1 hx)).sl _ hgx
theorem V5 (left : Int) {M : List I} {k : Nat} {x : I} (h : M[k]? = some x) : yJ left ((M.drop k).map zg) = if 0 < left then (x.row, if x.w <= left then x.w else left) :: yJ (left - if x.w <= left then x.w else left) ((M.drop (k + 1)).map zg) else yJ left ((M.drop (k + 1)).map zg) := wm_
theorem DC (cols : List Int) (Ac : Option Addr) (cc : Nat) (es : List E) (Ae : Option Addr) (ce : Nat) (k : Int) (xs : List I) (A : Option Addr) (c : Nat) (w : World) (hlen : cols.length <= 9223372036854775807) (hle : es.length <= 9223372036854775807) (hc : yD w Ac cols) (hE : Xa w Ae es) (h : In w ⟨A, xs, c⟩) :
  Calls Tryz.prog 53 #[.slice Ac cols.length cc, .slice Ae es.length ce, .int .i64 k, .slice A xs.length c] w fun en w' => z0 w w' en (Qn cols es k (xs.map zg)) := by
 have H := hh_ h; have Hc := hh_ hc; have HX := hh_ hE; have ct := fun W (hg : za w W) => Qp cols Ac cc es Ae ce W hlen hle (hc.grow hg) (hE.grow hg)
 have ci := fun W (hg : za w W) => qU cols Ac cc xs A c W hlen (Hc.out.grow hg) (H.out.grow hg)
 obtain ⟨TS, TE, hTE⟩ : ∃ TS TE, zE cols es = (TS, TE) := ⟨_, _, rfl⟩
 obtain ⟨IE, hIE⟩ : ∃ IE, zO cols (xs.map zg) = IE := ⟨_, rfl⟩
 rw [hTE] at ct; rw [hIE] at ci; obtain ⟨Q, hQ⟩ : ∃ Q, Qn cols es k (xs.map zg) = Q := ⟨_, rfl⟩
 rw [hQ]; have fin : Q = if TE ≠ 0 then ([], TE) else if k < 0 \/ 50 < k then ([], 3) else if IE ≠ 0 then ([], IE) else yZ (yJ k (yI es (yz xh (xs.map zg)))) := by rw [<- hQ]; unfold Qn; rw [hTE, hIE]
 have Fin := hh_ fin; have HTE := hh_ hTE; have HIE := hh_ hIE; clear h hc hE hTE hIE hQ fin; go_enter Tryz.func53, Tryz.ntmps53; go_upto_region 1 with fail
 refine zb (fun X => zc X w.heap.size 25 #[.slice Ae es.length ce] /\ za w X) ⟨zc.new _ _ _, (za.refl w).al _⟩ ?_; generalize w.heap.size = gk; rintro X ⟨Bk, G⟩; have BK := hh_ Bk; obtain ⟨bk, fk⟩ := Bk.rules; clear Bk
 by_cases h0 : TE = 0
 ·by_cases hk1 : k < 0 \/ 50 < k
  ·have eQ : Q = ([], 3) := by rw [Fin.out, if_neg uI_, if_pos hk1]
   subst h0; rcases hk1 with hk1 | hk1
   ·have d1 : decide (k < 0) = true := decide_eq_true hk1
    go_wp2_with (go_at_call 19; ((with_reducible refine (ct _ G).mono ?_); rintro e w2 ⟨BT, capT, rfl, _, _, hg2⟩))
    refine qX_ oV_ rfl ?_; exact ⟨none, [], 0, by rw [eQ]; rfl, zy _ _, by rw [eQ]; rfl, zX.nil, G.trans hg2⟩
   ·have d1 : decide (k < 0) = false := decide_eq_false u4_; have d2 : decide (50 < k) = true := decide_eq_true hk1
    go_wp2_with (go_at_call 19; ((with_reducible refine (ct _ G).mono ?_); rintro e w2 ⟨BT, capT, rfl, _, _, hg2⟩))
    refine qX_ oV_ rfl ?_; exact ⟨none, [], 0, by rw [eQ]; rfl, zy _ _, by rw [eQ]; rfl, zX.nil, G.trans hg2⟩
  ·have d1 : decide (k < 0) = false := decide_eq_false u4_; have d2 : decide (50 < k) = false := decide_eq_false u4_
   by_cases h1 : IE = 0
   ·subst h0 h1; have eQ : Q = yZ (yJ k (yI es (yz xh (xs.map zg)))) := by rw [Fin.out, if_neg u5_, if_neg hk1, if_neg u5_]
    have EQ := hh_ eQ; obtain ⟨_, hwz, hfit⟩ := zt HIE.out; obtain ⟨a1, a2, a3, a4⟩ := S.facts (s := ⟨A, xs, c⟩) hwz; have a1 : xs.length <= 400 := a1; obtain ⟨he8, hty⟩ := xo (by rw [HTE.out] : (zE cols es).2 = 0); have Hty := hh_ hty; have smz := SM.of hwz; have can := hh_ (j4 (f := xh) smz.rv smz.up); have Hfit := hh_ hfit; have Hok := hh_ smz.ok; have Hbd := hh_ smz.bd; have Hwz := hh_ hwz; have hk50 : 0 <= k /\ k <= 50 := by omega
    clear eQ hwz hfit a2 a3 a4 hty smz hk1
    go_upto_region 9 with (first
     | (go_at_call 19; ((with_reducible refine (ct _ G).mono ?_); rintro e w2 ⟨BT, capT, rfl, _, _, hg2⟩))
     | (go_at_call 28; ((with_reducible refine (ci _ (G.trans hg2)).mono ?_); rintro e w3 ⟨rfl, hg3⟩)))
    clear ct ci bk fk d1 d2; have G3 := G.trans (hg2.trans hg3); have cp := Db ⟨A, xs, c⟩ w3 (H.out.grow G3) Hwz.out; go_upto_region 10 with (go_at_call 50; (with_reducible refine cp.mono ?_); rintro e w4 ⟨B1, ys, cap1, rfl, own4, dv4, m4, hg4⟩); clear cp; have m4 : ys.map zg = yz xh (xs.map zg) := m4
    have src : ∀ y ∈ ys, ∃ z ∈ xs, y.row = zj z.row /\ y.w = xh z.w /\ y.w ≠ 0 := fun y hy => by
     have h1 : zg y ∈ yz xh (xs.map zg) := by rw [<- m4]; exact qZ9 hy
     obtain ⟨⟨x, hx, e⟩, hne⟩ := qR h1; obtain ⟨z, hz, rfl⟩ := List.mem_map.1 hx; exact ⟨z, hz, congrArg Prod.fst e, congrArg Prod.snd e, hne⟩
    have ly : ys.length <= 400 := by
     have h1 := congrArg List.length m4
     have h2 : (yz xh (xs.map zg)).length <= xs.length := by
      unfold yz; refine Nat.le_trans (List.length_filter_le _ _) ?_; simp
     simp at h1; omega
    have tgy : ys.Pairwise tg := by
     have h1 := can.out.up; rw [<- m4, List.pairwise_map] at h1; exact h1
    have r8 : ∀ y ∈ ys, y.row.length <= 8 := fun y hy => by
     obtain ⟨z, hz, e, _⟩ := src y hy; rw [e, xt]; exact (Hok.out (zg z) (qZ9 hz)).1
    have rvy : ∀ y ∈ ys, ∀ v ∈ y.row, RV v := fun y hy => by
     obtain ⟨z, hz, e, _⟩ := src y hy; rw [e]; exact xS (Hok.out (zg z) (qZ9 hz)).2
    have wy : ∀ y ∈ ys, 0 < y.w /\ y.w <= 1000000 := fun y hy => by
     obtain ⟨z, hz, _, e, hne⟩ := src y hy; have := Hbd.out (zg z) (qZ9 hz); have hzw : (zg z).2 = z.w := rfl; rw [hzw] at this; unfold xh at e; split at e <;> omega
    have rey : ∀ y ∈ ys, ∀ e ∈ es, RE y.row.length e := fun y hy e he => by
     obtain ⟨z, hz, er, _⟩ := src y hy; obtain ⟨T, hok⟩ := xk (Hty.out e he); have hl := ((yo cols z.row).1 (Hfit.out (zg z) (qZ9 hz))).1; rw [er, xt, hl]; exact Yc e hok.ty
    have cs := VS ⟨es, Ae, ce, gk⟩ ys B1 cap1 w3 w4 hg4 own4 dv4 ly tgy r8 rvy rey (by show es.length <= 1000; omega) (BK.out.grow (hg2.trans hg3)) (HX.out.grow G3); have M4 := hh_ m4; have TGY := hh_ tgy; have R8 := hh_ r8; have RVY := hh_ rvy; have WY := hh_ wy
    skip
    clear src tgy r8 rvy wy rey own4 dv4 m4; go_upto_region 14 with (go_at_call 76; (with_reducible refine cs.mono ?_); rintro e w5 ⟨rfl, ⟨M, pM, uM, zM⟩, hg5⟩); have lM : M.length = ys.length := pM.length_eq
    have eM : M.map zg = yI es (yz xh (xs.map zg)) := by
     refine Zv can.out.up ?_ ?_
     ·rw [<- M4.out]; exact pM.map zg
     ·rw [List.pairwise_map]; exact uM
    have ZM := hh_ zM; have EM := hh_ eM; have mem : ∀ u ∈ M, u ∈ ys := fun u hu => pM.mem_iff.1 hu
    have Mem := hh_ mem; have G5 := hh_ (G3.trans hg5); clear zM eM pM uM cs mem; go_wp2
    go_loopw [15, 16, 51] (fun t lf i wr => ∃ (j : Nat) (out : List I) (left : Int), j <= ys.length /\ i = .int .i64 j /\ lf = .int .i64 left /\ 0 <= left /\ left <= 50 /\ wr.ownsRow w5.heap.size 59 2 t out.length (zx out) /\ out.length <= j /\ out.map zg ++ yJ left ((M.drop j).map zg) = yJ k (M.map zg) /\ (∀ u ∈ out, (∃ y ∈ M, u.A = y.A /\ u.row = y.row) /\ -1000000 <= u.w /\ u.w <= 1000000) /\ za w5 wr) (fun _ _ i _ => ys.length - (intOf i).toNat)
    case atStart => exact ⟨0, [], k, Nat.zero_le _, rfl, rfl, hk50.1, hk50.2, World.ownsRow_nil _ _ _ _, Nat.le_refl _, rfl, fun u hu => by simp at hu, za.refl _⟩
    case round =>
     rename World => wr
     obtain ⟨j, out, left, hj, rfl, rfl, hl0, hl50, own, lo, hgo, hall, hg⟩ := hrel; obtain ⟨Bo, capo, rfl⟩ := yg own; have Own := hh_ own; have Go := hh_ hgo; have All := hh_ hall; clear own hgo hall
     by_cases hlt : j < ys.length
     ·obtain ⟨y, hyk⟩ : ∃ y, M[j]? = some y := ⟨_, qQ_ u4_⟩
      obtain ⟨gx, ox, rfl, c1, c2, hyv⟩ := (ZM.out.grow hg) j y hyk; have hm := qZ_ hyk; have wyy := WY.out y (Mem.out y hm); have st := V5 left hyk; have Hm := hh_ hm; have St := hh_ st; clear hyk hyv hm st; go_upto_region 16 with fail
      refine zb (fun Z => zc Z wr.heap.size 59 #[.slice y.A y.row.length y.cap, .int .i64 y.w] /\ za wr Z) ⟨zc.new _ _ _, (za.refl wr).al _⟩ ?_; rintro Z ⟨Bz, Gz⟩; have BZ := hh_ Bz; obtain ⟨bz, fz⟩ := Bz.rules; clear c1 c2 Bz
      by_cases hl : 0 < left
      ·have dl : decide (0 < left) = true := decide_eq_true hl; go_upto_region 18 with fail
       refine zb (fun Z2 => zc Z2 wr.heap.size 59 #[.slice y.A y.row.length y.cap, .int .i64 (min y.w left)] /\ za wr Z2) ⟨by simpa using zc.set BZ.out 1 (.int .i64 (min y.w left)), za.set Gz (Nat.le_refl _) _⟩ ?_; rintro Z2 ⟨Bz2, Gz2⟩; obtain ⟨m, hmin⟩ : ∃ m, min y.w left = m := ⟨_, rfl⟩
       rw [hmin] at Bz2; have hm1 : 0 < m /\ m <= y.w /\ m <= left := by rw [<- hmin]; omega
       have hmin2 : (if y.w <= left then y.w else left) = m := by rw [<- hmin]; split <;> omega
       have Hmin := hh_ hmin2; obtain ⟨bz2, fz2⟩ := Bz2.rules; have hwp : IntKind.i64.wrap (left - m) = left - m := by rw [IntKind.wrap_i64]; omega
       have Own2 := hh_ (zh Own.out Gz2); have sz2 := (hg.trans Gz2).size; clear hmin2 bz fz Bz2; rw [hmin]; clear hmin
       go_wp2_with (at_builtin; refine zi rfl _ _ rfl w5.heap.size _ _ _ rfl (Own2.out.alloc _) _ [I.mk y.A y.row y.cap m] rfl (qf rfl (zc.new _ _ _)) uV_ uV_ ?_; intro v7 w7 own7 gr7)
       have G7 : za w5 w7 := zp ((hg.trans Gz2).al _) gr7 (Own2.out.alloc _); have Own7 := hh_ own7; clear own7 gr7; go_roundw
       case rel =>
        refine ⟨j + 1, out ++ [I.mk y.A y.row y.cap m], left - m, by omega, by go_num, rfl, by omega, by omega, by simpa using Own7.out, by simp; omega, ?_, fun u hu => ?_, G7⟩
        ·have h1 := Go.out; rw [St.out, if_pos hl, Hmin.out] at h1; rw [List.map_append, List.append_assoc]; exact h1
        ·rcases List.mem_append.1 hu with hu | hu
         ·exact All.out u hu
         ·simp at hu; subst hu; exact ⟨⟨y, Hm.out, rfl, rfl⟩, by show -1000000 <= m; omega, by show m <= 1000000; omega⟩
       case measure => exact wa_
      ·have dl : decide (0 < left) = false := decide_eq_false hl; have Own2 := hh_ (zh Own.out Gz); go_wp2; go_roundw
       case rel => exact ⟨j + 1, out, left, by omega, by go_num, rfl, hl0, hl50, Own2.out, by omega, by have h1 := Go.out; rw [St.out, if_neg hl] at h1; exact h1, All.out, hg.trans Gz⟩
       case measure => exact wa_
     ·obtain rfl : j = ys.length := by omega
      have ofin : out.map zg = yJ k (yI es (yz xh (xs.map zg))) := by
       have h1 := Go.out; rw [<- lM, List.drop_length] at h1; simp only [List.map_nil, yJ, List.append_nil] at h1; rw [h1, EM.out]
      obtain ⟨B9, cap9, e9, hz9, hk9⟩ := kP Own.out (fun u hu => by
       obtain ⟨⟨y, hy, eA, er⟩, _⟩ := All.out u hu; rw [eA, er]
       exact (ZM.out.vsl y hy).grow hg)
      simp only [Value.slice.injEq] at e9; obtain ⟨rfl, _, rfl⟩ := e9; have cs := kd out Bo capo wr u4_ hz9 (fun u hu => by obtain ⟨⟨y, hy, eA, er⟩, _⟩ := All.out u hu; have := R8.out y (Mem.out y hy); rw [er]; omega) (fun u hu => by obtain ⟨⟨y, hy, eA, er⟩, _⟩ := All.out u hu; rw [er]; exact RVY.out y (Mem.out y hy)) (fun u hu => (All.out u hu).2); rw [ofin, <- EQ.out] at cs; clear hz9 hk9 ofin
      go_wp2_with (go_at_call 29; ((with_reducible refine cs.mono ?_); rintro en w7 ⟨C, zs, cap2, rfl, hz3, hm3, hk3, hg7⟩; have Out := hh_ (And.intro hz3 (And.intro hm3 hk3)); clear hz3 hm3 hk3))
      refine qX_ oV_ rfl ?_; exact ⟨C, zs, cap2, rfl, Out.out.1, Out.out.2.1, Out.out.2.2, G5.out.trans (hg.trans hg7)⟩
   ·have eQ : Q = ([], IE) := by rw [Fin.out, if_neg uI_, if_neg hk1, if_pos h1]
    have d3 : (IE != 0) = true := by simpa using h1
    subst h0
    go_wp2_with (first
     | (go_at_call 19; ((with_reducible refine (ct _ G).mono ?_); rintro e w2 ⟨BT, capT, rfl, _, _, hg2⟩))
     | (go_at_call 28; ((with_reducible refine (ci _ (G.trans hg2)).mono ?_); rintro e w3 ⟨rfl, hg3⟩)))
    refine qX_ oV_ rfl ?_; exact ⟨none, [], 0, by rw [eQ]; rfl, zy _ _, by rw [eQ]; rfl, zX.nil, G.trans (hg2.trans hg3)⟩
 ·have d0 : (TE != 0) = true := by simpa using h0
  have eQ : Q = ([], TE) := by rw [Fin.out, if_pos h0]
  go_wp2_with (go_at_call 19; ((with_reducible refine (ct _ G).mono ?_); rintro e w2 ⟨BT, capT, rfl, _, _, hg2⟩))
  refine qX_ oV_ rfl ?_; exact ⟨none, [], 0, by rw [eQ]; rfl, zy _ _, by rw [eQ]; rfl, zX.nil, G.trans hg2⟩
