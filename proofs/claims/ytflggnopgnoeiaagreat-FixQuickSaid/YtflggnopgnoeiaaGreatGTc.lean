/- Parts of a proof. No condition. -/
import Derived.Test.YtflggnopgnoeiaaGreatGTd
import Derived.Test.YtflggnopgnoeiaaGreatGVb
set_option maxRecDepth 100000
set_option maxHeartbeats 8000000
set_option maxRecDepth 100000
set_option linter.unusedSimpArgs false
set_option linter.unusedVariables false
namespace Go
variable {p : Prop}
theorem oK_ (h : p := by simp [results, Tryz.results174, go_sem] <;> rfl) : p := h
theorem xx_ (h : p := by
 obtain ⟨z, hz, h⟩ := ko (fun x hx => hp x (List.mem_cons_of_mem _ hx)) hy; exact ⟨z, List.mem_cons_of_mem _ hz, h⟩) : p := h
end Go
namespace Go.Proofs.YtflggnopgnoeiaaGreat
open Go.RowKit Go.Calm
abbrev zaG (K : KS) : Value := .func (.func 201) #[] #[.pointer (some ⟨K.gk, 0, none⟩)]
def Cq (K : KS) : Cm (.q K.gk) I where
 A := I.A
 n := fun x => x.row.length
 cap := I.cap
 w := I.w
 b := fun _ => 0
 cmp := Js K
 ans := UG K
 tg := tg
 good := kP K
 trans := R9
 swap := UK
 lt := Gn
 call := Gp K
theorem Sq (K : KS) : ∀ xs : List I, (Cq K).flat xs = zr xs
 | [] => rfl
 | x :: xs => by have h := Sq K xs; unfold Cm.flat at *; unfold zr; rw [<- h]; rfl
theorem NO {K : KS} (L : List I) (N c g : Nat) (w0 w : World) (hN : N = L.length) (hmax : N <= 500000) (hT : L.Pairwise tg) (hG : ∀ x ∈ L, kP K g w0 x) (hg0 : GX g w0 w) (hd : YE w g L) :
  Calls Tryz.prog 133 #[.slice (some ⟨g, 0, none⟩) N c, (zaG K)] w fun en w' => en = .returned (.tuple #[]) /\ (∃ M' : List I, M'.Perm L /\ UpT K M' /\ YE w' g M') /\ GX g w w' := by
 obtain ⟨rs, hd⟩ := hd; refine (NP (Cq K) rs L N c g w0 w hN hmax hT hG hg0 (by unfold DY; rw [Sq]; exact hd)).mono ?_; rintro en w' ⟨rfl, ⟨M, p, u, d⟩, hg⟩; exact ⟨rfl, ⟨M, p, u, rs, by unfold DY at d; rw [Sq] at d; exact d⟩, hg⟩
theorem Ew (a : S) (w : World) (ha : In w a) (h0 : zC a.z = 0) :
  Calls Tryz.prog 172 #[.slice a.A a.xs.length a.cap] w fun en w' => kq w w' en (yP xy a.z, 0) := by
 have h := TX a w ha; have e : ye xy a.z = (yP xy a.z, 0) := by unfold ye; rw [if_neg (by rw [h0]; simp)]
 rw [e] at h; exact h
def kZ (es : List E) (a b : Z) : Int := if zv zO (es.map (yu a.1)) (es.map (yu b.1)) ≠ 0 then zv zO (es.map (yu a.1)) (es.map (yu b.1)) else zv zO a.1 b.1
theorem QL (es : List E) (a b : Z) : kZ es b a = - kZ es a b := by
 have h1 := yo zO yq (es.map (yu a.1)) (es.map (yu b.1)); have h2 := yo zO yq a.1 b.1; unfold kZ; split <;> split <;> omega
theorem Jt (es : List E) (a b c : Z) (h1 : kZ es a b <= 0) (h2 : kZ es b c <= 0) : kZ es a c <= 0 := by
 have k := Za (es.map (yu a.1)) (es.map (yu b.1)) (es.map (yu c.1)); have r := Za a.1 b.1 c.1; unfold kZ at *; split at h1 <;> split at h2 <;> split <;> omega
theorem CU {es : List E} {a b : Z} (h1 : kZ es a b <= 0) (h2 : kZ es b a <= 0) : zv zO a.1 b.1 = 0 := by
 rw [QL] at h2; have h0 : kZ es a b = 0 := by omega
 unfold kZ at h0; split at h0
 ·rename_i h; exact absurd h0 h
 ·exact h0
def leZ (es : List E) (a b : Z) : Bool := decide (kZ es a b <= 0)
def XW (es : List E) (l : List Z) : List Z := l.mergeSort (leZ es)
theorem kG (es : List E) (l : List Z) : (XW es l).Perm l := List.mergeSort_perm l _
theorem Fe (es : List E) (l : List Z) : (XW es l).Pairwise (fun a b => kZ es a b <= 0) := by
 have h := List.pairwise_mergeSort (le := leZ es) (fun a b c h1 h2 => by simp only [leZ, decide_eq_true_eq] at *; exact Jt es a b c h1 h2) (fun a b => by
  simp only [leZ, Bool.or_eq_true, decide_eq_true_eq]; have := QL es a b
  omega) l
 refine List.Pairwise.imp (fun hab => ?_) h; simpa [leZ] using hab
theorem P7 {α : Type} {R : α -> α -> Prop} : ∀ {l : List α}, l.Pairwise R -> ∀ {a b : α}, a ∈ l -> b ∈ l -> a = b \/ R a b \/ R b a
 | x :: l, h, a, b, ha, hb => by
  rw [List.pairwise_cons] at h; rcases List.mem_cons.1 ha with e1 | h1
  ·rcases List.mem_cons.1 hb with e2 | h2
   ·exact .inl (e1.trans e2.symm)
   ·exact .inr (.inl (by rw [e1]; exact h.1 b h2))
  ·rcases List.mem_cons.1 hb with e2 | h2
   ·exact .inr (.inr (by rw [e2]; exact h.1 a h1))
   ·exact P7 h.2 h1 h2
theorem Fd {es : List E} {l m : List Z} (hl : l.Pairwise (fun a b => zK a.1 b.1 < 0)) (hp : m.Perm l) (hm : m.Pairwise (fun a b => kZ es a b <= 0)) : m = XW es l := by
 refine List.Perm.eq_of_pairwise (le := fun a b => kZ es a b <= 0) (fun a b ha hb h1 h2 => ?_) hm (Fe es l) (hp.trans (kG es l).symm); have h0 := CU h1 h2; have ha := hp.mem_iff.1 ha; have hb := (kG es l).mem_iff.1 hb; rcases P7 hl ha hb with h | h | h
 ·exact h
 ·unfold zK at h; omega
 ·unfold zK at h; have := yo zO yq a.1 b.1; omega
def kH : Int -> List Z -> List Z
 | _, [] => []
 | left, x :: l => if 0 < left then (x.1, if x.2 <= left then x.2 else left) :: kH (left - if x.2 <= left then x.2 else left) l else kH left l
def Li (cols : List Int) (es : List E) (k : Int) (z : List Z) : List Z × Int := if (zB cols es).2 ≠ 0 then ([], (zB cols es).2) else if k < 0 \/ 50 < k then ([], 3) else if zo cols z ≠ 0 then ([], zo cols z) else yy (kH k (XW es (yP xy z)))
theorem ko : ∀ {M : List Z} {left : Int}, (∀ x ∈ M, 0 < x.2) -> ∀ {y : Z}, y ∈ kH left M -> ∃ x ∈ M, x.1 = y.1 /\ 0 < y.2 /\ y.2 <= x.2
 | x :: M, left, hp, y, hy => by
  have hx := hp x (List.mem_cons_self ..); unfold kH at hy; split at hy
  ·rcases List.mem_cons.1 hy with e | hy
   ·refine ⟨x, List.mem_cons_self .., by rw [e], ?_, ?_⟩
    ·rw [e]; simp only; split <;> omega
    ·rw [e]; simp only; split <;> omega
   ·exact xx_
  ·exact xx_
theorem zbZ {w : World} {g g' : Nat} {xs : List I} {row : List V} (h : YE w g xs) (hd : DV w g' row) : g' ≠ g := by
 rintro rfl; obtain ⟨r, h⟩ := h; unfold DV zb at hd; unfold zb at h; rw [h] at hd; simp at hd
theorem Ff (K : KS) (ys : List I) (B : Option Addr) (cap : Nat) (w3 w4 : World) (hg : za w3 w4) (own : w4.ownsRow w3.heap.size 53 2 (.slice B ys.length cap) ys.length (zr ys)) (hdv : ∀ y ∈ ys, ∃ g, y.A = some ⟨g, 0, none⟩ /\ DV w4 g y.row) (hl : ys.length <= 400) (ht : ys.Pairwise tg) (hr8 : ∀ y ∈ ys, y.row.length <= 8) (hrv : ∀ y ∈ ys, ∀ v ∈ y.row, RV v) (hre : ∀ y ∈ ys, ∀ e ∈ K.es, RE y.row.length e) (hkl : K.es.length <= 1000) (hk : zb w3 K.gk 23 #[.slice K.A K.es.length K.c]) (hes : WW w3 K.A K.es) :
  Calls Tryz.prog 133 #[.slice B ys.length cap, (zaG K)] w4 fun en w' => en = .returned (.tuple #[]) /\ (∃ M : List I, M.Perm ys /\ UpT K M /\ xe w' B M) /\ za w3 w' := by
 have own0 := own; rcases own.2 with ⟨e, h0⟩ | ⟨g, cap', cur, e, hB, hgb, _⟩
 ·simp at e; obtain ⟨rfl, h1, rfl⟩ := e; subst h1; refine (Rn (.q K.gk) w4).mono ?_; rintro en w' ⟨rfl, hg'⟩; exact ⟨rfl, ⟨[], List.Perm.refl _, List.Pairwise.nil, zX _ _⟩, hg.trans hg'⟩
 ·simp at e; obtain ⟨rfl, rfl⟩ := e; have db := (SL own0).1; have base : ∀ W, GX g w4 W -> za w3 W := fun W h => GX.base hg hB h
  have good : ∀ y ∈ ys, kP K g w4 y := fun y hy => by
   obtain ⟨g', eA, hd⟩ := hdv y hy; have hne := zbZ db hd; exact ⟨fun W h => by rw [eA]; exact DV.vsl (GX.blk h hne hd), fun W h => ⟨hk.grow (base W h), hes.grow (base W h)⟩, by have := hr8 y hy; omega, hkl, hrv y hy, hre y hy⟩
  refine (NO (K := K) ys ys.length cap g w4 w4 rfl uX_ ht good (GX.refl _ _) db).mono ?_; rintro en w' ⟨rfl, ⟨M, p, u, db'⟩, hgx⟩; refine ⟨rfl, ⟨M, p, u, db'.zin (fun x hx => ?_)⟩, base _ hgx⟩; exact (good x (p.mem_iff.1 hx)).sl _ hgx
theorem FD (left : Int) {M : List I} {k : Nat} {x : I} (h : M[k]? = some x) : kH left ((M.drop k).map zh) = if 0 < left then (x.row, if x.w <= left then x.w else left) :: kH (left - if x.w <= left then x.w else left) ((M.drop (k + 1)).map zh) else kH left ((M.drop (k + 1)).map zh) := wb_
theorem zau (cols : List Int) (Ac : Option Addr) (cc : Nat) (es : List E) (Ae : Option Addr) (ce : Nat) (k : Int) (xs : List I) (A : Option Addr) (c : Nat) (w : World) (hlen : cols.length <= 9223372036854775807) (hle : es.length <= 9223372036854775807) (hc : yU w Ac cols) (hE : WW w Ae es) (h : In w ⟨A, xs, c⟩) :
  Calls Tryz.prog 174 #[.slice Ac cols.length cc, .slice Ae es.length ce, .int .i64 k, .slice A xs.length c] w fun en w' => yr w w' en (Li cols es k (xs.map zh)) := by
 have H := hh_ h; have Hc := hh_ hc; have HX := hh_ hE; have ct := fun W (hg : za w W) => Wh cols Ac cc es Ae ce W hlen hle (hc.grow hg) (hE.grow hg)
 have ci := fun W (hg : za w W) => jw cols Ac cc xs A c W hlen (Hc.out.grow hg) (H.out.grow hg)
 obtain ⟨TS, TE, hTE⟩ : ∃ TS TE, zB cols es = (TS, TE) := ⟨_, _, rfl⟩
 obtain ⟨IE, hIE⟩ : ∃ IE, zo cols (xs.map zh) = IE := ⟨_, rfl⟩
 rw [hTE] at ct; rw [hIE] at ci; obtain ⟨Q, hQ⟩ : ∃ Q, Li cols es k (xs.map zh) = Q := ⟨_, rfl⟩
 rw [hQ]; have fin : Q = if TE ≠ 0 then ([], TE) else if k < 0 \/ 50 < k then ([], 3) else if IE ≠ 0 then ([], IE) else yy (kH k (XW es (yP xy (xs.map zh)))) := by rw [<- hQ]; unfold Li; rw [hTE, hIE]
 have Fin := hh_ fin; have HTE := hh_ hTE; have HIE := hh_ hIE; clear h hc hE hTE hIE hQ fin; go_enter Tryz.func174, Tryz.ntmps174; go_upto_region 1 with fail
 refine zc (fun X => zb X w.heap.size 23 #[.slice Ae es.length ce] /\ za w X) ⟨zb.new _ _ _, (za.refl w).al _⟩ ?_; generalize w.heap.size = gk; rintro X ⟨Bk, G⟩; have BK := hh_ Bk; obtain ⟨bk, fk⟩ := Bk.rules; clear Bk
 by_cases h0 : TE = 0
 ·by_cases hk1 : k < 0 \/ 50 < k
  ·have eQ : Q = ([], 3) := by rw [Fin.out, if_neg ux_, if_pos hk1]
   subst h0; rcases hk1 with hk1 | hk1
   ·have d1 : decide (k < 0) = true := decide_eq_true hk1
    go_wp2_with (go_at_call 21; ((with_reducible refine (ct _ G).mono ?_); rintro e w2 ⟨BT, capT, rfl, _, _, hg2⟩))
    refine qX_ oK_ rfl ?_; exact ⟨none, [], 0, by rw [eQ]; rfl, zX _ _, by rw [eQ]; rfl, yf.nil, G.trans hg2⟩
   ·have d1 : decide (k < 0) = false := decide_eq_false uX_; have d2 : decide (50 < k) = true := decide_eq_true hk1
    go_wp2_with (go_at_call 21; ((with_reducible refine (ct _ G).mono ?_); rintro e w2 ⟨BT, capT, rfl, _, _, hg2⟩))
    refine qX_ oK_ rfl ?_; exact ⟨none, [], 0, by rw [eQ]; rfl, zX _ _, by rw [eQ]; rfl, yf.nil, G.trans hg2⟩
  ·have d1 : decide (k < 0) = false := decide_eq_false uX_; have d2 : decide (50 < k) = false := decide_eq_false uX_
   by_cases h1 : IE = 0
   ·subst h0 h1; have eQ : Q = yy (kH k (XW es (yP xy (xs.map zh)))) := by rw [Fin.out, if_neg uY_, if_neg hk1, if_neg uY_]
    have EQ := hh_ eQ; obtain ⟨_, hwz, hfit⟩ := zE HIE.out; obtain ⟨a1, a2, a3, a4⟩ := S.facts (s := ⟨A, xs, c⟩) hwz; have a1 : xs.length <= 400 := a1; obtain ⟨he8, hty⟩ := ql (by rw [HTE.out] : (zB cols es).2 = 0); have Hty := hh_ hty; have smz := SM.of hwz; have can := hh_ (Wr (f := xy) smz.rv smz.up); have Hfit := hh_ hfit; have Hok := hh_ smz.ok; have Hbd := hh_ smz.bd; have Hwz := hh_ hwz; have hk50 : 0 <= k /\ k <= 50 := by omega
    clear eQ hwz hfit a2 a3 a4 hty smz hk1
    go_upto_region 9 with (first
     | (go_at_call 21; ((with_reducible refine (ct _ G).mono ?_); rintro e w2 ⟨BT, capT, rfl, _, _, hg2⟩))
     | (go_at_call 23; ((with_reducible refine (ci _ (G.trans hg2)).mono ?_); rintro e w3 ⟨rfl, hg3⟩)))
    clear ct ci bk fk d1 d2; have G3 := G.trans (hg2.trans hg3); have cp := Ew ⟨A, xs, c⟩ w3 (H.out.grow G3) Hwz.out; unfold kq at cp; simp only at cp; go_upto_region 10 with (go_at_call 172; (with_reducible refine cp.mono ?_); rintro e w4 ⟨B1, ys, cap1, rfl, own4, dv4, m4, hg4⟩); clear cp; have m4 : ys.map zh = yP xy (xs.map zh) := m4
    have src : ∀ y ∈ ys, ∃ z ∈ xs, y.row = zd z.row /\ y.w = xy z.w /\ y.w ≠ 0 := fun y hy => by
     have h1 : zh y ∈ yP xy (xs.map zh) := by rw [<- m4]; exact qZ9 hy
     obtain ⟨⟨x, hx, e⟩, hne⟩ := xX h1; obtain ⟨z, hz, rfl⟩ := List.mem_map.1 hx; exact ⟨z, hz, congrArg Prod.fst e, congrArg Prod.snd e, hne⟩
    have ly : ys.length <= 400 := by
     have h1 := congrArg List.length m4
     have h2 : (yP xy (xs.map zh)).length <= xs.length := by
      unfold yP; refine Nat.le_trans (List.length_filter_le _ _) ?_; simp
     simp at h1; omega
    have tgy : ys.Pairwise tg := by
     have h1 := can.out.up; rw [<- m4, List.pairwise_map] at h1; exact h1
    have r8 : ∀ y ∈ ys, y.row.length <= 8 := fun y hy => by
     obtain ⟨z, hz, e, _⟩ := src y hy; rw [e, js]; exact (Hok.out (zh z) (qZ9 hz)).1
    have rvy : ∀ y ∈ ys, ∀ v ∈ y.row, RV v := fun y hy => by
     obtain ⟨z, hz, e, _⟩ := src y hy; rw [e]; exact qE (Hok.out (zh z) (qZ9 hz)).2
    have wy : ∀ y ∈ ys, 0 < y.w /\ y.w <= 1000000 := fun y hy => by
     obtain ⟨z, hz, _, e, hne⟩ := src y hy; have := Hbd.out (zh z) (qZ9 hz); have hzw : (zh z).2 = z.w := rfl; rw [hzw] at this; unfold xy at e; split at e <;> omega
    have rey : ∀ y ∈ ys, ∀ e ∈ es, RE y.row.length e := fun y hy e he => by
     obtain ⟨z, hz, er, _⟩ := src y hy; obtain ⟨T, hok⟩ := kR (Hty.out e he); have hl := ((y7 cols z.row).1 (Hfit.out (zh z) (qZ9 hz))).1; rw [er, js, hl]; exact QH e hok.ty
    have cs := Ff ⟨es, Ae, ce, gk⟩ ys B1 cap1 w3 w4 hg4 own4 dv4 ly tgy r8 rvy rey (by show es.length <= 1000; omega) (BK.out.grow (hg2.trans hg3)) (HX.out.grow G3); have M4 := hh_ m4; have TGY := hh_ tgy; have R8 := hh_ r8; have RVY := hh_ rvy; have WY := hh_ wy
    skip
    clear src tgy r8 rvy wy rey own4 dv4 m4; go_upto_region 14 with (go_at_call 133; (with_reducible refine cs.mono ?_); rintro e w5 ⟨rfl, ⟨M, pM, uM, zM⟩, hg5⟩); have lM : M.length = ys.length := pM.length_eq
    have eM : M.map zh = XW es (yP xy (xs.map zh)) := by
     refine Fd can.out.up ?_ ?_
     ·rw [<- M4.out]; exact pM.map zh
     ·rw [List.pairwise_map]; exact uM
    have ZM := hh_ zM; have EM := hh_ eM; have mem : ∀ u ∈ M, u ∈ ys := fun u hu => pM.mem_iff.1 hu
    have Mem := hh_ mem; have G5 := hh_ (G3.trans hg5); clear zM eM pM uM cs mem; go_wp2
    go_loopw [15, 16, 51] (fun t lf i wr => ∃ (j : Nat) (out : List I) (left : Int), j <= ys.length /\ i = .int .i64 j /\ lf = .int .i64 left /\ 0 <= left /\ left <= 50 /\ wr.ownsRow w5.heap.size 53 2 t out.length (zr out) /\ out.length <= j /\ out.map zh ++ kH left ((M.drop j).map zh) = kH k (M.map zh) /\ (∀ u ∈ out, (∃ y ∈ M, u.A = y.A /\ u.row = y.row) /\ -1000000 <= u.w /\ u.w <= 1000000) /\ za w5 wr) (fun _ _ i _ => ys.length - (intOf i).toNat)
    case atStart => exact ⟨0, [], k, Nat.zero_le _, rfl, rfl, hk50.1, hk50.2, World.ownsRow_nil _ _ _ _, Nat.le_refl _, rfl, fun u hu => by simp at hu, za.refl _⟩
    case round =>
     rename World => wr
     obtain ⟨j, out, left, hj, rfl, rfl, hl0, hl50, own, lo, hgo, hall, hg⟩ := hrel; obtain ⟨Bo, capo, rfl⟩ := yV own; have Own := hh_ own; have Go := hh_ hgo; have All := hh_ hall; clear own hgo hall
     by_cases hlt : j < ys.length
     ·obtain ⟨y, hyk⟩ : ∃ y, M[j]? = some y := ⟨_, qQ_ uX_⟩
      obtain ⟨gx, ox, rfl, c1, c2, hyv⟩ := (ZM.out.grow hg) j y hyk; have hm := qZ_ hyk; have wyy := WY.out y (Mem.out y hm); have st := FD left hyk; have Hm := hh_ hm; have St := hh_ st; clear hyk hyv hm st; go_upto_region 16 with fail
      refine zc (fun Z => zb Z wr.heap.size 53 #[.slice y.A y.row.length y.cap, .int .i64 y.w] /\ za wr Z) ⟨zb.new _ _ _, (za.refl wr).al _⟩ ?_; rintro Z ⟨Bz, Gz⟩; have BZ := hh_ Bz; obtain ⟨bz, fz⟩ := Bz.rules; clear c1 c2 Bz
      by_cases hl : 0 < left
      ·have dl : decide (0 < left) = true := decide_eq_true hl; go_upto_region 18 with fail
       refine zc (fun Z2 => zb Z2 wr.heap.size 53 #[.slice y.A y.row.length y.cap, .int .i64 (min y.w left)] /\ za wr Z2) ⟨by simpa using zb.set BZ.out 1 (.int .i64 (min y.w left)), za.set Gz (Nat.le_refl _) _⟩ ?_; rintro Z2 ⟨Bz2, Gz2⟩; obtain ⟨m, hmin⟩ : ∃ m, min y.w left = m := ⟨_, rfl⟩
       rw [hmin] at Bz2; have hm1 : 0 < m /\ m <= y.w /\ m <= left := by rw [<- hmin]; omega
       have hmin2 : (if y.w <= left then y.w else left) = m := by rw [<- hmin]; split <;> omega
       have Hmin := hh_ hmin2; obtain ⟨bz2, fz2⟩ := Bz2.rules; have hwp : IntKind.i64.wrap (left - m) = left - m := by rw [IntKind.wrap_i64]; omega
       have Own2 := hh_ (zi Own.out Gz2); have sz2 := (hg.trans Gz2).size; clear hmin2 bz fz Bz2; rw [hmin]; clear hmin
       go_wp2_with (at_builtin; refine zj rfl _ _ rfl w5.heap.size _ _ _ rfl (Own2.out.alloc _) _ [I.mk y.A y.row y.cap m] rfl (jD rfl (zb.new _ _ _)) uN_ uN_ ?_; intro v7 w7 own7 gr7)
       have G7 : za w5 w7 := zy ((hg.trans Gz2).al _) gr7 (Own2.out.alloc _); have Own7 := hh_ own7; clear own7 gr7; go_roundw
       case rel =>
        refine ⟨j + 1, out ++ [I.mk y.A y.row y.cap m], left - m, by omega, by go_num, rfl, by omega, by omega, by simpa using Own7.out, by simp; omega, ?_, fun u hu => ?_, G7⟩
        ·have h1 := Go.out; rw [St.out, if_pos hl, Hmin.out] at h1; rw [List.map_append, List.append_assoc]; exact h1
        ·rcases List.mem_append.1 hu with hu | hu
         ·exact All.out u hu
         ·simp at hu; subst hu; exact ⟨⟨y, Hm.out, rfl, rfl⟩, by show -1000000 <= m; omega, by show m <= 1000000; omega⟩
       case measure => exact u1_
      ·have dl : decide (0 < left) = false := decide_eq_false hl; have Own2 := hh_ (zi Own.out Gz); go_wp2; go_roundw
       case rel => exact ⟨j + 1, out, left, by omega, by go_num, rfl, hl0, hl50, Own2.out, by omega, by have h1 := Go.out; rw [St.out, if_neg hl] at h1; exact h1, All.out, hg.trans Gz⟩
       case measure => exact u1_
     ·obtain rfl : j = ys.length := by omega
      have ofin : out.map zh = kH k (XW es (yP xy (xs.map zh))) := by
       have h1 := Go.out; rw [<- lM, List.drop_length] at h1; simp only [List.map_nil, kH, List.append_nil] at h1; rw [h1, EM.out]
      obtain ⟨B9, cap9, e9, hz9, hk9⟩ := Xm Own.out (fun u hu => by
       obtain ⟨⟨y, hy, eA, er⟩, _⟩ := All.out u hu; rw [eA, er]
       exact (ZM.out.vsl y hy).grow hg)
      simp only [Value.slice.injEq] at e9; obtain ⟨rfl, _, rfl⟩ := e9; have cs := kW out Bo capo wr uX_ hz9 (fun u hu => by obtain ⟨⟨y, hy, eA, er⟩, _⟩ := All.out u hu; have := R8.out y (Mem.out y hy); rw [er]; omega) (fun u hu => by obtain ⟨⟨y, hy, eA, er⟩, _⟩ := All.out u hu; rw [er]; exact RVY.out y (Mem.out y hy)) (fun u hu => (All.out u hu).2); rw [ofin, <- EQ.out] at cs; clear hz9 hk9 ofin
      go_wp2_with (go_at_call 29; ((with_reducible refine cs.mono ?_); rintro en w7 ⟨C, zs, cap2, rfl, hz3, hm3, hk3, hg7⟩; have Out := hh_ (And.intro hz3 (And.intro hm3 hk3)); clear hz3 hm3 hk3))
      refine qX_ oK_ rfl ?_; exact ⟨C, zs, cap2, rfl, Out.out.1, Out.out.2.1, Out.out.2.2, G5.out.trans (hg.trans hg7)⟩
   ·have eQ : Q = ([], IE) := by rw [Fin.out, if_neg ux_, if_neg hk1, if_pos h1]
    have d3 : (IE != 0) = true := by simpa using h1
    subst h0
    go_wp2_with (first
     | (go_at_call 21; ((with_reducible refine (ct _ G).mono ?_); rintro e w2 ⟨BT, capT, rfl, _, _, hg2⟩))
     | (go_at_call 23; ((with_reducible refine (ci _ (G.trans hg2)).mono ?_); rintro e w3 ⟨rfl, hg3⟩)))
    refine qX_ oK_ rfl ?_; exact ⟨none, [], 0, by rw [eQ]; rfl, zX _ _, by rw [eQ]; rfl, yf.nil, G.trans (hg2.trans hg3)⟩
 ·have d0 : (TE != 0) = true := by simpa using h0
  have eQ : Q = ([], TE) := by rw [Fin.out, if_pos h0]
  go_wp2_with (go_at_call 21; ((with_reducible refine (ct _ G).mono ?_); rintro e w2 ⟨BT, capT, rfl, _, _, hg2⟩))
  refine qX_ oK_ rfl ?_; exact ⟨none, [], 0, by rw [eQ]; rfl, zX _ _, by rw [eQ]; rfl, yf.nil, G.trans hg2⟩
