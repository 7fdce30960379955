/-
 Joined texts of this claim: SoQ, Tpo, TopP, TopF, TopW. What each proves its own head says; no condition beside those that each theorem names.
-/
import Derived.Test.YtcaedcpjdmlilaaGreatGF
import Derived.Test.YtcaedcpjdmlilaaGreatGTd
import Derived.Test.YtcaedcpjdmlilaaGreatGK
import Derived.Test.YtcaedcpjdmlilaaGreatGVb
import Derived.Test.YtcaedcpjdmlilaaGreatGS
import Derived.Test.YtcaedcpjdmlilaaGreatGQ
set_option maxRecDepth 100000
set_option maxHeartbeats 8000000
namespace Go.Proofs.YtcaedcpjdmlilaaGreat
open Go.RowKit Go.Calm
set_option linter.unusedSimpArgs false
set_option linter.unusedVariables false
abbrev Ho (K : KS) : Value := .func (.func 157) #[] #[.pointer (some ⟨K.gk, 0, none⟩)]
def Cq (K : KS) : Cm (.q K.gk) I where
 A := I.A
 row := I.row
 cap := I.cap
 w := I.w
 b := fun _ => 0
 cmp := Jw K
 ans := Ul K
 tg := tg
 good := kw K
 trans := RS
 swap := Uo
 lt := EG
 call := EH K
theorem Sc (K : KS) : ∀ xs : List I, (Cq K).flat xs = zt xs
 | [] => rfl
 | x :: xs => by unfold Cm.flat zt; rw [Sc K xs]; rfl
theorem Nk {K : KS} (L : List I) (N c g : Nat) (w0 w : World) (hN : N = L.length) (hmax : N <= 500000) (hT : L.Pairwise tg) (hG : ∀ x ∈ L, kw K g w0 x) (hg0 : GX g w0 w) (hd : GQ w g L) :
  Calls Tryz.prog 137 #[.slice (some ⟨g, 0, none⟩) N c, (Ho K)] w fun en w' => en = .returned (.tuple #[]) /\ (∃ M' : List I, M'.Perm L /\ UpT K M' /\ GQ w' g M') /\ GX g w w' := by
 obtain ⟨rs, hd⟩ := hd; refine (Nl (Cq K) rs L N c g w0 w hN hmax hT hG hg0 (by unfold DY; rw [Sc]; exact hd)).mono ?_; rintro en w' ⟨rfl, ⟨M, p, u, d⟩, hg⟩; exact ⟨rfl, ⟨M, p, u, rs, by unfold DY at d; rw [Sc] at d; exact d⟩, hg⟩
def VI (w w' : World) (e : Ending) (r : List Z) : Prop := ∃ (B : Option Addr) (ys : List I) (cap : Nat), e = .returned (.tuple #[.slice B ys.length cap, .int .i64 0]) /\ w'.ownsRow w.heap.size 62 2 (.slice B ys.length cap) ys.length (zt ys) /\ (∀ y ∈ ys, ∃ g, y.A = some ⟨g, 0, none⟩ /\ DV w' g y.row) /\ ys.map zj = r /\ za w w'
theorem Uw (f : Int -> Int) (hf : ∀ n W, -1000000 <= n -> n <= 1000000 -> Calls Tryz.prog 155 #[.int .i64 n] W fun e w' => e = .returned (.int .i64 (f n)) /\ za W w') (A : Option Addr) (xs : List I) (c : Nat) (w : World) (ha : In w ⟨A, xs, c⟩) (hw0 : zu (xs.map zj) = 0) :
  Calls Tryz.prog 48 #[.slice A xs.length c, .func (.func 155) #[] #[]] w fun en w' => VI w w' en (yq f (xs.map zj)) := by
 have Ha := Lib.hid ha; have Hf := Lib.hid hf; clear ha hf; go_enter Tryz.func48, Tryz.ntmps48; obtain ⟨E, hE⟩ : ∃ E, zu (xs.map zj) = E := ⟨_, rfl⟩
 have cr := fun W (h1 : zb W w.heap.size 38 #[.slice A xs.length c]) (hg : za w W) => XK ⟨A, xs, c⟩ w.heap.size W _ h1 (Ha.out.grow hg)
 rw [show zu (S.z ⟨A, xs, c⟩) = E from hE] at cr; have HE := Lib.hid hE; clear hE; go_upto_region 2 with (go_at_call 51; ((with_reducible refine (cr _ (zb.new _ _ _) (by with_reducible repeat (first | exact za.refl _ | assumption | refine za.set ?_ (by simp <;> omega) _ | refine za.al ?_ _ | refine za.drew ?_ | refine za.drewN ?_ _ | refine za.trans ?_ (by assumption)))).mono ?_); rintro e w2 ⟨rfl, hg2⟩)); have G2 := ((za.refl w).al _).trans hg2; clear cr
 by_cases h0 : E = 0
 ·have d0 : (E != 0) = false := by simpa using h0
  obtain ⟨a1, a2, a3, a4⟩ := S.facts (s := ⟨A, xs, c⟩) (HE.out.trans h0); have A2 := Lib.hid a2; have A4 := Lib.hid a4; clear a2 a3 a4; go_wp2
  go_loopw [7, 19] (fun t i wr => ∃ (k : Nat) (out : List I), k <= xs.length /\ i = .int .i64 k /\ wr.ownsRow w.heap.size 62 2 t out.length (zt out) /\ out.map zj = yq f ((xs.take k).map zj) /\ (∀ y ∈ out, ∃ g, y.A = some ⟨g, 0, none⟩ /\ DV wr g y.row) /\ out.length <= k /\ za w wr) (fun _ i _ => xs.length - (intOf i).toNat)
  case atStart => exact ⟨0, [], Nat.zero_le _, rfl, World.ownsRow_nil _ _ _ _, rfl, fun y hy => by simp at hy, Nat.le_refl _, G2⟩
  case round =>
   obtain ⟨k, out, hk, rfl, hown, hmap, hdv, hol, hg⟩ := hrel; have Own := Lib.hid hown; have Map := Lib.hid hmap; have Dvs := Lib.hid hdv; clear hown hmap hdv
   by_cases hlt : k < xs.length
   ·obtain ⟨x, hxk⟩ : ∃ x, xs[k]? = some x := ⟨_, List.getElem?_eq_getElem hlt⟩
    obtain ⟨gx, ox, rfl, c1, c2, hxv⟩ := (Ha.out.z.grow hg) k x hxk; have hmem := List.mem_of_getElem? hxk; have hlx := A2.out x hmem; have cb := fun W (h : za wr W) => kJ x.row x.A x.cap W (by omega) (hxv.grow h)
    have cf := fun W => Hf.out x.w W (A4.out x hmem).1 (A4.out x hmem).2
    have es := Xn f hxk; rw [<- Map.out] at es; have Es := Lib.hid es; obtain ⟨m, hm⟩ : ∃ m, f x.w = m := ⟨_, rfl⟩
    rw [hm] at cf; have Hm := Lib.hid hm; clear hxk hxv hmem es hm; go_upto_region 8 with fail
    refine zc (fun X => zb X wr.heap.size 62 #[.slice x.A x.row.length x.cap, .int .i64 x.w] /\ za wr X) ⟨zb.new _ _ _, (za.refl wr).al _⟩ ?_; rintro X ⟨Bx, G⟩; obtain ⟨bx, fx⟩ := Bx.rules; go_upto_region 9 with (go_at_call 155; (with_reducible refine (cf _).mono ?_); rintro e w3 ⟨rfl, hg3⟩); have Bx3 := Bx.grow hg3; obtain ⟨bx3, fx3⟩ := Bx3.rules; have G3 := G.trans hg3; have Own3 := Lib.hid (zl Own.out G3)
    by_cases hm0 : m = 0
    ·have dm : (m != 0) = false := by simpa using hm0
     go_wp2; go_roundw
     case rel => exact ⟨k + 1, out, by omega, by go_num, Own3.out, by rw [Es.out, Hm.out, if_neg (by simpa using hm0), List.append_nil], fun y hy => by obtain ⟨g, h1, h2⟩ := Dvs.out y hy; exact ⟨g, h1, h2.grow G3⟩, by omega, hg.trans G3⟩
     case measure => simp [intOf]; omega
    ·have dm : (m != 0) = true := by simpa using hm0
     go_wp2_with (first
      | (go_at_call 92; ((with_reducible refine (cb _ G3).mono ?_); rintro e w4 ⟨gi, rfl, hdv4, hge, hg4⟩; have Dv4 := Lib.hid hdv4; have Own4 := Lib.hid (zl Own3.out hg4); clear hdv4))
      | (at_builtin; refine zS rfl _ _ rfl w.heap.size _ out.length out rfl (Own4.out.alloc _) _ [I.mk (some ⟨gi, 0, none⟩) (zd x.row) x.row.length m] rfl (jJ (jM x.row) (zb.new _ _ _)) (by simp; omega) (by have := (hg.trans (G3.trans hg4)).size; simp; omega) ?_; intro v7 w7 own7 gr7))
     have G7 : za w w7 := zY ((hg.trans (G3.trans hg4)).al _) gr7 (Own4.out.alloc _); have Own7 := Lib.hid own7; have Dv7 := Lib.hid (DV.kept (Dv4.out.grow ((za.refl _).al _)) (Own4.out.alloc _) gr7)
     have Dvs7 : ∀ y ∈ out, ∃ g, y.A = some ⟨g, 0, none⟩ /\ DV w7 g y.row := fun y hy => by
      obtain ⟨g, h1, h2⟩ := Dvs.out y hy; exact ⟨g, h1, DV.kept (h2.grow ((G3.trans hg4).al _)) (Own4.out.alloc _) gr7⟩
     have DVS7 := Lib.hid Dvs7; clear own7 gr7 Dvs7; go_roundw
     case rel =>
      refine ⟨k + 1, out ++ [I.mk (some ⟨gi, 0, none⟩) (zd x.row) x.row.length m], by omega, by go_num, by simpa using Own7.out, ?_, fun y hy => ?_, by simp; omega, G7⟩
      ·rw [Es.out, Hm.out, if_pos hm0]; simp [zj]
      ·rcases List.mem_append.1 hy with hy | hy
       ·exact DVS7.out y hy
       ·simp at hy; subst hy; exact ⟨gi, rfl, Dv7.out⟩
     case measure => simp [intOf]; omega
   ·obtain rfl : k = xs.length := by omega
    obtain ⟨B, cap, rfl⟩ := xk Own.out; have hm2 : out.map zj = yq f (xs.map zj) := by rw [Map.out, List.take_length]
    have Hm2 := Lib.hid hm2; clear hm2; go_wp2; refine bodyPost_ret (by simp [results, Tryz.results48, go_sem] <;> rfl) rfl ?_; exact ⟨B, out, cap, rfl, Own.out, Dvs.out, Hm2.out, hg⟩
 ·exact absurd (HE.out.symm.trans hw0) h0
theorem FZ (a : S) (w : World) (ha : In w a) (h0 : zu a.z = 0) :
  Calls Tryz.prog 115 #[.slice a.A a.xs.length a.cap] w fun en w' => VI w w' en (yq yJ a.z) := by
 have cs := Uw yJ (fun n W h1 h2 => Dh n W h1 h2) a.A a.xs a.cap w ha h0; go_enter Tryz.func115, Tryz.ntmps115
 go_wp2_with (go_at_call 48; ((with_reducible refine cs.mono ?_); rintro en w3 ⟨C, zs, cap2, rfl, hz3, hd3, hm, hg3⟩; have Fin := Lib.hid (And.intro hz3 (And.intro hd3 hm)); clear hz3 hd3 hm))
 refine bodyPost_ret (by simp [results, Tryz.results115, go_sem] <;> rfl) rfl ?_; exact ⟨C, zs, cap2, rfl, Fin.out.1, Fin.out.2.1, Fin.out.2.2, hg3⟩
def Y7 (es : List E) (a b : Z) : Int := if zB zU (es.map (yt a.1)) (es.map (yt b.1)) ≠ 0 then zB zU (es.map (yt a.1)) (es.map (yt b.1)) else zB zU a.1 b.1
theorem Lf (es : List E) (a b : Z) : Y7 es b a = - Y7 es a b := by
 have h1 := yh zU yk (es.map (yt a.1)) (es.map (yt b.1)); have h2 := yh zU yk a.1 b.1; unfold Y7; split <;> split <;> omega
theorem RT (es : List E) (a b c : Z) (h1 : Y7 es a b <= 0) (h2 : Y7 es b c <= 0) : Y7 es a c <= 0 := by
 have k := YT (es.map (yt a.1)) (es.map (yt b.1)) (es.map (yt c.1)); have r := YT a.1 b.1 c.1; unfold Y7 at *; split at h1 <;> split at h2 <;> split <;> omega
theorem V8 {es : List E} {a b : Z} (h1 : Y7 es a b <= 0) (h2 : Y7 es b a <= 0) : zB zU a.1 b.1 = 0 := by
 rw [Lf] at h2; have h0 : Y7 es a b = 0 := by omega
 unfold Y7 at h0; split at h0
 ·rename_i h; exact absurd h0 h
 ·exact h0
def Ht (es : List E) (a b : Z) : Bool := decide (Y7 es a b <= 0)
def XO (es : List E) (l : List Z) : List Z := l.mergeSort (Ht es)
theorem XD (es : List E) (l : List Z) : (XO es l).Perm l := List.mergeSort_perm l _
theorem DF (es : List E) (l : List Z) : (XO es l).Pairwise (fun a b => Y7 es a b <= 0) := by
 have h := List.pairwise_mergeSort (le := Ht es) (fun a b c h1 h2 => by simp only [Ht, decide_eq_true_eq] at *; exact RT es a b c h1 h2) (fun a b => by
  simp only [Ht, Bool.or_eq_true, decide_eq_true_eq]; have := Lf es a b
  omega) l
 refine List.Pairwise.imp (fun hab => ?_) h; simpa [Ht] using hab
theorem PI {α : Type} {R : α -> α -> Prop} : ∀ {l : List α}, l.Pairwise R -> ∀ {a b : α}, a ∈ l -> b ∈ l -> a = b \/ R a b \/ R b a
 | x :: l, h, a, b, ha, hb => by
  rw [List.pairwise_cons] at h; rcases List.mem_cons.1 ha with e1 | h1
  ·rcases List.mem_cons.1 hb with e2 | h2
   ·exact .inl (e1.trans e2.symm)
   ·exact .inr (.inl (by rw [e1]; exact h.1 b h2))
  ·rcases List.mem_cons.1 hb with e2 | h2
   ·exact .inr (.inr (by rw [e2]; exact h.1 a h1))
   ·exact PI h.2 h1 h2
theorem DD {es : List E} {l m : List Z} (hl : l.Pairwise (fun a b => zG a.1 b.1 < 0)) (hp : m.Perm l) (hm : m.Pairwise (fun a b => Y7 es a b <= 0)) : m = XO es l := by
 refine List.Perm.eq_of_pairwise (le := fun a b => Y7 es a b <= 0) (fun a b ha hb h1 h2 => ?_) hm (DF es l) (hp.trans (XD es l).symm); have h0 := V8 h1 h2; have ha := hp.mem_iff.1 ha; have hb := (XD es l).mem_iff.1 hb; rcases PI hl ha hb with h | h | h
 ·exact h
 ·unfold zG at h; omega
 ·unfold zG at h; have := yh zU yk a.1 b.1; omega
def ko : Int -> List Z -> List Z
 | _, [] => []
 | left, x :: l => if 0 < left then (x.1, if x.2 <= left then x.2 else left) :: ko (left - if x.2 <= left then x.2 else left) l else ko left l
def W2 (cols : List Int) (es : List E) (k : Int) (z : List Z) : List Z × Int := if (zy cols es).2 ≠ 0 then ([], (zy cols es).2) else if k < 0 \/ 50 < k then ([], 3) else if zF cols z ≠ 0 then ([], zF cols z) else yN (ko k (XO es (yq yJ z)))
theorem YY : ∀ {M : List Z} {left : Int}, (∀ x ∈ M, 0 < x.2) -> ∀ {y : Z}, y ∈ ko left M -> ∃ x ∈ M, x.1 = y.1 /\ 0 < y.2 /\ y.2 <= x.2
 | x :: M, left, hp, y, hy => by
  have hx := hp x (List.mem_cons_self ..); unfold ko at hy; split at hy
  ·rcases List.mem_cons.1 hy with e | hy
   ·refine ⟨x, List.mem_cons_self .., by rw [e], ?_, ?_⟩
    ·rw [e]; simp only; split <;> omega
    ·rw [e]; simp only; split <;> omega
   ·obtain ⟨z, hz, h⟩ := YY (fun x hx => hp x (List.mem_cons_of_mem _ hx)) hy; exact ⟨z, List.mem_cons_of_mem _ hz, h⟩
  ·obtain ⟨z, hz, h⟩ := YY (fun x hx => hp x (List.mem_cons_of_mem _ hx)) hy; exact ⟨z, List.mem_cons_of_mem _ hz, h⟩
theorem zbI {w : World} {g g' : Nat} {xs : List I} {row : List V} (h : GQ w g xs) (hd : DV w g' row) : g' ≠ g := by
 rintro rfl; obtain ⟨r, h⟩ := h; unfold DV zb at hd; unfold zb at h; rw [h] at hd; simp at hd
theorem DG (K : KS) (ys : List I) (B : Option Addr) (cap : Nat) (w3 w4 : World) (hg : za w3 w4) (own : w4.ownsRow w3.heap.size 62 2 (.slice B ys.length cap) ys.length (zt ys)) (hdv : ∀ y ∈ ys, ∃ g, y.A = some ⟨g, 0, none⟩ /\ DV w4 g y.row) (hl : ys.length <= 400) (ht : ys.Pairwise tg) (hr8 : ∀ y ∈ ys, y.row.length <= 8) (hrv : ∀ y ∈ ys, ∀ v ∈ y.row, RV v) (hre : ∀ y ∈ ys, ∀ e ∈ K.es, RE y.row.length e) (hkl : K.es.length <= 1000) (hk : zb w3 K.gk 25 #[.slice K.A K.es.length K.c]) (hes : KG w3 K.A K.es) :
  Calls Tryz.prog 137 #[.slice B ys.length cap, (Ho K)] w4 fun en w' => en = .returned (.tuple #[]) /\ (∃ M : List I, M.Perm ys /\ UpT K M /\ xF w' B M) /\ za w3 w' := by
 have own0 := own; rcases own.2 with ⟨e, h0⟩ | ⟨g, cap', cur, e, hB, hgb, _⟩
 ·simp at e; obtain ⟨rfl, h1, rfl⟩ := e; subst h1; refine (P5 (.q K.gk) w4).mono ?_; rintro en w' ⟨rfl, hg'⟩; exact ⟨rfl, ⟨[], List.Perm.refl _, List.Pairwise.nil, yd _ _⟩, hg.trans hg'⟩
 ·simp at e; obtain ⟨rfl, rfl⟩ := e; have db := (za3 own0).1; have base : ∀ W, GX g w4 W -> za w3 W := fun W h => GX.base hg hB h
  have good : ∀ y ∈ ys, kw K g w4 y := fun y hy => by
   obtain ⟨g', eA, hd⟩ := hdv y hy; have hne := zbI db hd; exact ⟨fun W h => by rw [eA]; exact DV.vsl (GX.blk h hne hd), fun W h => ⟨hk.grow (base W h), hes.grow (base W h)⟩, by have := hr8 y hy; omega, hkl, hrv y hy, hre y hy⟩
  refine (Nk (K := K) ys ys.length cap g w4 w4 rfl (by omega) ht good (GX.refl _ _) db).mono ?_; rintro en w' ⟨rfl, ⟨M, p, u, db'⟩, hgx⟩; refine ⟨rfl, ⟨M, p, u, db'.zin (fun x hx => ?_)⟩, base _ hgx⟩; exact (good x (p.mem_iff.1 hx)).sl _ hgx
theorem DR (left : Int) {M : List I} {k : Nat} {x : I} (h : M[k]? = some x) : ko left ((M.drop k).map zj) = if 0 < left then (x.row, if x.w <= left then x.w else left) :: ko (left - if x.w <= left then x.w else left) ((M.drop (k + 1)).map zj) else ko left ((M.drop (k + 1)).map zj) := by
 obtain ⟨h1, e1⟩ := List.getElem?_eq_some_iff.1 h; rw [List.drop_eq_getElem_cons h1, e1]; rfl
theorem GC (cols : List Int) (Ac : Option Addr) (cc : Nat) (es : List E) (Ae : Option Addr) (ce : Nat) (k : Int) (xs : List I) (A : Option Addr) (c : Nat) (w : World) (hlen : cols.length <= 9223372036854775807) (hle : es.length <= 9223372036854775807) (hc : xe w Ac cols) (hE : KG w Ae es) (h : In w ⟨A, xs, c⟩) :
  Calls Tryz.prog 117 #[.slice Ac cols.length cc, .slice Ae es.length ce, .int .i64 k, .slice A xs.length c] w fun en w' => yu w w' en (W2 cols es k (xs.map zj)) := by
 have H := Lib.hid h; have Hc := Lib.hid hc; have HX := Lib.hid hE; have ct := fun W (hg : za w W) => Wl cols Ac cc es Ae ce W hlen hle (hc.grow hg) (hE.grow hg)
 have ci := fun W (hg : za w W) => qW cols Ac cc xs A c W hlen (Hc.out.grow hg) (H.out.grow hg)
 obtain ⟨TS, TE, hTE⟩ : ∃ TS TE, zy cols es = (TS, TE) := ⟨_, _, rfl⟩
 obtain ⟨IE, hIE⟩ : ∃ IE, zF cols (xs.map zj) = IE := ⟨_, rfl⟩
 rw [hTE] at ct; rw [hIE] at ci; obtain ⟨Q, hQ⟩ : ∃ Q, W2 cols es k (xs.map zj) = Q := ⟨_, rfl⟩
 rw [hQ]; have fin : Q = if TE ≠ 0 then ([], TE) else if k < 0 \/ 50 < k then ([], 3) else if IE ≠ 0 then ([], IE) else yN (ko k (XO es (yq yJ (xs.map zj)))) := by rw [<- hQ]; unfold W2; rw [hTE, hIE]
 have Fin := Lib.hid fin; have HTE := Lib.hid hTE; have HIE := Lib.hid hIE; clear h hc hE hTE hIE hQ fin; go_enter Tryz.func117, Tryz.ntmps117; go_upto_region 1 with fail
 refine zc (fun X => zb X w.heap.size 25 #[.slice Ae es.length ce] /\ za w X) ⟨zb.new _ _ _, (za.refl w).al _⟩ ?_; generalize w.heap.size = gk; rintro X ⟨Bk, G⟩; have BK := Lib.hid Bk; obtain ⟨bk, fk⟩ := Bk.rules; clear Bk
 by_cases h0 : TE = 0
 ·by_cases hk1 : k < 0 \/ 50 < k
  ·have eQ : Q = ([], 3) := by rw [Fin.out, if_neg (by simpa using h0), if_pos hk1]
   subst h0; rcases hk1 with hk1 | hk1
   ·have d1 : decide (k < 0) = true := decide_eq_true hk1
    go_wp2_with (go_at_call 67; ((with_reducible refine (ct _ G).mono ?_); rintro e w2 ⟨BT, capT, rfl, _, _, hg2⟩))
    refine bodyPost_ret (by simp [results, Tryz.results117, go_sem] <;> rfl) rfl ?_; exact ⟨none, [], 0, by rw [eQ]; rfl, yd _ _, by rw [eQ]; rfl, yw.nil, G.trans hg2⟩
   ·have d1 : decide (k < 0) = false := decide_eq_false (by omega); have d2 : decide (50 < k) = true := decide_eq_true hk1
    go_wp2_with (go_at_call 67; ((with_reducible refine (ct _ G).mono ?_); rintro e w2 ⟨BT, capT, rfl, _, _, hg2⟩))
    refine bodyPost_ret (by simp [results, Tryz.results117, go_sem] <;> rfl) rfl ?_; exact ⟨none, [], 0, by rw [eQ]; rfl, yd _ _, by rw [eQ]; rfl, yw.nil, G.trans hg2⟩
  ·have d1 : decide (k < 0) = false := decide_eq_false (by omega); have d2 : decide (50 < k) = false := decide_eq_false (by omega)
   by_cases h1 : IE = 0
   ·subst h0 h1; have eQ : Q = yN (ko k (XO es (yq yJ (xs.map zj)))) := by rw [Fin.out, if_neg (by simp), if_neg hk1, if_neg (by simp)]
    have EQ := Lib.hid eQ; obtain ⟨_, hwz, hfit⟩ := zp HIE.out; obtain ⟨a1, a2, a3, a4⟩ := S.facts (s := ⟨A, xs, c⟩) hwz; have a1 : xs.length <= 400 := a1; obtain ⟨he8, hty⟩ := xm (by rw [HTE.out] : (zy cols es).2 = 0); have Hty := Lib.hid hty; have smz := SM.of hwz; have can := Lib.hid (Ws (f := yJ) smz.rv smz.up); have Hfit := Lib.hid hfit; have Hok := Lib.hid smz.ok; have Hbd := Lib.hid smz.bd; have Hwz := Lib.hid hwz; have hk50 : 0 <= k /\ k <= 50 := by omega
    clear eQ hwz hfit a2 a3 a4 hty smz hk1
    go_upto_region 9 with (first
     | (go_at_call 67; ((with_reducible refine (ct _ G).mono ?_); rintro e w2 ⟨BT, capT, rfl, _, _, hg2⟩))
     | (go_at_call 76; ((with_reducible refine (ci _ (G.trans hg2)).mono ?_); rintro e w3 ⟨rfl, hg3⟩)))
    clear ct ci bk fk d1 d2; have G3 := G.trans (hg2.trans hg3); have cp := FZ ⟨A, xs, c⟩ w3 (H.out.grow G3) Hwz.out; go_upto_region 10 with (go_at_call 115; (with_reducible refine cp.mono ?_); rintro e w4 ⟨B1, ys, cap1, rfl, own4, dv4, m4, hg4⟩); clear cp; have m4 : ys.map zj = yq yJ (xs.map zj) := m4
    have src : ∀ y ∈ ys, ∃ z ∈ xs, y.row = zd z.row /\ y.w = yJ z.w /\ y.w ≠ 0 := fun y hy => by
     have h1 : zj y ∈ yq yJ (xs.map zj) := by rw [<- m4]; exact List.mem_map_of_mem hy
     obtain ⟨⟨x, hx, e⟩, hne⟩ := x8 h1; obtain ⟨z, hz, rfl⟩ := List.mem_map.1 hx; exact ⟨z, hz, congrArg Prod.fst e, congrArg Prod.snd e, hne⟩
    have ly : ys.length <= 400 := by
     have h1 := congrArg List.length m4
     have h2 : (yq yJ (xs.map zj)).length <= xs.length := by
      unfold yq; refine Nat.le_trans (List.length_filter_le _ _) ?_; simp
     simp at h1; omega
    have tgy : ys.Pairwise tg := by
     have h1 := can.out.up; rw [<- m4, List.pairwise_map] at h1; exact h1
    have r8 : ∀ y ∈ ys, y.row.length <= 8 := fun y hy => by
     obtain ⟨z, hz, e, _⟩ := src y hy; rw [e, jM]; exact (Hok.out (zj z) (List.mem_map_of_mem hz)).1
    have rvy : ∀ y ∈ ys, ∀ v ∈ y.row, RV v := fun y hy => by
     obtain ⟨z, hz, e, _⟩ := src y hy; rw [e]; exact qq (Hok.out (zj z) (List.mem_map_of_mem hz)).2
    have wy : ∀ y ∈ ys, 0 < y.w /\ y.w <= 1000000 := fun y hy => by
     obtain ⟨z, hz, _, e, hne⟩ := src y hy; have := Hbd.out (zj z) (List.mem_map_of_mem hz); have hzw : (zj z).2 = z.w := rfl; rw [hzw] at this; unfold yJ at e; split at e <;> omega
    have rey : ∀ y ∈ ys, ∀ e ∈ es, RE y.row.length e := fun y hy e he => by
     obtain ⟨z, hz, er, _⟩ := src y hy; obtain ⟨T, hok⟩ := Xz (Hty.out e he); have hl := ((yP cols z.row).1 (Hfit.out (zj z) (List.mem_map_of_mem hz))).1; rw [er, jM, hl]; exact WN e hok.ty
    have cs := DG ⟨es, Ae, ce, gk⟩ ys B1 cap1 w3 w4 hg4 own4 dv4 ly tgy r8 rvy rey (by show es.length <= 1000; omega) (BK.out.grow (hg2.trans hg3)) (HX.out.grow G3); have M4 := Lib.hid m4; have TGY := Lib.hid tgy; have R8 := Lib.hid r8; have RVY := Lib.hid rvy; have WY := Lib.hid wy
    skip
    clear src tgy r8 rvy wy rey own4 dv4 m4; go_upto_region 14 with (go_at_call 137; (with_reducible refine cs.mono ?_); rintro e w5 ⟨rfl, ⟨M, pM, uM, zM⟩, hg5⟩); have lM : M.length = ys.length := pM.length_eq
    have eM : M.map zj = XO es (yq yJ (xs.map zj)) := by
     refine DD can.out.up ?_ ?_
     ·rw [<- M4.out]; exact pM.map zj
     ·rw [List.pairwise_map]; exact uM
    have ZM := Lib.hid zM; have EM := Lib.hid eM; have mem : ∀ u ∈ M, u ∈ ys := fun u hu => pM.mem_iff.1 hu
    have Mem := Lib.hid mem; have G5 := Lib.hid (G3.trans hg5); clear zM eM pM uM cs mem; go_wp2
    go_loopw [15, 16, 51] (fun t lf i wr => ∃ (j : Nat) (out : List I) (left : Int), j <= ys.length /\ i = .int .i64 j /\ lf = .int .i64 left /\ 0 <= left /\ left <= 50 /\ wr.ownsRow w5.heap.size 62 2 t out.length (zt out) /\ out.length <= j /\ out.map zj ++ ko left ((M.drop j).map zj) = ko k (M.map zj) /\ (∀ u ∈ out, (∃ y ∈ M, u.A = y.A /\ u.row = y.row) /\ -1000000 <= u.w /\ u.w <= 1000000) /\ za w5 wr) (fun _ _ i _ => ys.length - (intOf i).toNat)
    case atStart => exact ⟨0, [], k, Nat.zero_le _, rfl, rfl, hk50.1, hk50.2, World.ownsRow_nil _ _ _ _, Nat.le_refl _, rfl, fun u hu => by simp at hu, za.refl _⟩
    case round =>
     rename World => wr
     obtain ⟨j, out, left, hj, rfl, rfl, hl0, hl50, own, lo, hgo, hall, hg⟩ := hrel; obtain ⟨Bo, capo, rfl⟩ := xk own; have Own := Lib.hid own; have Go := Lib.hid hgo; have All := Lib.hid hall; clear own hgo hall
     by_cases hlt : j < ys.length
     ·obtain ⟨y, hyk⟩ : ∃ y, M[j]? = some y := ⟨_, List.getElem?_eq_getElem (by omega)⟩
      obtain ⟨gx, ox, rfl, c1, c2, hyv⟩ := (ZM.out.grow hg) j y hyk; have hm := List.mem_of_getElem? hyk; have wyy := WY.out y (Mem.out y hm); have st := DR left hyk; have Hm := Lib.hid hm; have St := Lib.hid st; clear hyk hyv hm st; go_upto_region 16 with fail
      refine zc (fun Z => zb Z wr.heap.size 62 #[.slice y.A y.row.length y.cap, .int .i64 y.w] /\ za wr Z) ⟨zb.new _ _ _, (za.refl wr).al _⟩ ?_; rintro Z ⟨Bz, Gz⟩; have BZ := Lib.hid Bz; obtain ⟨bz, fz⟩ := Bz.rules; clear c1 c2 Bz
      by_cases hl : 0 < left
      ·have dl : decide (0 < left) = true := decide_eq_true hl; go_upto_region 18 with fail
       refine zc (fun Z2 => zb Z2 wr.heap.size 62 #[.slice y.A y.row.length y.cap, .int .i64 (min y.w left)] /\ za wr Z2) ⟨by simpa using zb.set BZ.out 1 (.int .i64 (min y.w left)), za.set Gz (Nat.le_refl _) _⟩ ?_; rintro Z2 ⟨Bz2, Gz2⟩; obtain ⟨m, hmin⟩ : ∃ m, min y.w left = m := ⟨_, rfl⟩
       rw [hmin] at Bz2; have hm1 : 0 < m /\ m <= y.w /\ m <= left := by rw [<- hmin]; omega
       have hmin2 : (if y.w <= left then y.w else left) = m := by rw [<- hmin]; split <;> omega
       have Hmin := Lib.hid hmin2; obtain ⟨bz2, fz2⟩ := Bz2.rules; have hwp : IntKind.i64.wrap (left - m) = left - m := by rw [IntKind.wrap_i64]; omega
       have Own2 := Lib.hid (zl Own.out Gz2); have sz2 := (hg.trans Gz2).size; clear hmin2 bz fz Bz2; rw [hmin]; clear hmin
       go_wp2_with (at_builtin; refine zS rfl _ _ rfl w5.heap.size _ _ _ rfl (Own2.out.alloc _) _ [I.mk y.A y.row y.cap m] rfl (jJ rfl (zb.new _ _ _)) (by simp; omega) (by simp; omega) ?_; intro v7 w7 own7 gr7)
       have G7 : za w5 w7 := zY ((hg.trans Gz2).al _) gr7 (Own2.out.alloc _); have Own7 := Lib.hid own7; clear own7 gr7; go_roundw
       case rel =>
        refine ⟨j + 1, out ++ [I.mk y.A y.row y.cap m], left - m, by omega, by go_num, rfl, by omega, by omega, by simpa using Own7.out, by simp; omega, ?_, fun u hu => ?_, G7⟩
        ·have h1 := Go.out; rw [St.out, if_pos hl, Hmin.out] at h1; rw [List.map_append, List.append_assoc]; exact h1
        ·rcases List.mem_append.1 hu with hu | hu
         ·exact All.out u hu
         ·simp at hu; subst hu; exact ⟨⟨y, Hm.out, rfl, rfl⟩, by show -1000000 <= m; omega, by show m <= 1000000; omega⟩
       case measure => simp [intOf]; omega
      ·have dl : decide (0 < left) = false := decide_eq_false hl; have Own2 := Lib.hid (zl Own.out Gz); go_wp2; go_roundw
       case rel => exact ⟨j + 1, out, left, by omega, by go_num, rfl, hl0, hl50, Own2.out, by omega, by have h1 := Go.out; rw [St.out, if_neg hl] at h1; exact h1, All.out, hg.trans Gz⟩
       case measure => simp [intOf]; omega
     ·obtain rfl : j = ys.length := by omega
      have ofin : out.map zj = ko k (XO es (yq yJ (xs.map zj))) := by
       have h1 := Go.out; rw [<- lM, List.drop_length] at h1; simp only [List.map_nil, ko, List.append_nil] at h1; rw [h1, EM.out]
      obtain ⟨B9, cap9, e9, hz9, hk9⟩ := Xa Own.out (fun u hu => by
       obtain ⟨⟨y, hy, eA, er⟩, _⟩ := All.out u hu; rw [eA, er]
       exact (ZM.out.vsl y hy).grow hg)
      simp only [Value.slice.injEq] at e9; obtain ⟨rfl, _, rfl⟩ := e9; have cs := kF out Bo capo wr (by omega) hz9 (fun u hu => by obtain ⟨⟨y, hy, eA, er⟩, _⟩ := All.out u hu; have := R8.out y (Mem.out y hy); rw [er]; omega) (fun u hu => by obtain ⟨⟨y, hy, eA, er⟩, _⟩ := All.out u hu; rw [er]; exact RVY.out y (Mem.out y hy)) (fun u hu => (All.out u hu).2); rw [ofin, <- EQ.out] at cs; clear hz9 hk9 ofin
      go_wp2_with (go_at_call 52; ((with_reducible refine cs.mono ?_); rintro en w7 ⟨C, zs, cap2, rfl, hz3, hm3, hk3, hg7⟩; have Out := Lib.hid (And.intro hz3 (And.intro hm3 hk3)); clear hz3 hm3 hk3))
      refine bodyPost_ret (by simp [results, Tryz.results117, go_sem] <;> rfl) rfl ?_; exact ⟨C, zs, cap2, rfl, Out.out.1, Out.out.2.1, Out.out.2.2, G5.out.trans (hg.trans hg7)⟩
   ·have eQ : Q = ([], IE) := by rw [Fin.out, if_neg (by simpa using h0), if_neg hk1, if_pos h1]
    have d3 : (IE != 0) = true := by simpa using h1
    subst h0
    go_wp2_with (first
     | (go_at_call 67; ((with_reducible refine (ct _ G).mono ?_); rintro e w2 ⟨BT, capT, rfl, _, _, hg2⟩))
     | (go_at_call 76; ((with_reducible refine (ci _ (G.trans hg2)).mono ?_); rintro e w3 ⟨rfl, hg3⟩)))
    refine bodyPost_ret (by simp [results, Tryz.results117, go_sem] <;> rfl) rfl ?_; exact ⟨none, [], 0, by rw [eQ]; rfl, yd _ _, by rw [eQ]; rfl, yw.nil, G.trans (hg2.trans hg3)⟩
 ·have d0 : (TE != 0) = true := by simpa using h0
  have eQ : Q = ([], TE) := by rw [Fin.out, if_pos h0]
  go_wp2_with (go_at_call 67; ((with_reducible refine (ct _ G).mono ?_); rintro e w2 ⟨BT, capT, rfl, _, _, hg2⟩))
  refine bodyPost_ret (by simp [results, Tryz.results117, go_sem] <;> rfl) rfl ?_; exact ⟨none, [], 0, by rw [eQ]; rfl, yd _ _, by rw [eQ]; rfl, yw.nil, G.trans hg2⟩
end Go.Proofs.YtcaedcpjdmlilaaGreat

