/-
 Joined texts of this claim: Tpo, TopP, TopF, TopW. What each proves its own head says; no condition beside those that each theorem names.
-/
import Derived.Test.YtifpomonpneanaaGreatGK
import Derived.Test.YtifpomonpneanaaGreatGVb
import Derived.Test.YtifpomonpneanaaGreatGTd
import Derived.Test.YtifpomonpneanaaGreatGS
import Derived.Test.YtifpomonpneanaaGreatGQ
import Derived.Test.YtifpomonpneanaaGreatGTb
namespace Go.Proofs.YtifpomonpneanaaGreat
open Go.RowKit Go.Calm
set_option linter.unusedSimpArgs false
set_option linter.unusedVariables false
def GivesO (w w' : World) (e : Ending) (r : List Z) : Prop := ∃ (B : Option Addr) (ys : List I) (cap : Nat), e = .returned (.tuple #[.slice B ys.length cap, .int .i64 0]) ∧ w'.ownsRow w.heap.size 47 2 (.slice B ys.length cap) ys.length (flatI ys) ∧ (∀ y ∈ ys, ∃ g, y.A = some ⟨g, 0, none⟩ ∧ DV w' g y.row) ∧ ys.map zOf = r ∧ Grow w w'
set_option maxRecDepth 100000 in
set_option maxHeartbeats 8000000 in
theorem each_posO (f : Int → Int) (hf : ∀ n W, -1000000 ≤ n → n ≤ 1000000 → Calls Tryz.prog 149 #[.int .i64 n] W fun e w' => e = .returned (.int .i64 (f n)) ∧ Grow W w') (A : Option Addr) (xs : List I) (c : Nat) (w : World) (ha : In w ⟨A, xs, c⟩) (hw0 : wrongZ (xs.map zOf) = 0) :
  Calls Tryz.prog 56 #[.slice A xs.length c, .func (.func 149) #[] #[]] w fun en w' => GivesO w w' en (eachL f (xs.map zOf)) := by
 have Ha := Lib.hid ha
 have Hf := Lib.hid hf
 clear ha hf
 go_enter Tryz.func56, Tryz.ntmps56
 obtain ⟨E, hE⟩ : ∃ E, wrongZ (xs.map zOf) = E := ⟨_, rfl⟩
 have cr := fun W (h1 : Blk W w.heap.size 38 #[.slice A xs.length c]) (hg : Grow w W) => zright_one ⟨A, xs, c⟩ w.heap.size W _ h1 (Ha.out.grow hg)
 rw [show wrongZ (S.z ⟨A, xs, c⟩) = E from hE] at cr
 have HE := Lib.hid hE
 clear hE
 go_upto_region 2 with (go_at_call 59; ((with_reducible refine (cr _ (Blk.new _ _ _) (by repeat (first | (with_reducible exact Grow.refl _) | (with_reducible assumption) | (with_reducible refine Grow.set ?_ (by first | (simp; done) | (simp; omega)) _) | (with_reducible refine Grow.al ?_ _) | (with_reducible refine Grow.drew ?_) | (with_reducible refine Grow.drewN ?_ _) | (with_reducible refine Grow.trans ?_ (by assumption))))).mono ?_); rintro e w2 ⟨rfl, hg2⟩))
 have G2 := ((Grow.refl w).al _).trans hg2
 clear cr
 by_cases h0 : E = 0
 ·have d0 : (E != 0) = false := by simpa using h0
  obtain ⟨a1, a2, a3, a4⟩ := S.facts (s := ⟨A, xs, c⟩) (HE.out.trans h0)
  have A2 := Lib.hid a2
  have A4 := Lib.hid a4
  clear a2 a3 a4
  go_wp2
  go_loopw [7, 19] (fun t i wr => ∃ (k : Nat) (out : List I), k ≤ xs.length ∧ i = .int .i64 k ∧ wr.ownsRow w.heap.size 47 2 t out.length (flatI out) ∧ out.map zOf = eachL f ((xs.take k).map zOf) ∧ (∀ y ∈ out, ∃ g, y.A = some ⟨g, 0, none⟩ ∧ DV wr g y.row) ∧ out.length ≤ k ∧ Grow w wr) (fun _ i _ => xs.length - (intOf i).toNat)
  case atStart => exact ⟨0, [], Nat.zero_le _, rfl, World.ownsRow_nil _ _ _ _, rfl, fun y hy => by simp at hy, Nat.le_refl _, G2⟩
  case round =>
   obtain ⟨k, out, hk, rfl, hown, hmap, hdv, hol, hg⟩ := hrel
   have Own := Lib.hid hown
   have Map := Lib.hid hmap
   have Dvs := Lib.hid hdv
   clear hown hmap hdv
   by_cases hlt : k < xs.length
   ·obtain ⟨x, hxk⟩ : ∃ x, xs[k]? = some x := ⟨_, List.getElem?_eq_getElem hlt⟩
    obtain ⟨gx, ox, rfl, c1, c2, hxv⟩ := (Ha.out.z.grow hg) k x hxk
    have hmem := List.mem_of_getElem? hxk
    have hlx := A2.out x hmem
    have cb := fun W (h : Grow wr W) => bare_rowD x.row x.A x.cap W (by omega) (hxv.grow h)
    have cf := fun W => Hf.out x.w W (A4.out x hmem).1 (A4.out x hmem).2
    have es := eachL_snoc f hxk
    rw [← Map.out] at es
    have Es := Lib.hid es
    obtain ⟨m, hm⟩ : ∃ m, f x.w = m := ⟨_, rfl⟩
    rw [hm] at cf
    have Hm := Lib.hid hm
    clear hxk hxv hmem es hm
    go_upto_region 8 with fail
    refine wp_forget (fun X => Blk X wr.heap.size 47 #[.slice x.A x.row.length x.cap, .int .i64 x.w] ∧ Grow wr X) ⟨Blk.new _ _ _, (Grow.refl wr).al _⟩ ?_
    rintro X ⟨Bx, G⟩
    obtain ⟨bx, fx⟩ := Bx.rules
    go_upto_region 9 with (go_at_call 149; (with_reducible refine (cf _).mono ?_); rintro e w3 ⟨rfl, hg3⟩)
    have Bx3 := Bx.grow hg3
    obtain ⟨bx3, fx3⟩ := Bx3.rules
    have G3 := G.trans hg3
    have Own3 := Lib.hid (own_grow Own.out G3)
    by_cases hm0 : m = 0
    ·have dm : (m != 0) = false := by simpa using hm0
     go_wp2
     go_roundw
     case rel => exact ⟨k + 1, out, by omega, by go_num, Own3.out, by rw [Es.out, Hm.out, if_neg (by simpa using hm0), List.append_nil], fun y hy => by obtain ⟨g, h1, h2⟩ := Dvs.out y hy; exact ⟨g, h1, h2.grow G3⟩, by omega, hg.trans G3⟩
     case measure => simp [intOf]; omega
    ·have dm : (m != 0) = true := by simpa using hm0
     go_wp2_with (first
      | (go_at_call 92; ((with_reducible refine (cb _ G3).mono ?_); rintro e w4 ⟨gi, rfl, hdv4, hge, hg4⟩; have Dv4 := Lib.hid hdv4; have Own4 := Lib.hid (own_grow Own3.out hg4); clear hdv4))
      | (at_builtin; refine wpList_append_src rfl _ _ rfl w.heap.size _ out.length out rfl (Own4.out.alloc _) _ [I.mk (some ⟨gi, 0, none⟩) (bareR x.row) x.row.length m] rfl (src_one (bareR_len x.row) (Blk.new _ _ _)) (by simp; omega) (by have := (hg.trans (G3.trans hg4)).size; simp; omega) ?_; intro v7 w7 own7 gr7))
     have G7 : Grow w w7 := grow_own ((hg.trans (G3.trans hg4)).al _) gr7 (Own4.out.alloc _)
     have Own7 := Lib.hid own7
     have Dv7 := Lib.hid (DV.kept (Dv4.out.grow ((Grow.refl _).al _)) (Own4.out.alloc _) gr7)
     have Dvs7 : ∀ y ∈ out, ∃ g, y.A = some ⟨g, 0, none⟩ ∧ DV w7 g y.row := fun y hy => by
      obtain ⟨g, h1, h2⟩ := Dvs.out y hy
      exact ⟨g, h1, DV.kept (h2.grow ((G3.trans hg4).al _)) (Own4.out.alloc _) gr7⟩
     have DVS7 := Lib.hid Dvs7
     clear own7 gr7 Dvs7
     go_roundw
     case rel =>
      refine ⟨k + 1, out ++ [I.mk (some ⟨gi, 0, none⟩) (bareR x.row) x.row.length m], by omega, by go_num, by simpa using Own7.out, ?_, fun y hy => ?_, by simp; omega, G7⟩
      ·rw [Es.out, Hm.out, if_pos hm0]; simp [zOf]
      ·rcases List.mem_append.1 hy with hy | hy
       ·exact DVS7.out y hy
       ·simp at hy; subst hy; exact ⟨gi, rfl, Dv7.out⟩
     case measure => simp [intOf]; omega
   ·obtain rfl : k = xs.length := by omega
    obtain ⟨B, cap, rfl⟩ := own_slice Own.out
    have hm2 : out.map zOf = eachL f (xs.map zOf) := by rw [Map.out, List.take_length]
    have Hm2 := Lib.hid hm2
    clear hm2
    go_wp2
    refine bodyPost_ret (by simp [results, Tryz.results56, go_sem] <;> rfl) rfl ?_
    exact ⟨B, out, cap, rfl, Own.out, Dvs.out, Hm2.out, hg⟩
 ·exact absurd (HE.out.symm.trans hw0) h0
set_option maxRecDepth 100000 in
theorem pos_own (a : S) (w : World) (ha : In w a) (h0 : wrongZ a.z = 0) :
  Calls Tryz.prog 109 #[.slice a.A a.xs.length a.cap] w fun en w' => GivesO w w' en (eachL posF a.z) := by
 have cs := each_posO posF (fun n W h1 h2 => pos_fn n W h1 h2) a.A a.xs a.cap w ha h0
 go_enter Tryz.func109, Tryz.ntmps109
 go_wp2_with (go_at_call 56; ((with_reducible refine cs.mono ?_); rintro en w3 ⟨C, zs, cap2, rfl, hz3, hd3, hm, hg3⟩; have Fin := Lib.hid (And.intro hz3 (And.intro hd3 hm)); clear hz3 hd3 hm))
 refine bodyPost_ret (by simp [results, Tryz.results109, go_sem] <;> rfl) rfl ?_
 exact ⟨C, zs, cap2, rfl, Fin.out.1, Fin.out.2.1, Fin.out.2.2, hg3⟩
def cmpZ (es : List E) (a b : Z) : Int := if rowsG ordV (es.map (ofE a.1)) (es.map (ofE b.1)) ≠ 0 then rowsG ordV (es.map (ofE a.1)) (es.map (ofE b.1)) else rowsG ordV a.1 b.1
theorem cmpZ_swap (es : List E) (a b : Z) : cmpZ es b a = - cmpZ es a b := by
 have h1 := rowsG_swap ordV ordV_swap (es.map (ofE a.1)) (es.map (ofE b.1))
 have h2 := rowsG_swap ordV ordV_swap a.1 b.1
 unfold cmpZ
 split <;> split <;> omega
theorem cmpZ_trans (es : List E) (a b c : Z) (h1 : cmpZ es a b ≤ 0) (h2 : cmpZ es b c ≤ 0) : cmpZ es a c ≤ 0 := by
 have k := rows_tr (es.map (ofE a.1)) (es.map (ofE b.1)) (es.map (ofE c.1))
 have r := rows_tr a.1 b.1 c.1
 unfold cmpZ at *
 split at h1 <;> split at h2 <;> split <;> omega
theorem cmpZ_row {es : List E} {a b : Z} (h1 : cmpZ es a b ≤ 0) (h2 : cmpZ es b a ≤ 0) : rowsG ordV a.1 b.1 = 0 := by
 rw [cmpZ_swap] at h2
 have h0 : cmpZ es a b = 0 := by omega
 unfold cmpZ at h0
 split at h0
 ·rename_i h; exact absurd h0 h
 ·exact h0
def leZ (es : List E) (a b : Z) : Bool := decide (cmpZ es a b ≤ 0)
def sortZ (es : List E) (l : List Z) : List Z := l.mergeSort (leZ es)
theorem sortZ_perm (es : List E) (l : List Z) : (sortZ es l).Perm l := List.mergeSort_perm l _
theorem sortZ_up (es : List E) (l : List Z) : (sortZ es l).Pairwise (fun a b => cmpZ es a b ≤ 0) := by
 have h := List.pairwise_mergeSort (le := leZ es) (fun a b c h1 h2 => by simp only [leZ, decide_eq_true_eq] at *; exact cmpZ_trans es a b c h1 h2) (fun a b => by
  simp only [leZ, Bool.or_eq_true, decide_eq_true_eq]
  have := cmpZ_swap es a b
  omega) l
 refine List.Pairwise.imp (fun hab => ?_) h
 simpa [leZ] using hab
theorem pair_mem {α : Type} {R : α → α → Prop} : ∀ {l : List α}, l.Pairwise R → ∀ {a b : α}, a ∈ l → b ∈ l → a = b ∨ R a b ∨ R b a
 | x :: l, h, a, b, ha, hb => by
  rw [List.pairwise_cons] at h
  rcases List.mem_cons.1 ha with e1 | h1
  ·rcases List.mem_cons.1 hb with e2 | h2
   ·exact .inl (e1.trans e2.symm)
   ·exact .inr (.inl (by rw [e1]; exact h.1 b h2))
  ·rcases List.mem_cons.1 hb with e2 | h2
   ·exact .inr (.inr (by rw [e2]; exact h.1 a h1))
   ·exact pair_mem h.2 h1 h2
theorem sortZ_eq {es : List E} {l m : List Z} (hl : l.Pairwise (fun a b => ordR a.1 b.1 < 0)) (hp : m.Perm l) (hm : m.Pairwise (fun a b => cmpZ es a b ≤ 0)) : m = sortZ es l := by
 refine List.Perm.eq_of_pairwise (le := fun a b => cmpZ es a b ≤ 0) (fun a b ha hb h1 h2 => ?_) hm (sortZ_up es l) (hp.trans (sortZ_perm es l).symm)
 have h0 := cmpZ_row h1 h2
 have ha := hp.mem_iff.1 ha
 have hb := (sortZ_perm es l).mem_iff.1 hb
 rcases pair_mem hl ha hb with h | h | h
 ·exact h
 ·unfold ordR at h; omega
 ·unfold ordR at h
  have := rowsG_swap ordV ordV_swap a.1 b.1
  omega
def topGo : Int → List Z → List Z
 | _, [] => []
 | left, x :: l => if 0 < left then (x.1, if x.2 ≤ left then x.2 else left) :: topGo (left - if x.2 ≤ left then x.2 else left) l else topGo left l
def topZ (cols : List Int) (es : List E) (k : Int) (z : List Z) : List Z × Int := if (typesE cols es).2 ≠ 0 then ([], (typesE cols es).2) else if k < 0 ∨ 50 < k then ([], 3) else if inputE cols z ≠ 0 then ([], inputE cols z) else sumZ (topGo k (sortZ es (eachL posF z)))
theorem topGo_mem : ∀ {M : List Z} {left : Int}, (∀ x ∈ M, 0 < x.2) → ∀ {y : Z}, y ∈ topGo left M → ∃ x ∈ M, x.1 = y.1 ∧ 0 < y.2 ∧ y.2 ≤ x.2
 | x :: M, left, hp, y, hy => by
  have hx := hp x (List.mem_cons_self ..)
  unfold topGo at hy
  split at hy
  ·rcases List.mem_cons.1 hy with e | hy
   ·refine ⟨x, List.mem_cons_self .., by rw [e], ?_, ?_⟩
    ·rw [e]; simp only; split <;> omega
    ·rw [e]; simp only; split <;> omega
   ·obtain ⟨z, hz, h⟩ := topGo_mem (fun x hx => hp x (List.mem_cons_of_mem _ hx)) hy
    exact ⟨z, List.mem_cons_of_mem _ hz, h⟩
  ·obtain ⟨z, hz, h⟩ := topGo_mem (fun x hx => hp x (List.mem_cons_of_mem _ hx)) hy
   exact ⟨z, List.mem_cons_of_mem _ hz, h⟩
set_option maxRecDepth 100000 in
theorem ins_nilT (K : KS) (w : World) : Calls Tryz.prog 203 #[.slice none 0 0, .int .i64 0, .int .i64 0, (cmpFT K)] w fun en w' => en = .returned (.tuple #[]) ∧ Grow w w' := by
 go_enter Tryz.func203, Tryz.ntmps203
 go_wp2
 go_loopw [8] (fun i wr => i = .int .i64 1 ∧ Grow w wr) (fun i _ => 0)
 case atStart => exact ⟨rfl, Grow.refl _⟩
 case round =>
  obtain ⟨rfl, hg⟩ := hrel
  go_wp2
  go_end0
  exact ⟨rfl, hg⟩
set_option maxRecDepth 100000 in
theorem stable_nil (K : KS) (w : World) : Calls Tryz.prog 172 #[.slice none 0 0, .int .i64 0, (cmpFT K)] w fun en w' => en = .returned (.tuple #[]) ∧ Grow w w' := by
 have cs := ins_nilT K
 go_enter Tryz.func172, Tryz.ntmps172
 go_wp2
 go_loopw [7, 8] (fun sa sb wr => sa = .int .i64 0 ∧ sb = .int .i64 20 ∧ Grow w wr) (fun sa _ _ => 0)
 case atStart => exact ⟨rfl, rfl, Grow.refl _⟩
 case round =>
  obtain ⟨rfl, rfl, hg⟩ := hrel
  go_wp2_with (go_at_call 203; ((with_reducible refine (cs _).mono ?_); rintro en w2 ⟨rfl, hg2⟩))
  go_loopw [6] (fun sk w3 => sk = .int .i64 20 ∧ Grow w w3) (fun sk _ => 0)
  case atStart => exact ⟨rfl, hg.trans hg2⟩
  case round =>
   obtain ⟨rfl, hg3⟩ := hrel
   go_wp2
   go_end0
   exact ⟨rfl, hg3⟩
set_option maxRecDepth 100000 in
theorem sort_nilT (K : KS) (w : World) : Calls Tryz.prog 133 #[.slice none 0 0, (cmpFT K)] w fun en w' => en = .returned (.tuple #[]) ∧ Grow w w' := by
 have cs := stable_nil K
 go_enter Tryz.func133, Tryz.ntmps133
 go_wp2_with (go_at_call 172; ((with_reducible refine (cs _).mono ?_); rintro en w2 ⟨rfl, hg2⟩))
 go_end0
 exact ⟨rfl, hg2⟩
theorem dv_ne {w : World} {g g' : Nat} {xs : List I} {row : List V} (h : DBx w g xs) (hd : DV w g' row) : g' ≠ g := by
 rintro rfl
 obtain ⟨r, h⟩ := h
 unfold DV Blk at hd
 unfold Blk at h
 rw [h] at hd
 simp at hd
theorem sort_own (K : KS) (ys : List I) (B : Option Addr) (cap : Nat) (w3 w4 : World) (hg : Grow w3 w4) (own : w4.ownsRow w3.heap.size 47 2 (.slice B ys.length cap) ys.length (flatI ys)) (hdv : ∀ y ∈ ys, ∃ g, y.A = some ⟨g, 0, none⟩ ∧ DV w4 g y.row) (hl : ys.length ≤ 400) (ht : ys.Pairwise tg) (hr8 : ∀ y ∈ ys, y.row.length ≤ 8) (hrv : ∀ y ∈ ys, ∀ v ∈ y.row, RV v) (hre : ∀ y ∈ ys, ∀ e ∈ K.es, RE y.row.length e) (hkl : K.es.length ≤ 1000) (hk : Blk w3 K.gk 25 #[.slice K.A K.es.length K.c]) (hes : ESl w3 K.A K.es) :
  Calls Tryz.prog 133 #[.slice B ys.length cap, (cmpFT K)] w4 fun en w' => en = .returned (.tuple #[]) ∧ (∃ M : List I, M.Perm ys ∧ UpT K M ∧ ZIn w' B M) ∧ Grow w3 w' := by
 have own0 := own
 rcases own.2 with ⟨e, h0⟩ | ⟨g, cap', cur, e, hB, hgb, _⟩
 ·simp at e
  obtain ⟨rfl, h1, rfl⟩ := e
  subst h1
  refine (sort_nilT K w4).mono ?_
  rintro en w' ⟨rfl, hg'⟩
  exact ⟨rfl, ⟨[], List.Perm.refl _, List.Pairwise.nil, zin_nil _ _⟩, hg.trans hg'⟩
 ·simp at e
  obtain ⟨rfl, rfl⟩ := e
  have db := (own_db own0).1
  have base : ∀ W, GX g w4 W → Grow w3 W := fun W h => GX.base hg hB h
  have good : ∀ y ∈ ys, GoodT K g w4 y := fun y hy => by
   obtain ⟨g', eA, hd⟩ := hdv y hy
   have hne := dv_ne db hd
   exact ⟨fun W h => by rw [eA]; exact DV.vsl (GX.blk h hne hd), fun W h => ⟨hk.grow (base W h), hes.grow (base W h)⟩, by have := hr8 y hy; omega, hkl, hrv y hy, hre y hy⟩
  refine (sort_stableT (K := K) ys ys.length cap g w4 w4 rfl (by omega) ht good (GX.refl _ _) db).mono ?_
  rintro en w' ⟨rfl, ⟨M, p, u, db'⟩, hgx⟩
  refine ⟨rfl, ⟨M, p, u, db'.zin (fun x hx => ?_)⟩, base _ hgx⟩
  exact (good x (p.mem_iff.1 hx)).sl _ hgx
theorem topGo_at (left : Int) {M : List I} {k : Nat} {x : I} (h : M[k]? = some x) : topGo left ((M.drop k).map zOf) = if 0 < left then (x.row, if x.w ≤ left then x.w else left) :: topGo (left - if x.w ≤ left then x.w else left) ((M.drop (k + 1)).map zOf) else topGo left ((M.drop (k + 1)).map zOf) := by
 obtain ⟨h1, e1⟩ := List.getElem?_eq_some_iff.1 h
 rw [List.drop_eq_getElem_cons h1, e1]; rfl
set_option maxRecDepth 100000 in
set_option maxHeartbeats 8000000 in
theorem top_any (cols : List Int) (Ac : Option Addr) (cc : Nat) (es : List E) (Ae : Option Addr) (ce : Nat) (k : Int) (xs : List I) (A : Option Addr) (c : Nat) (w : World) (hlen : cols.length ≤ 9223372036854775807) (hle : es.length ≤ 9223372036854775807) (hc : ISl w Ac cols) (hE : ESl w Ae es) (h : In w ⟨A, xs, c⟩) :
  Calls Tryz.prog 111 #[.slice Ac cols.length cc, .slice Ae es.length ce, .int .i64 k, .slice A xs.length c] w fun en w' => Gives w w' en (topZ cols es k (xs.map zOf)) := by
 have H := Lib.hid h
 have Hc := Lib.hid hc
 have HX := Lib.hid hE
 have ct := fun W (hg : Grow w W) => types_any cols Ac cc es Ae ce W hlen hle (hc.grow hg) (hE.grow hg)
 have ci := fun W (hg : Grow w W) => input_any cols Ac cc xs A c W hlen (Hc.out.grow hg) (H.out.grow hg)
 obtain ⟨TS, TE, hTE⟩ : ∃ TS TE, typesE cols es = (TS, TE) := ⟨_, _, rfl⟩
 obtain ⟨IE, hIE⟩ : ∃ IE, inputE cols (xs.map zOf) = IE := ⟨_, rfl⟩
 rw [hTE] at ct
 rw [hIE] at ci
 obtain ⟨Q, hQ⟩ : ∃ Q, topZ cols es k (xs.map zOf) = Q := ⟨_, rfl⟩
 rw [hQ]
 have fin : Q = if TE ≠ 0 then ([], TE) else if k < 0 ∨ 50 < k then ([], 3) else if IE ≠ 0 then ([], IE) else sumZ (topGo k (sortZ es (eachL posF (xs.map zOf)))) := by rw [← hQ]; unfold topZ; rw [hTE, hIE]
 have Fin := Lib.hid fin
 have HTE := Lib.hid hTE
 have HIE := Lib.hid hIE
 clear h hc hE hTE hIE hQ fin
 go_enter Tryz.func111, Tryz.ntmps111
 go_upto_region 1 with fail
 refine wp_forget (fun X => Blk X w.heap.size 25 #[.slice Ae es.length ce] ∧ Grow w X) ⟨Blk.new _ _ _, (Grow.refl w).al _⟩ ?_
 generalize w.heap.size = gk
 rintro X ⟨Bk, G⟩
 have BK := Lib.hid Bk
 obtain ⟨bk, fk⟩ := Bk.rules
 clear Bk
 by_cases h0 : TE = 0
 ·by_cases hk1 : k < 0 ∨ 50 < k
  ·have eQ : Q = ([], 3) := by rw [Fin.out, if_neg (by simpa using h0), if_pos hk1]
   subst h0
   rcases hk1 with hk1 | hk1
   ·have d1 : decide (k < 0) = true := decide_eq_true hk1
    go_wp2_with (go_at_call 64; ((with_reducible refine (ct _ G).mono ?_); rintro e w2 ⟨BT, capT, rfl, _, _, hg2⟩))
    refine bodyPost_ret (by simp [results, Tryz.results111, go_sem] <;> rfl) rfl ?_
    exact ⟨none, [], 0, by rw [eQ]; rfl, zin_nil _ _, by rw [eQ]; rfl, SlOk.nil, G.trans hg2⟩
   ·have d1 : decide (k < 0) = false := decide_eq_false (by omega)
    have d2 : decide (50 < k) = true := decide_eq_true hk1
    go_wp2_with (go_at_call 64; ((with_reducible refine (ct _ G).mono ?_); rintro e w2 ⟨BT, capT, rfl, _, _, hg2⟩))
    refine bodyPost_ret (by simp [results, Tryz.results111, go_sem] <;> rfl) rfl ?_
    exact ⟨none, [], 0, by rw [eQ]; rfl, zin_nil _ _, by rw [eQ]; rfl, SlOk.nil, G.trans hg2⟩
  ·have d1 : decide (k < 0) = false := decide_eq_false (by omega)
   have d2 : decide (50 < k) = false := decide_eq_false (by omega)
   by_cases h1 : IE = 0
   ·subst h0 h1
    have eQ : Q = sumZ (topGo k (sortZ es (eachL posF (xs.map zOf)))) := by rw [Fin.out, if_neg (by simp), if_neg hk1, if_neg (by simp)]
    have EQ := Lib.hid eQ
    obtain ⟨_, hwz, hfit⟩ := inputE_zero HIE.out
    obtain ⟨a1, a2, a3, a4⟩ := S.facts (s := ⟨A, xs, c⟩) hwz
    have a1 : xs.length ≤ 400 := a1
    obtain ⟨he8, hty⟩ := typesE_zero (by rw [HTE.out] : (typesE cols es).2 = 0)
    have Hty := Lib.hid hty
    have smz := SM.of hwz
    have can := Lib.hid (eachL_canon (f := posF) smz.rv smz.up)
    have Hfit := Lib.hid hfit
    have Hok := Lib.hid smz.ok
    have Hbd := Lib.hid smz.bd
    have Hwz := Lib.hid hwz
    have hk50 : 0 ≤ k ∧ k ≤ 50 := by omega
    clear eQ hwz hfit a2 a3 a4 hty smz hk1
    go_upto_region 9 with (first
     | (go_at_call 64; ((with_reducible refine (ct _ G).mono ?_); rintro e w2 ⟨BT, capT, rfl, _, _, hg2⟩))
     | (go_at_call 73; ((with_reducible refine (ci _ (G.trans hg2)).mono ?_); rintro e w3 ⟨rfl, hg3⟩)))
    clear ct ci bk fk d1 d2
    have G3 := G.trans (hg2.trans hg3)
    have cp := pos_own ⟨A, xs, c⟩ w3 (H.out.grow G3) Hwz.out
    go_upto_region 10 with (go_at_call 109; (with_reducible refine cp.mono ?_); rintro e w4 ⟨B1, ys, cap1, rfl, own4, dv4, m4, hg4⟩)
    clear cp
    have m4 : ys.map zOf = eachL posF (xs.map zOf) := m4
    have src : ∀ y ∈ ys, ∃ z ∈ xs, y.row = bareR z.row ∧ y.w = posF z.w ∧ y.w ≠ 0 := fun y hy => by
     have h1 : zOf y ∈ eachL posF (xs.map zOf) := by rw [← m4]; exact List.mem_map_of_mem hy
     obtain ⟨⟨x, hx, e⟩, hne⟩ := eachL_mem h1
     obtain ⟨z, hz, rfl⟩ := List.mem_map.1 hx
     exact ⟨z, hz, congrArg Prod.fst e, congrArg Prod.snd e, hne⟩
    have ly : ys.length ≤ 400 := by
     have h1 := congrArg List.length m4
     have h2 : (eachL posF (xs.map zOf)).length ≤ xs.length := by
      unfold eachL
      refine Nat.le_trans (List.length_filter_le _ _) ?_
      simp
     simp at h1; omega
    have tgy : ys.Pairwise tg := by
     have h1 := can.out.up
     rw [← m4, List.pairwise_map] at h1
     exact h1
    have r8 : ∀ y ∈ ys, y.row.length ≤ 8 := fun y hy => by
     obtain ⟨z, hz, e, _⟩ := src y hy
     rw [e, bareR_len]
     exact (Hok.out (zOf z) (List.mem_map_of_mem hz)).1
    have rvy : ∀ y ∈ ys, ∀ v ∈ y.row, RV v := fun y hy => by
     obtain ⟨z, hz, e, _⟩ := src y hy
     rw [e]
     exact bareR_rv (Hok.out (zOf z) (List.mem_map_of_mem hz)).2
    have wy : ∀ y ∈ ys, 0 < y.w ∧ y.w ≤ 1000000 := fun y hy => by
     obtain ⟨z, hz, _, e, hne⟩ := src y hy
     have := Hbd.out (zOf z) (List.mem_map_of_mem hz)
     have hzw : (zOf z).2 = z.w := rfl
     rw [hzw] at this
     unfold posF at e
     split at e <;> omega
    have rey : ∀ y ∈ ys, ∀ e ∈ es, RE y.row.length e := fun y hy e he => by
     obtain ⟨z, hz, er, _⟩ := src y hy
     obtain ⟨T, hok⟩ := okay_of (Hty.out e he)
     have hl := ((fits_iff cols z.row).1 (Hfit.out (zOf z) (List.mem_map_of_mem hz))).1
     rw [er, bareR_len, hl]
     exact wt_re e hok.ty
    have cs := sort_own ⟨es, Ae, ce, gk⟩ ys B1 cap1 w3 w4 hg4 own4 dv4 ly tgy r8 rvy rey (by show es.length ≤ 1000; omega) (BK.out.grow (hg2.trans hg3)) (HX.out.grow G3)
    have M4 := Lib.hid m4
    have TGY := Lib.hid tgy
    have R8 := Lib.hid r8
    have RVY := Lib.hid rvy
    have WY := Lib.hid wy
    skip
    clear src tgy r8 rvy wy rey own4 dv4 m4
    go_upto_region 14 with (go_at_call 133; (with_reducible refine cs.mono ?_); rintro e w5 ⟨rfl, ⟨M, pM, uM, zM⟩, hg5⟩)
    have lM : M.length = ys.length := pM.length_eq
    have eM : M.map zOf = sortZ es (eachL posF (xs.map zOf)) := by
     refine sortZ_eq can.out.up ?_ ?_
     ·rw [← M4.out]; exact pM.map zOf
     ·rw [List.pairwise_map]; exact uM
    have ZM := Lib.hid zM
    have EM := Lib.hid eM
    have mem : ∀ u ∈ M, u ∈ ys := fun u hu => pM.mem_iff.1 hu
    have Mem := Lib.hid mem
    have G5 := Lib.hid (G3.trans hg5)
    clear zM eM pM uM cs mem
    go_wp2
    go_loopw [15, 16, 51] (fun t lf i wr => ∃ (j : Nat) (out : List I) (left : Int), j ≤ ys.length ∧ i = .int .i64 j ∧ lf = .int .i64 left ∧ 0 ≤ left ∧ left ≤ 50 ∧ wr.ownsRow w5.heap.size 47 2 t out.length (flatI out) ∧ out.length ≤ j ∧ out.map zOf ++ topGo left ((M.drop j).map zOf) = topGo k (M.map zOf) ∧ (∀ u ∈ out, (∃ y ∈ M, u.A = y.A ∧ u.row = y.row) ∧ -1000000 ≤ u.w ∧ u.w ≤ 1000000) ∧ Grow w5 wr) (fun _ _ i _ => ys.length - (intOf i).toNat)
    case atStart => exact ⟨0, [], k, Nat.zero_le _, rfl, rfl, hk50.1, hk50.2, World.ownsRow_nil _ _ _ _, Nat.le_refl _, rfl, fun u hu => by simp at hu, Grow.refl _⟩
    case round =>
     rename World => wr
     obtain ⟨j, out, left, hj, rfl, rfl, hl0, hl50, own, lo, hgo, hall, hg⟩ := hrel
     obtain ⟨Bo, capo, rfl⟩ := own_slice own
     have Own := Lib.hid own
     have Go := Lib.hid hgo
     have All := Lib.hid hall
     clear own hgo hall
     by_cases hlt : j < ys.length
     ·obtain ⟨y, hyk⟩ : ∃ y, M[j]? = some y := ⟨_, List.getElem?_eq_getElem (by omega)⟩
      obtain ⟨gx, ox, rfl, c1, c2, hyv⟩ := (ZM.out.grow hg) j y hyk
      have hm := List.mem_of_getElem? hyk
      have wyy := WY.out y (Mem.out y hm)
      have st := topGo_at left hyk
      have Hm := Lib.hid hm
      have St := Lib.hid st
      clear hyk hyv hm st
      go_upto_region 16 with fail
      refine wp_forget (fun Z => Blk Z wr.heap.size 47 #[.slice y.A y.row.length y.cap, .int .i64 y.w] ∧ Grow wr Z) ⟨Blk.new _ _ _, (Grow.refl wr).al _⟩ ?_
      rintro Z ⟨Bz, Gz⟩
      have BZ := Lib.hid Bz
      obtain ⟨bz, fz⟩ := Bz.rules
      clear c1 c2 Bz
      by_cases hl : 0 < left
      ·have dl : decide (0 < left) = true := decide_eq_true hl
       go_upto_region 18 with fail
       refine wp_forget (fun Z2 => Blk Z2 wr.heap.size 47 #[.slice y.A y.row.length y.cap, .int .i64 (min y.w left)] ∧ Grow wr Z2) ⟨by simpa using Blk.set BZ.out 1 (.int .i64 (min y.w left)), Grow.set Gz (Nat.le_refl _) _⟩ ?_
       rintro Z2 ⟨Bz2, Gz2⟩
       obtain ⟨m, hmin⟩ : ∃ m, min y.w left = m := ⟨_, rfl⟩
       rw [hmin] at Bz2
       have hm1 : 0 < m ∧ m ≤ y.w ∧ m ≤ left := by rw [← hmin]; omega
       have hmin2 : (if y.w ≤ left then y.w else left) = m := by rw [← hmin]; split <;> omega
       have Hmin := Lib.hid hmin2
       obtain ⟨bz2, fz2⟩ := Bz2.rules
       have hwp : IntKind.i64.wrap (left - m) = left - m := by rw [IntKind.wrap_i64]; omega
       have Own2 := Lib.hid (own_grow Own.out Gz2)
       have sz2 := (hg.trans Gz2).size
       clear hmin2 bz fz Bz2
       rw [hmin]
       clear hmin
       go_wp2_with (at_builtin; refine wpList_append_src rfl _ _ rfl w5.heap.size _ _ _ rfl (Own2.out.alloc _) _ [I.mk y.A y.row y.cap m] rfl (src_one rfl (Blk.new _ _ _)) (by simp; omega) (by simp; omega) ?_; intro v7 w7 own7 gr7)
       have G7 : Grow w5 w7 := grow_own ((hg.trans Gz2).al _) gr7 (Own2.out.alloc _)
       have Own7 := Lib.hid own7
       clear own7 gr7
       go_roundw
       case rel =>
        refine ⟨j + 1, out ++ [I.mk y.A y.row y.cap m], left - m, by omega, by go_num, rfl, by omega, by omega, by simpa using Own7.out, by simp; omega, ?_, fun u hu => ?_, G7⟩
        ·have h1 := Go.out
         rw [St.out, if_pos hl, Hmin.out] at h1
         rw [List.map_append, List.append_assoc]
         exact h1
        ·rcases List.mem_append.1 hu with hu | hu
         ·exact All.out u hu
         ·simp at hu
          subst hu
          exact ⟨⟨y, Hm.out, rfl, rfl⟩, by show -1000000 ≤ m; omega, by show m ≤ 1000000; omega⟩
       case measure => simp [intOf]; omega
      ·have dl : decide (0 < left) = false := decide_eq_false hl
       have Own2 := Lib.hid (own_grow Own.out Gz)
       go_wp2
       go_roundw
       case rel => exact ⟨j + 1, out, left, by omega, by go_num, rfl, hl0, hl50, Own2.out, by omega, by have h1 := Go.out; rw [St.out, if_neg hl] at h1; exact h1, All.out, hg.trans Gz⟩
       case measure => simp [intOf]; omega
     ·obtain rfl : j = ys.length := by omega
      have ofin : out.map zOf = topGo k (sortZ es (eachL posF (xs.map zOf))) := by
       have h1 := Go.out
       rw [← lM, List.drop_length] at h1
       simp only [List.map_nil, topGo, List.append_nil] at h1
       rw [h1, EM.out]
      obtain ⟨B9, cap9, e9, hz9, hk9⟩ := own_zin' Own.out (fun u hu => by
       obtain ⟨⟨y, hy, eA, er⟩, _⟩ := All.out u hu
       rw [eA, er]
       exact (ZM.out.vsl y hy).grow hg)
      simp only [Value.slice.injEq] at e9
      obtain ⟨rfl, _, rfl⟩ := e9
      have cs := sum_any out Bo capo wr (by omega) hz9 (fun u hu => by obtain ⟨⟨y, hy, eA, er⟩, _⟩ := All.out u hu; have := R8.out y (Mem.out y hy); rw [er]; omega) (fun u hu => by obtain ⟨⟨y, hy, eA, er⟩, _⟩ := All.out u hu; rw [er]; exact RVY.out y (Mem.out y hy)) (fun u hu => (All.out u hu).2)
      rw [ofin, ← EQ.out] at cs
      clear hz9 hk9 ofin
      go_wp2_with (go_at_call 60; ((with_reducible refine cs.mono ?_); rintro en w7 ⟨C, zs, cap2, rfl, hz3, hm3, hk3, hg7⟩; have Out := Lib.hid (And.intro hz3 (And.intro hm3 hk3)); clear hz3 hm3 hk3))
      refine bodyPost_ret (by simp [results, Tryz.results111, go_sem] <;> rfl) rfl ?_
      exact ⟨C, zs, cap2, rfl, Out.out.1, Out.out.2.1, Out.out.2.2, G5.out.trans (hg.trans hg7)⟩
   ·have eQ : Q = ([], IE) := by rw [Fin.out, if_neg (by simpa using h0), if_neg hk1, if_pos h1]
    have d3 : (IE != 0) = true := by simpa using h1
    subst h0
    go_wp2_with (first
     | (go_at_call 64; ((with_reducible refine (ct _ G).mono ?_); rintro e w2 ⟨BT, capT, rfl, _, _, hg2⟩))
     | (go_at_call 73; ((with_reducible refine (ci _ (G.trans hg2)).mono ?_); rintro e w3 ⟨rfl, hg3⟩)))
    refine bodyPost_ret (by simp [results, Tryz.results111, go_sem] <;> rfl) rfl ?_
    exact ⟨none, [], 0, by rw [eQ]; rfl, zin_nil _ _, by rw [eQ]; rfl, SlOk.nil, G.trans (hg2.trans hg3)⟩
 ·have d0 : (TE != 0) = true := by simpa using h0
  have eQ : Q = ([], TE) := by rw [Fin.out, if_pos h0]
  go_wp2_with (go_at_call 64; ((with_reducible refine (ct _ G).mono ?_); rintro e w2 ⟨BT, capT, rfl, _, _, hg2⟩))
  refine bodyPost_ret (by simp [results, Tryz.results111, go_sem] <;> rfl) rfl ?_
  exact ⟨none, [], 0, by rw [eQ]; rfl, zin_nil _ _, by rw [eQ]; rfl, SlOk.nil, G.trans hg2⟩
end Go.Proofs.YtifpomonpneanaaGreat
