/-
  Joined texts of this claim: Wp, Wq, Wl, Wt0, Wt. What each proves its own head says; no condition beside those that each theorem names.
-/
import Derived.Test.YtamfpppbjaelaaaGAa
import Derived.Test.YtamfpppbjaelaaaGS
import Derived.Test.YtamfpppbjaelaaaGTd
import Derived.Test.YtamfpppbjaelaaaGVb
import Derived.Deep.DeepCutAuto
import Derived.Deep.LoopGhost
import Derived.BigRegion
set_option maxRecDepth 100000
set_option maxHeartbeats 8000000
namespace Go.Proofs.Ytamfpppbjaelaaa
open Go.RowKit Go.Calm
set_option linter.unusedSimpArgs false
set_option linter.unusedVariables false
def winT (cols : List Int) (a : Ag) : Int := if a.k = 1 ∨ a.k = 2 ∨ a.k = 3 then 0 else if a.k = 4 ∨ a.k = 5 then (if (typeE cols a.x).2 ≠ 0 then (typeE cols a.x).2 else if a.k = 4 ∧ (typeE cols a.x).1 ≠ 3 ∧ (typeE cols a.x).1 ≠ 1 then 9 else 0) else 1
def winsE (cols : List Int) : List Ag → Int
  | [] => 0
  | x :: l => if winT cols x ≠ 0 then winT cols x else winsE cols l
theorem winsE_at (cols : List Int) {xs : List Ag} {k : Nat} {x : Ag} (h : xs[k]? = some x) : winsE cols (xs.drop k) = if winT cols x ≠ 0 then winT cols x else winsE cols (xs.drop (k + 1)) := by
  obtain ⟨h1, e1⟩ := List.getElem?_eq_some_iff.1 h
  rw [List.drop_eq_getElem_cons h1, e1]; rfl
theorem winsE_zero {cols : List Int} : ∀ {xs : List Ag}, winsE cols xs = 0 → ∀ x ∈ xs, winT cols x = 0
  | [], _, x, hx => by simp at hx
  | y :: l, h, x, hx => by
    unfold winsE at h
    split at h
    · rename_i h1; exact absurd h h1
    · rename_i h1
      rcases List.mem_cons.1 hx with rfl | hx
      · simpa using h1
      · exact winsE_zero h x hx
theorem winT_kind {cols : List Int} {a : Ag} (h : winT cols a = 0) : (a.k = 1 ∨ a.k = 2 ∨ a.k = 3 ∨ a.k = 4 ∨ a.k = 5) ∧ (a.k = 4 ∨ a.k = 5 → (typeE cols a.x).2 = 0) ∧ (a.k = 4 → (typeE cols a.x).1 = 3 ∨ (typeE cols a.x).1 = 1) := by
  unfold winT at h
  repeat' split at h
  all_goals omega

/-! an order by two things, then by rows -/
def lex3 (a b c : Int) : Int := if a ≠ 0 then a else if b ≠ 0 then b else c
def cmpW (ps ks : List E) (a b : List V) : Int := lex3 (rowsG ordV (valsR ps a) (valsR ps b)) (rowsG ordV (valsR ks a) (valsR ks b)) (rowsG ordV a b)
theorem rows3W (a b c : List V) : (rowsG ordV a b ≤ 0 → rowsG ordV b c ≤ 0 → rowsG ordV a c ≤ 0) ∧ (rowsG ordV a b ≤ 0 → rowsG ordV b c ≤ 0 → rowsG ordV a c = 0 → rowsG ordV a b = 0 ∧ rowsG ordV b c = 0) := by
  have t1 := rowsG_trans' a b c
  have t2 := rowsG_trans' c a b
  have t3 := rowsG_trans' b c a
  have s1 := rowsG_swap ordV ordV_swap a b
  have s2 := rowsG_swap ordV ordV_swap b c
  have s3 := rowsG_swap ordV ordV_swap a c
  refine ⟨t1, fun h1 h2 h3 => ?_⟩
  omega
theorem cmpW_swap (ps ks : List E) (a b : List V) : cmpW ps ks b a = - cmpW ps ks a b := by
  have h1 := rowsG_swap ordV ordV_swap (valsR ps a) (valsR ps b)
  have h2 := rowsG_swap ordV ordV_swap (valsR ks a) (valsR ks b)
  have h3 := rowsG_swap ordV ordV_swap a b
  unfold cmpW lex3
  repeat' split
  all_goals omega
theorem cmpW_trans (ps ks : List E) (a b c : List V) (h1 : cmpW ps ks a b ≤ 0) (h2 : cmpW ps ks b c ≤ 0) : cmpW ps ks a c ≤ 0 := by
  have k := rows3W (valsR ps a) (valsR ps b) (valsR ps c)
  have l := rows3W (valsR ks a) (valsR ks b) (valsR ks c)
  have r := rows3W a b c
  unfold cmpW lex3 at *
  generalize rowsG ordV (valsR ps a) (valsR ps b) = x1 at *
  generalize rowsG ordV (valsR ps b) (valsR ps c) = x2 at *
  generalize rowsG ordV (valsR ps a) (valsR ps c) = x3 at *
  generalize rowsG ordV (valsR ks a) (valsR ks b) = y1 at *
  generalize rowsG ordV (valsR ks b) (valsR ks c) = y2 at *
  generalize rowsG ordV (valsR ks a) (valsR ks c) = y3 at *
  generalize rowsG ordV a b = z1 at *
  generalize rowsG ordV b c = z2 at *
  generalize rowsG ordV a c = z3 at *
  repeat' split at h1
  all_goals repeat' split at h2
  all_goals repeat' split
  all_goals omega
theorem cmpW_row {ps ks : List E} {a b : List V} (h1 : cmpW ps ks a b ≤ 0) (h2 : cmpW ps ks b a ≤ 0) : rowsG ordV a b = 0 := by
  rw [cmpW_swap] at h2
  have h0 : cmpW ps ks a b = 0 := by omega
  unfold cmpW lex3 at h0
  repeat' split at h0
  all_goals omega
def expZ (z : List Z) : List (List V) := z.flatMap (fun r => List.replicate r.2.toNat r.1)
def linesW (ps ks : List E) (z : List Z) : List (List V) := (expZ z).mergeSort (fun a b => decide (cmpW ps ks a b ≤ 0))
theorem linesW_perm (ps ks : List E) (z : List Z) : (linesW ps ks z).Perm (expZ z) := List.mergeSort_perm _ _
theorem linesW_up (ps ks : List E) (z : List Z) : (linesW ps ks z).Pairwise (fun a b => cmpW ps ks a b ≤ 0) := by
  have h := List.pairwise_mergeSort (le := fun a b => decide (cmpW ps ks a b ≤ 0)) (fun a b c h1 h2 => by simp only [decide_eq_true_eq] at *; exact cmpW_trans ps ks a b c h1 h2) (fun a b => by
    simp only [Bool.or_eq_true, decide_eq_true_eq]
    have := cmpW_swap ps ks a b
    omega) (expZ z)
  exact List.Pairwise.imp (fun hab => by simpa using hab) h
theorem expZ_mem {z : List Z} {r : List V} (h : r ∈ expZ z) : ∃ x ∈ z, x.1 = r ∧ 0 < x.2 := by
  unfold expZ at h
  rw [List.mem_flatMap] at h
  obtain ⟨x, hx, h⟩ := h
  rw [List.mem_replicate] at h
  exact ⟨x, hx, h.2.symm, by omega⟩
theorem linesW_eq {ps ks : List E} {z : List Z} {m : List (List V)} (hz : z.Pairwise (fun a b => ordR a.1 b.1 < 0)) (hp : m.Perm (expZ z)) (hm : m.Pairwise (fun a b => cmpW ps ks a b ≤ 0)) : m = linesW ps ks z := by
  refine List.Perm.eq_of_pairwise (le := fun a b => cmpW ps ks a b ≤ 0) (fun a b ha hb h1 h2 => ?_) hm (linesW_up ps ks z) (hp.trans (linesW_perm ps ks z).symm)
  have h0 := cmpW_row h1 h2
  obtain ⟨x, hx, rfl, _⟩ := expZ_mem (hp.mem_iff.1 ha)
  obtain ⟨y, hy, rfl, _⟩ := expZ_mem ((linesW_perm ps ks z).mem_iff.1 hb)
  have pm : ∀ {l : List Z}, l.Pairwise (fun a b => ordR a.1 b.1 < 0) → x ∈ l → y ∈ l → x = y ∨ ordR x.1 y.1 < 0 ∨ ordR y.1 x.1 < 0 := fun {l} => by
    induction l with
    | nil => intro _ h; simp at h
    | cons u l ih =>
      intro h hx hy
      rw [List.pairwise_cons] at h
      rcases List.mem_cons.1 hx with e1 | h1
      · rcases List.mem_cons.1 hy with e2 | h2
        · exact .inl (e1.trans e2.symm)
        · exact .inr (.inl (by rw [e1]; exact h.1 y h2))
      · rcases List.mem_cons.1 hy with e2 | h2
        · exact .inr (.inr (by rw [e2]; exact h.1 x h1))
        · exact ih h.2 h1 h2
  unfold ordR at pm
  rcases pm hz hx hy with h | h | h
  · rw [h]
  · omega
  · have := rowsG_swap ordV ordV_swap x.1 y.1
    omega

/-! what is told of a line, the lines ahead of it in its part being q, the last one first -/
def newK (ks : List E) (q : List (List V)) (r : List V) : Bool := match q with
  | [] => true
  | a :: _ => decide (rowsG ordV (valsR ks a) (valsR ks r) ≠ 0)
def rankQ (ks : List E) : List (List V) → Int
  | [] => 0
  | r :: q => if newK ks q r then (q.length : Int) + 1 else rankQ ks q
def denseQ (ks : List E) : List (List V) → Int
  | [] => 0
  | r :: q => if newK ks q r then denseQ ks q + 1 else denseQ ks q
def numQ (x : E) (r : List V) : Int := if (ofE r x).k = 3 then (ofE r x).n else 0
def totQ (x : E) : List (List V) → Int
  | [] => 0
  | r :: q => totQ x q + numQ x r
def someQ (x : E) (q : List (List V)) : Bool := q.any (fun r => decide ((ofE r x).k = 3))
def lagQ (x : E) : List (List V) → V
  | [] => nullV'
  | a :: _ => ofE a x
def valW (ks : List E) (q : List (List V)) (r : List V) (a : Ag) : V :=
  if a.k = 1 then intV ((q.length : Int) + 1) else if a.k = 2 then intV (rankQ ks (r :: q)) else if a.k = 3 then intV (denseQ ks (r :: q)) else if a.k = 5 then lagQ a.x q
  else if someQ a.x (r :: q) then intV (totQ a.x (r :: q)) else nullV'
def tellW (ks : List E) (wins : List Ag) (q : List (List V)) (r : List V) : List V := r ++ wins.map (valW ks q r)
def partQ (ps : List E) (q : List (List V)) (r : List V) : List (List V) := match q with
  | [] => []
  | a :: _ => if rowsG ordV (valsR ps a) (valsR ps r) ≠ 0 then [] else q
def toldW (ps ks : List E) (wins : List Ag) : List (List V) → List (List V) → List (List V)
  | _, [] => []
  | q, r :: l => tellW ks wins (partQ ps q r) r :: toldW ps ks wins (r :: partQ ps q r) l
def cntZ (z : List Z) : Nat := (expZ z).length
def winZ (cols : List Int) (ps ks : List E) (wins : List Ag) (z : List Z) : List Z × Int :=
  if 8 < cols.length + wins.length then ([], 5)
  else if (typesE cols ps).2 ≠ 0 then ([], (typesE cols ps).2)
  else if (typesE cols ks).2 ≠ 0 then ([], (typesE cols ks).2)
  else if winsE cols wins ≠ 0 then ([], winsE cols wins)
  else if inputE cols z ≠ 0 then ([], inputE cols z)
  else if 400 < cntZ z then ([], 5)
  else sumZ ((toldW ps ks wins [] (linesW ps ks z)).map (fun r => (r, 1)))
structure WOk (cols : List Int) (ps ks : List E) (wins : List Ag) (z : List Z) : Prop where
  n : cols.length + wins.length ≤ 8
  ps : (typesE cols ps).2 = 0
  ks : (typesE cols ks).2 = 0
  wins : winsE cols wins = 0
  z : inputE cols z = 0
section
variable {cols : List Int} {ps ks : List E} {wins : List Ag} {z : List Z}
theorem WOk.row (h : WOk cols ps ks wins z) {r : Z} (hr : r ∈ z) : r.1.length = cols.length ∧ ∀ v ∈ r.1, RV v := by
  obtain ⟨_, hw, hf⟩ := inputE_zero h.z
  exact ⟨((fits_iff cols r.1).1 (hf r hr)).1, (SM.of hw).rv r hr⟩
theorem vals_rv {es : List E} (he : (typesE cols es).2 = 0) (hz : inputE cols z = 0) {r : Z} (hr : r ∈ z) : ∀ v ∈ valsR es r.1, RV v := fun v hv => by
  obtain ⟨e, hm, rfl⟩ := List.mem_map.1 hv
  exact fit_rv ((typesE_zero he).2 e hm) ((inputE_zero hz).2.2 r hr)
theorem vals_re {es : List E} (he : (typesE cols es).2 = 0) {n : Nat} (hn : n = cols.length) : ∀ e ∈ es, RE n e := fun e hm => by
  obtain ⟨T, hok⟩ := okay_of ((typesE_zero he).2 e hm)
  rw [hn]; exact wt_re e hok.ty
theorem WOk.kind (h : WOk cols ps ks wins z) {a : Ag} (ha : a ∈ wins) : a.k = 1 ∨ a.k = 2 ∨ a.k = 3 ∨ a.k = 4 ∨ a.k = 5 := (winT_kind (winsE_zero h.wins a ha)).1
theorem WOk.re (h : WOk cols ps ks wins z) {a : Ag} (ha : a ∈ wins) (hk : a.k = 4 ∨ a.k = 5) {n : Nat} (hn : n = cols.length) : RE n a.x := by
  obtain ⟨T, hok⟩ := okay_of ((winT_kind (winsE_zero h.wins a ha)).2.1 hk)
  rw [hn]; exact wt_re a.x hok.ty
end
theorem toldW_len (ps ks : List E) (wins : List Ag) : ∀ (l q : List (List V)), (toldW ps ks wins q l).length = l.length
  | [], q => rfl
  | r :: l, q => by unfold toldW; rw [List.length_cons, toldW_len ps ks wins l, List.length_cons]
theorem partQ_sub {ps : List E} {q : List (List V)} {r x : List V} (h : x ∈ partQ ps q r) : x ∈ q := by
  unfold partQ at h
  cases q with
  | nil => simp at h
  | cons a q => simp only at h; split at h; simp at h; exact h
theorem toldW_mem (ps ks : List E) (wins : List Ag) : ∀ (l q : List (List V)) (u : List V), u ∈ toldW ps ks wins q l → ∃ q' r, r ∈ l ∧ (∀ x ∈ q', x ∈ q ∨ x ∈ l) ∧ u = tellW ks wins q' r
  | [], q, u, h => by simp [toldW] at h
  | r :: l, q, u, h => by
    unfold toldW at h
    rcases List.mem_cons.1 h with rfl | h
    · exact ⟨_, r, by simp, fun x hx => .inl (partQ_sub hx), rfl⟩
    · obtain ⟨q', s, hs, hq, e⟩ := toldW_mem ps ks wins l _ u h
      refine ⟨q', s, by simp [hs], fun x hx => ?_, e⟩
      rcases hq x hx with h1 | h1
      · rcases List.mem_cons.1 h1 with rfl | h1
        · exact .inr (by simp)
        · exact .inl (partQ_sub h1)
      · exact .inr (by simp [h1])
theorem tell_rv {ks : List E} {wins : List Ag} {q : List (List V)} {r : List V} (hk : ∀ a ∈ wins, a.k = 1 ∨ a.k = 2 ∨ a.k = 3 ∨ a.k = 4 ∨ a.k = 5) (hr : ∀ v ∈ r, RV v) (hl : ∀ x ∈ q, ∀ a ∈ wins, a.k = 5 → RV (ofE x a.x)) : ∀ v ∈ tellW ks wins q r, RV v := fun v hv => by
  unfold tellW at hv
  rcases List.mem_append.1 hv with hv | hv
  · exact hr v hv
  · obtain ⟨a, ha, rfl⟩ := List.mem_map.1 hv
    unfold valW
    split
    · exact rv_intV _
    · split
      · exact rv_intV _
      · split
        · exact rv_intV _
        · split
          · rename_i h5
            unfold lagQ
            cases q with
            | nil => exact rv_null
            | cons x q => exact hl x (by simp) a ha h5
          · split
            · exact rv_intV _
            · exact rv_null
section
variable {xs : List I} {k : Nat} {x : I}
theorem expZ_snoc (h : xs[k]? = some x) : expZ ((xs.take (k + 1)).map zOf) = expZ ((xs.take k).map zOf) ++ List.replicate x.w.toNat x.row := by
  rw [take_sn zOf h]
  unfold expZ
  rw [List.flatMap_append]
  simp [zOf]
theorem expZ_more (h : xs[k]? = some x) : (expZ ((xs.take k).map zOf)).length + x.w.toNat ≤ cntZ (xs.map zOf) := by
  have e := expZ_snoc h
  have h1 : xs.map zOf = (xs.take (k + 1)).map zOf ++ (xs.drop (k + 1)).map zOf := by rw [← List.map_append, List.take_append_drop]
  unfold cntZ
  rw [h1]
  unfold expZ at e ⊢
  rw [List.flatMap_append, e]
  simp only [List.length_append, List.length_replicate]
  omega
end
theorem ordR_selfW (r : List V) : ordR r r = 0 := by
  have := ordR_swap r r
  omega
theorem expZ_up : ∀ {z : List Z}, z.Pairwise (fun x y => ordR x.1 y.1 < 0) → (expZ z).Pairwise (fun a b => ordR a b ≤ 0)
  | [], _ => List.Pairwise.nil
  | x :: z, h => by
    rw [List.pairwise_cons] at h
    have ih := expZ_up h.2
    unfold expZ at *
    rw [List.flatMap_cons, List.pairwise_append]
    refine ⟨List.pairwise_replicate.2 (.inr (by rw [ordR_selfW]; omega)), ih, fun a ha b hb => ?_⟩
    rw [List.mem_replicate] at ha
    obtain ⟨y, hy, rfl, _⟩ := expZ_mem (z := z) hb
    rw [ha.2]
    have := h.1 y hy
    omega
structure Ln where
  g : Nat
  pA : Option Addr
  pc : Nat
  kA : Option Addr
  kc : Nat
  rA : Option Addr
  rc : Nat
  row : List V
instance : Inhabited Ln := ⟨⟨0, none, 0, none, 0, none, 0, []⟩⟩
structure KW where
  ps : List E
  ks : List E
abbrev Ln.val (l : Ln) : Value := .pointer (some ⟨l.g, 0, none⟩)
structure LnIn (K : KW) (w : World) (l : Ln) : Prop where
  b : Blk w l.g 64 #[.slice l.pA (valsR K.ps l.row).length l.pc, .slice l.kA (valsR K.ks l.row).length l.kc, .slice l.rA l.row.length l.rc]
  p : KV w l.pA (valsR K.ps l.row)
  k : KV w l.kA (valsR K.ks l.row)
theorem LnIn.grow {K : KW} {w w' : World} {l : Ln} (h : LnIn K w l) (hg : Grow w w') : LnIn K w' l := ⟨Blk.grow h.b hg, h.p.grow hg, h.k.grow hg⟩
def cmpL (K : KW) (x y : Ln) : Int := cmpW K.ps K.ks x.row y.row
def ansL (K : KW) (x y : Ln) : Int := if rowsG cmpV (valsR K.ps x.row) (valsR K.ps y.row) ≠ 0 then rowsG cmpV (valsR K.ps x.row) (valsR K.ps y.row) else rowsG cmpV (valsR K.ks x.row) (valsR K.ks y.row)
def tgL (x y : Ln) : Prop := ordR x.row y.row ≤ 0
structure GoodL (K : KW) (g : Nat) (w0 : World) (x : Ln) : Prop where
  m : ∀ W, GX g w0 W → LnIn K W x
  kl : K.ps.length ≤ 8 ∧ K.ks.length ≤ 8
  rv : (∀ v ∈ valsR K.ps x.row, RV v) ∧ ∀ v ∈ valsR K.ks x.row, RV v
theorem ansL_lt {K : KW} {g : Nat} {w0 : World} {x y : Ln} (hx : GoodL K g w0 x) (hy : GoodL K g w0 y) (ht : tgL y x) : cmpL K x y < 0 ↔ ansL K x y < 0 := by
  have e1 := rows_cmp_ord _ _ hx.rv.1 hy.rv.1
  have e2 := rows_cmp_ord _ _ hx.rv.2 hy.rv.2
  have s := rowsG_swap ordV ordV_swap x.row y.row
  unfold tgL ordR at ht
  unfold cmpL cmpW lex3 ansL
  rw [e1, e2]
  repeat' split
  all_goals omega
theorem cmp_fnL (K : KW) (x y : Ln) (g : Nat) (w0 w : World) (hx : GoodL K g w0 x) (hy : GoodL K g w0 y) (hg : GX g w0 w) : Calls Try.prog 23 #[x.val, y.val] w fun e w' => e = .returned (.int .i64 (ansL K x y)) ∧ Grow w w' := by
  have lp : ∀ r, (valsR K.ps r).length ≤ 9223372036854775807 := fun r => by have := hx.kl.1; simp [valsR]; omega
  have lk : ∀ r, (valsR K.ks r).length ≤ 9223372036854775807 := fun r => by have := hx.kl.2; simp [valsR]; omega
  have mx := fun W (h : Grow w W) => hx.m W (hg.grow h)
  have my := fun W (h : Grow w W) => hy.m W (hg.grow h)
  have cp := fun W (h : Grow w W) => vrows_any (valsR K.ps x.row) (valsR K.ps y.row) x.pA y.pA x.pc y.pc W (lp _) (lp _) (mx W h).p.1 (my W h).p.1
  have ck := fun W (h : Grow w W) => vrows_any (valsR K.ks x.row) (valsR K.ks y.row) x.kA y.kA x.kc y.kc W (lk _) (lk _) (mx W h).k.1 (my W h).k.1
  have BX := Lib.hid (fun W (h : Grow w W) => (mx W h).b)
  have BY := Lib.hid (fun W (h : Grow w W) => (my W h).b)
  obtain ⟨R, hR⟩ : ∃ R, ansL K x y = R := ⟨_, rfl⟩
  rw [hR]
  unfold ansL at hR
  generalize rowsG cmpV (valsR K.ps x.row) (valsR K.ps y.row) = P at *
  generalize rowsG cmpV (valsR K.ks x.row) (valsR K.ks y.row) = Q at *
  have HR := Lib.hid hR
  clear mx my hR lp lk hx hy hg
  go_enter Try.func23, Try.ntmps23
  go_upto_region 1 with fail
  apply wp_region_calm 10 (by kernel_rfl) (by kernel_rfl)
  case h' =>
    intro Q0 hQ0
    simp only [List.take_succ_cons, List.take_zero]
    repeat ((first | ((first | apply calm_p rfl | apply calm_y rfl rfl rfl); case h1 => (intro w1 hw1 hF K hK; obtain ⟨bx, fx⟩ := (BX.out _ hw1).rules; obtain ⟨by1, fy⟩ := (BY.out _ hw1).rules; go_simp; first | exact hK _ (Grow.refl _) | (go_at_call 24; ((with_reducible refine (cp _ hw1).mono ?_); rintro e w' ⟨rfl, hg⟩; exact ⟨_, rfl, hK _ hg⟩)))) | apply calm_n rfl rfl rfl rfl); intro K hK; go_simp; apply hK; clear hK K)
    refine calm_nil ?_
    intro w1 hw1 hF
    apply hQ0
    clear hQ0
    simp only [List.drop_succ_cons, List.drop_zero]
    clear hF
    have G1 := hw1
    by_cases h0 : P = 0
    · have eR : R = Q := by rw [← HR.out, if_neg (by simpa using h0)]
      subst h0
      go_upto_region 4 with fail
      apply wp_region_calm 10 (by kernel_rfl) (by kernel_rfl)
      case h' =>
        intro Q0 hQ0
        simp only [List.take_succ_cons, List.take_zero]
        repeat ((first | ((first | apply calm_p rfl | apply calm_y rfl rfl rfl); case h1 => (intro w1 hw1 hF K hK; obtain ⟨bx, fx⟩ := (BX.out _ (G1.trans hw1)).rules; obtain ⟨by1, fy⟩ := (BY.out _ (G1.trans hw1)).rules; go_simp; first | exact hK _ (Grow.refl _) | (go_at_call 24; ((with_reducible refine (ck _ (G1.trans hw1)).mono ?_); rintro e w' ⟨rfl, hg⟩; exact ⟨_, rfl, hK _ hg⟩)))) | apply calm_n rfl rfl rfl rfl); intro K hK; go_simp; apply hK; clear hK K)
        refine calm_nil ?_
        intro w1 hw1 hF
        apply hQ0
        clear hQ0
        simp only [List.drop_succ_cons, List.drop_zero]
        clear hF
        go_wp2
        go_ret
        exact ret_int eR.symm (G1.trans hw1)
      case hp' => trivial
    · have d : (P != 0) = true := by simpa using h0
      have eR : P = R := by rw [← HR.out, if_pos h0]
      go_wp2
      go_ret
      exact ret_int eR G1
  case hp' => trivial
/-! worlds in which certain blocks may be other ones -/
structure TX (p : Nat → Prop) (w w' : World) : Prop where
  os : w'.os = w.os
  tape : w'.tape = w.tape
  output : w'.output = w.output
  size : w.heap.size ≤ w'.heap.size
  block : ∀ k, k < w.heap.size → ¬ p k → w'.heap[k]? = w.heap[k]?
section
variable {p : Nat → Prop} {a b c w w' : World}
theorem TX.refl (w : World) : TX p w w := ⟨rfl, rfl, rfl, Nat.le_refl _, fun _ _ _ => rfl⟩
theorem TX.own (h : TX p a b) {row : Option Nat} (k : b.grownBy c row) (hr : ∀ i, row = some i → a.heap.size ≤ i ∨ p i) : TX p a c :=
  ⟨k.os.trans h.os, k.tape.trans h.tape, k.output.trans h.output, Nat.le_trans h.size k.size, fun i hi hn => (k.block i (Nat.lt_of_lt_of_le hi h.size) (fun e => by rcases hr i e.symm with h | h; omega; exact hn h)).trans (h.block i hi hn)⟩
theorem TX.grow (h : TX p a b) (k : Grow b c) : TX p a c :=
  ⟨k.below.os.trans h.os, k.below.tape.trans h.tape, k.below.output.trans h.output, Nat.le_trans h.size k.size, fun i hi hn => (k.below.block i (Nat.lt_of_lt_of_le hi h.size)).trans (h.block i hi hn)⟩
theorem TX.set (h : TX p a b) {g : Nat} (hg : p g) (o : Nat) (u : Value) : TX p a (b.setCell ⟨g, o, none⟩ u) := h.own ((GX.refl g b).set o u) (fun i hi => .inr (by simp at hi; subst hi; exact hg))
theorem TX.base {w0 : World} (h0 : Grow w0 a) (hp : ∀ i, p i → w0.heap.size ≤ i) (h : TX p a b) : Grow w0 b :=
  ⟨⟨h.os.trans h0.below.os, h.tape.trans h0.below.tape, h.output.trans h0.below.output, Nat.le_trans h0.size h.size, fun i hi => (h.block i (Nat.lt_of_lt_of_le hi h0.size) (fun q => by have := hp i q; omega)).trans (h0.below.block i hi)⟩⟩
theorem TX.blk (h : TX p a b) {g : Nat} {t : TypeId} {cs : Array Value} (hn : ¬ p g) (hb : Blk a g t cs) : Blk b g t cs := (h.block g hb.lt hn).trans hb
theorem TX.row (h : TX p a b) {base n s : Nat} {e : TypeId} {v : Value} {xs : List Value} (hn : ∀ g, v.ownBlock = some g → ¬ p g) (ho : a.ownsRow base e s v n xs) : b.ownsRow base e s v n xs := by
  refine ⟨ho.1, ?_⟩
  rcases ho.2 with h1 | ⟨g, cap, cur, rfl, hB, hgb, h2⟩
  · exact .inl h1
  · exact .inr ⟨g, cap, cur, rfl, hB, TX.blk h (hn g rfl) hgb, h2⟩

theorem own_low {base base' n s : Nat} {e : TypeId} {v : Value} {xs : List Value} (h : w.ownsRow base e s v n xs) (hb : base' ≤ base) : w.ownsRow base' e s v n xs := by
  refine ⟨h.1, ?_⟩
  rcases h.2 with h1 | ⟨g, cap, cur, h1, hB, h2⟩
  · exact .inl h1
  · exact .inr ⟨g, cap, cur, h1, by omega, h2⟩
theorem own_set {base n s g : Nat} {e : TypeId} {v : Value} {xs : List Value} (h : w.ownsRow base e s v n xs) (hg : g < base) (o : Nat) (u : Value) : (w.setCell ⟨g, o, none⟩ u).ownsRow base e s v n xs :=
  TX.row (TX.set (p := fun i => i = g) (TX.refl w) rfl o u) (fun i hi e => by obtain ⟨h1, _⟩ := own_blk h hi; omega) h

/-! the state -/
def sumC (wins : List Ag) (q : List (List V)) (r : List V) (k : Nat) : List Value := wins.mapIdx (fun i a => .int .i64 (if a.k = 4 then totQ a.x (if i < k then r :: q else q) else 0))
def someC (wins : List Ag) (q : List (List V)) (r : List V) (k : Nat) : List Value := wins.mapIdx (fun i a => .bool (decide (a.k = 4) && someQ a.x (if i < k then r :: q else q)))
def sum0 (wins : List Ag) (q : List (List V)) : List Value := wins.map (fun a => .int .i64 (if a.k = 4 then totQ a.x q else 0))
def some0 (wins : List Ag) (q : List (List V)) : List Value := wins.map (fun a => .bool (decide (a.k = 4) && someQ a.x q))
theorem mapIdx_0 {α β : Type} (f : Nat → α → β) (g : α → β) (l : List α) (h : ∀ i a, l[i]? = some a → f i a = g a) : l.mapIdx f = l.map g := by
  refine List.ext_getElem? (fun i => ?_)
  rw [List.getElem?_mapIdx, List.getElem?_map]
  cases e : l[i]? with
  | none => rfl
  | some a => simp only [Option.map_some, h i a e]
theorem mapIdx_set {α β : Type} (f g : Nat → α → β) (l : List α) (k : Nat) (a : α) (ha : l[k]? = some a) (h : ∀ i b, i ≠ k → f i b = g i b) : l.mapIdx f = (l.mapIdx g).set k (f k a) := by
  refine List.ext_getElem? (fun i => ?_)
  rw [List.getElem?_set, List.getElem?_mapIdx, List.getElem?_mapIdx, List.length_mapIdx]
  by_cases e : k = i
  · subst e
    rw [if_pos rfl, if_pos (List.getElem?_eq_some_iff.1 ha).1, ha]; rfl
  · rw [if_neg e]
    cases l[i]? with
    | none => rfl
    | some b => simp only [Option.map_some, h i b (fun h => e h.symm)]
theorem sumC_0 (wins : List Ag) (q : List (List V)) (r : List V) : sumC wins q r 0 = sum0 wins q := mapIdx_0 _ _ _ (fun i a h => by simp)
theorem someC_0 (wins : List Ag) (q : List (List V)) (r : List V) : someC wins q r 0 = some0 wins q := mapIdx_0 _ _ _ (fun i a h => by simp)
theorem sumC_n (wins : List Ag) (q : List (List V)) (r : List V) : sumC wins q r wins.length = sum0 wins (r :: q) := mapIdx_0 _ _ _ (fun i a h => by rw [if_pos (List.getElem?_eq_some_iff.1 h).1])
theorem someC_n (wins : List Ag) (q : List (List V)) (r : List V) : someC wins q r wins.length = some0 wins (r :: q) := mapIdx_0 _ _ _ (fun i a h => by rw [if_pos (List.getElem?_eq_some_iff.1 h).1])
theorem sumC_s {wins : List Ag} {k : Nat} {a : Ag} (q : List (List V)) (r : List V) (h : wins[k]? = some a) : sumC wins q r (k + 1) = (sumC wins q r k).set k (.int .i64 (if a.k = 4 then totQ a.x (r :: q) else 0)) := by
  unfold sumC
  rw [mapIdx_set _ (fun i a => .int .i64 (if a.k = 4 then totQ a.x (if i < k then r :: q else q) else 0)) wins k a h (fun i b hi => by simp only [show (i < k + 1) ↔ (i < k) by omega])]
  simp only [show k < k + 1 by omega, if_true]
theorem someC_s {wins : List Ag} {k : Nat} {a : Ag} (q : List (List V)) (r : List V) (h : wins[k]? = some a) : someC wins q r (k + 1) = (someC wins q r k).set k (.bool (decide (a.k = 4) && someQ a.x (r :: q))) := by
  unfold someC
  rw [mapIdx_set _ (fun i a => .bool (decide (a.k = 4) && someQ a.x (if i < k then r :: q else q))) wins k a h (fun i b hi => by simp only [show (i < k + 1) ↔ (i < k) by omega])]
  simp only [show k < k + 1 by omega, if_true]
theorem sumC_at {wins : List Ag} {k : Nat} {a : Ag} (q : List (List V)) (r : List V) (h : wins[k]? = some a) (j : Nat) : (sumC wins q r j)[k]? = some (.int .i64 (if a.k = 4 then totQ a.x (if k < j then r :: q else q) else 0)) := by unfold sumC; rw [List.getElem?_mapIdx, h]; rfl
theorem someC_at {wins : List Ag} {k : Nat} {a : Ag} (q : List (List V)) (r : List V) (h : wins[k]? = some a) (j : Nat) : (someC wins q r j)[k]? = some (.bool (decide (a.k = 4) && someQ a.x (if k < j then r :: q else q))) := by unfold someC; rw [List.getElem?_mapIdx, h]; rfl
theorem set_same {l : List Value} {k : Nat} {u : Value} (h : l[k]? = some u) : l.set k u = l := by
  obtain ⟨h1, e⟩ := List.getElem?_eq_some_iff.1 h
  rw [← e, List.set_getElem_self]
theorem sumC_k {wins : List Ag} {k : Nat} {a : Ag} (q : List (List V)) (r : List V) (h : wins[k]? = some a) (hn : a.k = 4 → numQ a.x r = 0) : sumC wins q r (k + 1) = sumC wins q r k := by
  rw [sumC_s q r h]
  refine set_same ?_
  rw [sumC_at q r h, if_neg (by omega : ¬ k < k)]
  by_cases h4 : a.k = 4
  · rw [if_pos h4, if_pos h4]; simp only [totQ, hn h4, Int.add_zero]
  · rw [if_neg h4, if_neg h4]
theorem someC_k {wins : List Ag} {k : Nat} {a : Ag} (q : List (List V)) (r : List V) (h : wins[k]? = some a) (hn : a.k = 4 → (ofE r a.x).k ≠ 3) : someC wins q r (k + 1) = someC wins q r k := by
  rw [someC_s q r h]
  refine set_same ?_
  rw [someC_at q r h, if_neg (by omega : ¬ k < k)]
  by_cases h4 : a.k = 4
  · simp only [someQ, List.any_cons, decide_eq_false (hn h4), Bool.false_or]
  · rw [decide_eq_false h4]; rfl
structure TellSt (w : World) (gT gS gB : Nat) (K : KW) (wins : List Ag) (q : List Ln) : Prop where
  t : Blk w gT 72 #[.int .i64 (q.length : Int), .int .i64 (rankQ K.ks (q.map Ln.row)), .int .i64 (denseQ K.ks (q.map Ln.row)), .slice (some ⟨gS, 0, none⟩) wins.length wins.length, .slice (some ⟨gB, 0, none⟩) wins.length wins.length, .pointer (q.head?.map (fun l => ⟨l.g, 0, none⟩))]
  s : Blk w gS 2 (sum0 wins (q.map Ln.row)).toArray
  b : Blk w gB 4 (some0 wins (q.map Ln.row)).toArray
def tp (gT gS gB : Nat) (i : Nat) : Prop := i = gT ∨ i = gS ∨ i = gB
section
variable {gT gS gB : Nat} {K : KW} {wins : List Ag} {q : List Ln}
theorem TellSt.grow (h : TellSt w gT gS gB K wins q) (hg : Grow w w') : TellSt w' gT gS gB K wins q := ⟨Blk.grow h.t hg, Blk.grow h.s hg, Blk.grow h.b hg⟩
theorem TellSt.own (h : TellSt w gT gS gB K wins q) {base n s : Nat} {v : Value} {cs : List Value} (own : w.ownsRow base 39 s v n cs) (hg : w.grownBy w' v.ownBlock) : TellSt w' gT gS gB K wins q := ⟨blk_own h.t own (by decide) hg, blk_own h.s own (by decide) hg, blk_own h.b own (by decide) hg⟩
theorem TellSt.apart (h : TellSt w gT gS gB K wins q) {g : Nat} {t : TypeId} {cs : Array Value} (hb : Blk w g t cs) (h1 : t ≠ 72) (h2 : t ≠ 2) (h3 : t ≠ 4) : ¬ tp gT gS gB g := fun e => by
  rcases e with rfl | rfl | rfl
  · exact h1 (blk_type hb h.t)
  · exact h2 (blk_type hb h.s)
  · exact h3 (blk_type hb h.b)
theorem TellSt.rowR (h : TellSt w gT gS gB K wins q) (hx : TX (tp gT gS gB) w w') {y : I} (hy : OwnR w y) : OwnR w' y := by
  obtain ⟨base, ho⟩ := hy
  exact ⟨base, TX.row hx (fun g hg => by obtain ⟨_, cs, hb⟩ := own_blk ho hg; exact h.apart hb (by decide) (by decide) (by decide)) ho⟩
theorem TellSt.rows (h : TellSt w gT gS gB K wins q) (hx : TX (tp gT gS gB) w w') {base n s : Nat} {v : Value} {cs : List Value} (ho : w.ownsRow base 39 s v n cs) : w'.ownsRow base 39 s v n cs := TX.row hx (fun g hg => by obtain ⟨_, cs, hb⟩ := own_blk ho hg; exact h.apart hb (by decide) (by decide) (by decide)) ho
end
theorem sum0_nil (wins : List Ag) : sum0 wins [] = List.replicate wins.length (.int .i64 0) := by
  unfold sum0
  rw [List.eq_replicate_iff]
  refine ⟨by simp, fun b hb => ?_⟩
  obtain ⟨a, _, rfl⟩ := List.mem_map.1 hb
  simp [totQ]
theorem some0_nil (wins : List Ag) : some0 wins [] = List.replicate wins.length (.bool false) := by
  unfold some0
  rw [List.eq_replicate_iff]
  refine ⟨by simp, fun b hb => ?_⟩
  obtain ⟨a, _, rfl⟩ := List.mem_map.1 hb
  simp [someQ]
theorem info_i64 : (Try.prog.info? 2).map (fun i => (i.zero, i.size, i.bytes)) = some (some (.int .i64 0), 1, 8) := by kernel_rfl
theorem made_one (v : Value) (n : Nat) : madeCells #[v] (n * 1) = (List.replicate n v).toArray := by
  apply Array.ext_getElem?
  intro i
  by_cases hi : i < n * 1
  · rw [made_get _ _ _ hi]
    rw [List.getElem?_toArray, List.getElem?_replicate, if_pos (by omega)]
    have : i % (#[v] : Array Value).size = 0 := by simp; omega
    rw [this]; rfl
  · rw [Array.getElem?_eq_none (by rw [size_madeCells]; omega), Array.getElem?_eq_none (by simp; omega)]
theorem make_i64 (n : Nat) (hn : n ≤ 100000) (W : World) : (Instr.makeSlice 69 (.int .i64 (n : Int)) (.int .i64 (n : Int))).run Try.prog W = .ok (.slice (some ⟨W.heap.size, 0, none⟩) n n) (W.alloc (.cells (List.replicate n (.int .i64 0)).toArray 2)) := by
  have h := info_i64
  cases hi : Try.prog.info? 2 with
  | none => rw [hi] at h; simp at h
  | some i =>
    rw [hi] at h
    simp at h
    obtain ⟨h1, h2, h3⟩ := h
    have := run_make W 69 2 i _ Try.underlying69 hi h1 .i64 .i64 (n : Int) (n : Int) (by omega) (by omega) (by rw [h3]; omega) (by omega)
    rw [this, h2]
    simp only [Int.toNat_natCast]
    rw [show (Value.int .i64 0).cells = #[.int .i64 0] from rfl, made_one]

/-! numbers that are not too large -/
theorem rankQ_bd (ks : List E) : ∀ q : List (List V), 0 ≤ rankQ ks q ∧ rankQ ks q ≤ q.length
  | [] => by simp [rankQ]
  | r :: q => by
    have := rankQ_bd ks q
    unfold rankQ
    split <;> simp only [List.length_cons] <;> omega
theorem denseQ_bd (ks : List E) : ∀ q : List (List V), 0 ≤ denseQ ks q ∧ denseQ ks q ≤ q.length
  | [] => by simp [denseQ]
  | r :: q => by
    have := denseQ_bd ks q
    unfold denseQ
    split <;> simp only [List.length_cons] <;> omega
theorem totQ_bd (x : E) : ∀ q : List (List V), (∀ r ∈ q, RV (ofE r x)) → -(1000000000000000 * (q.length : Int)) ≤ totQ x q ∧ totQ x q ≤ 1000000000000000 * (q.length : Int)
  | [], _ => by simp [totQ]
  | r :: q, h => by
    have ih := totQ_bd x q (fun u hu => h u (List.mem_cons_of_mem _ hu))
    have h1 := h r (List.mem_cons_self ..)
    unfold totQ numQ
    split
    · rename_i h3
      have := h1.int h3
      simp only [List.length_cons]; omega
    · simp only [List.length_cons]; omega
end
theorem tell_any (K : KW) (wins : List Ag) (Aw : Option Addr) (cw : Nat) (q : List Ln) (l : Ln) (gT gS gB : Nat) (w1 w : World) (hn : wins.length ≤ 8) (hq : q.length < 400) (hkl : K.ks.length ≤ 8) (hg1 : Grow w1 w) (hb : w1.heap.size ≤ gT ∧ w1.heap.size ≤ gS ∧ w1.heap.size ≤ gB) (hW : AgSl w1 Aw wins) (hkind : ∀ a ∈ wins, a.k = 1 ∨ a.k = 2 ∨ a.k = 3 ∨ a.k = 4 ∨ a.k = 5)
    (hrow : ∀ x ∈ l :: q, x.row.length ≤ 8 ∧ (∀ v ∈ x.row, RV v) ∧ (∀ v ∈ valsR K.ks x.row, RV v) ∧ LnIn K w1 x ∧ VSl w1 x.rA x.row ∧ ∀ a ∈ wins, a.k = 4 ∨ a.k = 5 → RE x.row.length a.x) (T : TellSt w gT gS gB K wins q) :
    Calls Try.prog 25 #[.pointer (some ⟨gT, 0, none⟩), .slice Aw wins.length cw, l.val] w fun en w' => ∃ (B : Option Addr) (cap : Nat), en = .returned (.slice B (l.row.length + wins.length) cap) ∧ w'.ownsRow w.heap.size 30 3 (.slice B (l.row.length + wins.length) cap) (l.row.length + wins.length) (flatW (tellW K.ks wins (q.map Ln.row) l.row)) ∧ TellSt w' gT gS gB K wins (l :: q) ∧ TX (tp gT gS gB) w w' := by
  have mixed : Try.prog.follows .mixedOrders = true := by kernel_rfl
  have Hrow := Lib.hid hrow
  have HW := Lib.hid hW
  have Hk := Lib.hid hkind
  have hp : ∀ i, tp gT gS gB i → w1.heap.size ≤ i := fun i h => by rcases h with rfl | rfl | rfl; exact hb.1; exact hb.2.1; exact hb.2.2
  have HP := Lib.hid hp
  have TS := Lib.hid T
  have lr := (hrow l (by simp)).1
  have tT : tp gT gS gB gT := .inl rfl
  have nTS : gS ≠ gT := fun e => by have h1 := T.t; have h2 := T.s; rw [e] at h2; exact absurd (blk_type h1 h2) (by decide)
  have nTB : gB ≠ gT := fun e => by have h1 := T.t; have h2 := T.b; rw [e] at h2; exact absurd (blk_type h1 h2) (by decide)
  have nSB : gB ≠ gS := fun e => by have h1 := T.s; have h2 := T.b; rw [e] at h2; exact absurd (blk_type h1 h2) (by decide)
  have NE := Lib.hid (And.intro nTS (And.intro nTB nSB))
  have LT := Lib.hid (And.intro T.t.lt (And.intro T.s.lt T.b.lt))
  obtain ⟨rk, hrk⟩ : ∃ rk, rankQ K.ks (q.map Ln.row) = rk := ⟨_, rfl⟩
  obtain ⟨dn, hdn⟩ : ∃ dn, denseQ K.ks (q.map Ln.row) = dn := ⟨_, rfl⟩
  have bdk := rankQ_bd K.ks (q.map Ln.row)
  have bdd := denseQ_bd K.ks (q.map Ln.row)
  rw [hrk, List.length_map] at bdk
  rw [hdn, List.length_map] at bdd
  obtain ⟨nb, hnb⟩ : ∃ nb, newK K.ks (q.map Ln.row) l.row = nb := ⟨_, rfl⟩
  have Tt := T.t
  rw [hrk, hdn] at Tt
  have NB := Lib.hid hnb
  have HRD := Lib.hid (And.intro hrk hdn)
  clear hrow hW hkind hp hnb hrk hdn nTS nTB nSB hb
  obtain ⟨bt, ft⟩ := Tt.rules
  have BT := Lib.hid Tt
  clear Tt T
  go_enter Try.func25, Try.ntmps25
  go_upto_region 2 with fail
  refine wp_forget (fun X => Blk X gT 72 #[.int .i64 ((q.length : Int) + 1), .int .i64 rk, .int .i64 dn, .slice (some ⟨gS, 0, none⟩) wins.length wins.length, .slice (some ⟨gB, 0, none⟩) wins.length wins.length, .pointer (q.head?.map (fun l => ⟨l.g, 0, none⟩))] ∧ TX (tp gT gS gB) w X ∧ Blk X gS 2 (sum0 wins (q.map Ln.row)).toArray ∧ Blk X gB 4 (some0 wins (q.map Ln.row)).toArray) ⟨by simpa using Blk.set BT.out 0 _, (TX.refl _).set tT _ _, Blk.far TS.out.s NE.out.1 _, Blk.far TS.out.b NE.out.2.1 _⟩ ?_
  rintro X ⟨Bt, tx, Bs, Bb⟩
  have BT := Lib.hid Bt
  have BS := Lib.hid Bs
  have BB := Lib.hid Bb
  have GX1 := tx.base hg1 HP.out
  clear bt ft Bt Bs Bb TS
  obtain ⟨bt, ft⟩ := BT.out.rules
  go_cut [39] (fun s wx => s = .bool nb ∧ Grow X wx)
  case first =>
    have ll := (Hrow.out l (by simp)).2.2.2.1
    cases q with
    | nil =>
      obtain rfl : nb = true := NB.out.symm
      apply wp_region_calm 20 (by kernel_rfl) (by kernel_rfl)
      case h' =>
        intro Q0 hQ0
        simp only [List.take_succ_cons, List.take_zero]
        repeat ((first | ((first | apply calm_p rfl | apply calm_y rfl rfl rfl); case h1 => (intro w1 hw1 hF K hK; obtain ⟨bt, ft⟩ := (BT.out.grow hw1).rules; go_simp; first | exact hK _ (Grow.refl _))) | apply calm_n rfl rfl rfl rfl); intro K hK; go_simp; apply hK; clear hK K)
        refine calm_nil ?_
        intro w1 hw1 hF
        apply hQ0
        clear hQ0
        simp only [List.drop_succ_cons, List.drop_zero]
        clear hF
        go_wp2
        go_meet
        exact ⟨rfl, hw1⟩
      case hp' => trivial
    | cons a q =>
      have ha := Hrow.out a (by simp)
      have hl := Hrow.out l (by simp)
      have lk : ∀ r, (valsR K.ks r).length ≤ 9223372036854775807 := fun r => by simp [valsR]; omega
      have cr := fun W (h : Grow w1 W) => vrows_any (valsR K.ks a.row) (valsR K.ks l.row) a.kA l.kA a.kc l.kc W (lk _) (lk _) (ha.2.2.2.1.k.grow h).1 (hl.2.2.2.1.k.grow h).1
      have hd : decide (rowsG ordV (valsR K.ks a.row) (valsR K.ks l.row) ≠ 0) = nb := NB.out
      rw [← rows_cmp_ord _ _ ha.2.2.1 hl.2.2.1] at hd
      generalize rowsG cmpV (valsR K.ks a.row) (valsR K.ks l.row) = d at *
      have HD := Lib.hid hd
      have BA := Lib.hid ha.2.2.2.1.b
      have BL := Lib.hid hl.2.2.2.1.b
      clear ha hl lk hd ll
      apply wp_region_calm 20 (by kernel_rfl) (by kernel_rfl)
      case h' =>
        intro Q0 hQ0
        simp only [List.take_succ_cons, List.take_zero]
        repeat ((first | ((first | apply calm_p rfl | apply calm_y rfl rfl rfl); case h1 => (intro w1 hw1 hF K hK; obtain ⟨bt, ft⟩ := (BT.out.grow hw1).rules; obtain ⟨ba, fa⟩ := (BA.out.grow (GX1.trans hw1)).rules; obtain ⟨bl, fl⟩ := (BL.out.grow (GX1.trans hw1)).rules; go_simp; first | exact hK _ (Grow.refl _) | (go_at_call 24; ((with_reducible refine (cr w1 (GX1.trans hw1)).mono ?_); rintro e w' ⟨rfl, hg⟩; exact ⟨_, rfl, hK _ hg⟩)))) | apply calm_n rfl rfl rfl rfl); intro K hK; go_simp; apply hK; clear hK K)
        refine calm_nil ?_
        intro w1 hw1 hF
        apply hQ0
        clear hQ0
        simp only [List.drop_succ_cons, List.drop_zero]
        clear hF
        go_wp2
        go_meet
        exact ⟨by rw [← HD.out]; simp only [ne_eq, decide_not]; rfl, hw1⟩
      case hp' => trivial
  case rest =>
  obtain ⟨rfl, gx⟩ := hcut
  have BT := Lib.hid (BT.out.grow gx)
  have BS := Lib.hid (BS.out.grow gx)
  have BB := Lib.hid (BB.out.grow gx)
  have tx := tx.grow gx
  clear bt ft gx GX1
  go_upto_if 39 with fail
  go_cut [] (fun wx => Blk wx gT 72 #[.int .i64 ((q.length : Int) + 1), .int .i64 (rankQ K.ks (l.row :: q.map Ln.row)), .int .i64 (denseQ K.ks (l.row :: q.map Ln.row)), .slice (some ⟨gS, 0, none⟩) wins.length wins.length, .slice (some ⟨gB, 0, none⟩) wins.length wins.length, .pointer (q.head?.map (fun l => ⟨l.g, 0, none⟩))] ∧ TX (tp gT gS gB) w wx ∧ Blk wx gS 2 (sum0 wins (q.map Ln.row)).toArray ∧ Blk wx gB 4 (some0 wins (q.map Ln.row)).toArray)
  case first =>
    obtain ⟨bt, ft⟩ := BT.out.rules
    cases nb with
    | true =>
      go_upto_region 3 with fail
      go_big_region_o
      go_wp2
      go_meet
      refine ⟨?_, ((tx.set tT _ _).set tT _ _).grow (Grow.refl _).drew, (BS.out.far NE.out.1 _).far NE.out.1 _, (BB.out.far NE.out.2.1 _).far NE.out.2.1 _⟩
      have h := ((BT.out.set 1 (.int .i64 ((q.length : Int) + 1))).set 2 (.int .i64 (dn + 1))).drew
      simp only [rankQ, denseQ, NB.out, HRD.out.2, if_true, List.length_map]
      simpa using h
    | false =>
      go_wp2
      go_meet
      refine ⟨?_, tx, BS.out, BB.out⟩
      have h := BT.out
      simp only [rankQ, denseQ, NB.out, HRD.out.1, HRD.out.2, Bool.false_eq_true, if_false]
      exact h
  case rest =>
  rename World => wz
  obtain ⟨bt, tx, bs, bb⟩ := hcut
  have rb := rankQ_bd K.ks (l.row :: q.map Ln.row)
  have db := denseQ_bd K.ks (l.row :: q.map Ln.row)
  obtain ⟨Q, hQ⟩ : ∃ Q, q.map Ln.row = Q := ⟨_, rfl⟩
  have lQ : Q.length = q.length := by rw [← hQ, List.length_map]
  rw [hQ] at bt bs bb rb db
  rw [List.length_cons, lQ] at rb db
  obtain ⟨rk1, hrk1⟩ : ∃ rk, rankQ K.ks (l.row :: Q) = rk := ⟨_, rfl⟩
  obtain ⟨dn1, hdn1⟩ : ∃ dn, denseQ K.ks (l.row :: Q) = dn := ⟨_, rfl⟩
  rw [hrk1] at bt rb
  rw [hdn1] at bt db
  have HV := Lib.hid (And.intro hQ (And.intro lQ (And.intro hrk1 hdn1)))
  have BT := Lib.hid bt
  have BS := Lib.hid (show Blk wz gS 2 (sumC wins Q l.row 0).toArray by rw [sumC_0]; exact bs)
  have BB := Lib.hid (show Blk wz gB 4 (someC wins Q l.row 0).toArray by rw [someC_0]; exact bb)
  have G1 := tx.base hg1 HP.out
  have BL := Lib.hid (Hrow.out l (by simp)).2.2.2.1.b
  have cl := clone_any l.row l.rA l.rc wz (by omega) ((Hrow.out l (by simp)).2.2.2.2.1.grow G1)
  have sz := tx.size
  obtain ⟨bl, fl⟩ := (BL.out.grow G1).rules
  clear bt bs bb hQ lQ hrk1 hdn1 NB HRD
  go_upto_region 5 with (go_at_call 45; (with_reducible refine cl.mono ?_); rintro e w5 ⟨Br, capr, rfl, own5, hg5⟩; have Own5 := Lib.hid own5; clear own5)
  clear bl fl cl
  go_wp2
  go_loopg [7, 62] (wins.length) (fun gk t i wr => ∃ k : Nat, k ≤ wins.length ∧ wins.length - k ≤ gk ∧ i = .int .i64 k ∧ wr.ownsRow wz.heap.size 30 3 t (l.row.length + k) (flatW (l.row ++ (wins.take k).map (valW K.ks Q l.row))) ∧ Blk wr gT 72 #[.int .i64 ((q.length : Int) + 1), .int .i64 rk1, .int .i64 dn1, .slice (some ⟨gS, 0, none⟩) wins.length wins.length, .slice (some ⟨gB, 0, none⟩) wins.length wins.length, .pointer (q.head?.map (fun l => ⟨l.g, 0, none⟩))] ∧ Blk wr gS 2 (sumC wins Q l.row k).toArray ∧ Blk wr gB 4 (someC wins Q l.row k).toArray ∧ TX (tp gT gS gB) w wr ∧ wz.heap.size ≤ wr.heap.size)
  case atStart => exact ⟨0, Nat.zero_le _, by omega, rfl, by simpa using Own5.out, BT.out.grow hg5, BS.out.grow hg5, BB.out.grow hg5, tx.grow hg5, hg5.size⟩
  case round =>
    obtain ⟨k, hk, hgk, rfl, own, bt, bs, bb, tx, sz9⟩ := hrel
    have Own := Lib.hid own
    have BT := Lib.hid bt
    have BS := Lib.hid bs
    have BB := Lib.hid bb
    obtain ⟨Bo, capo, rfl⟩ := own_slice Own.out
    have G1 := tx.base hg1 HP.out
    have LowB := Lib.hid (fun i (hi : (Value.slice Bo (l.row.length + k) capo).ownBlock = some i) => Nat.le_trans sz (own_blk Own.out hi).1)
    clear own bt bs bb
    by_cases hlt : k < wins.length
    · obtain ⟨a, hxk⟩ : ∃ a, wins[k]? = some a := ⟨_, List.getElem?_eq_getElem hlt⟩
      have hm := List.mem_of_getElem? hxk
      obtain ⟨gx, ox, rfl, ⟨ck, c0, c1, c2, c3, c4, c5⟩, hex⟩ := (HW.out.grow G1) k a hxk
      have hk5 := Hk.out a hm
      have hre := fun x hx h45 => (Hrow.out x hx).2.2.2.2.2 a hm h45
      obtain ⟨ak, ax⟩ := a
      simp only at ck c0 c1 c2 c3 c4 c5 hk5 hre hex
      obtain ⟨v9, hv9⟩ : ∃ v9, valW K.ks Q l.row ⟨ak, ax⟩ = v9 := ⟨_, rfl⟩
      have es := take_sn (valW K.ks Q l.row) hxk
      rw [hv9] at es
      have HVV := Lib.hid hv9
      have HXK := Lib.hid hxk
      have HRE := Lib.hid hre
      have HEX := Lib.hid hex
      have ES := Lib.hid es
      clear hxk hm hre hex hv9 es
      go_upto_region 8 with fail
      refine wp_forget (fun X => Blk X wr.heap.size 34 #[.int .i64 ak, .int .i64 ax.kind, .int .i64 ax.v.k, .int .i64 ax.v.n, .string ax.v.s, .int .i64 ax.col, .slice ax.A ax.n ax.cap] ∧ Grow wr X) ⟨Blk.new _ _ _, (Grow.refl wr).al _⟩ ?_
      generalize wr.heap.size = gw
      rintro X ⟨Bx, Gx⟩
      have EC := Lib.hid (show ECells X gw 1 ax from ⟨Bx.cells rfl, Bx.cells rfl, Bx.cells rfl, Bx.cells rfl, Bx.cells rfl, Bx.cells rfl⟩)
      have HEX := Lib.hid (HEX.out.grow Gx)
      have BX := Lib.hid Bx
      have Own := Lib.hid (own_grow Own.out Gx)
      have BT := Lib.hid (BT.out.grow Gx)
      have BS := Lib.hid (BS.out.grow Gx)
      have BB := Lib.hid (BB.out.grow Gx)
      have tx := tx.grow Gx
      have G1 := G1.trans Gx
      have sz9 := Nat.le_trans sz9 Gx.size
      clear ck c0 c1 c2 c3 c4 c5 Bx Gx
      obtain ⟨bx, fx⟩ := BX.out.rules
      obtain ⟨bt, ft⟩ := BT.out.rules
      by_cases h123 : ak = 1 ∨ ak = 2 ∨ ak = 3
      · have ci : ∀ n9 : Int, (ak = 1 → n9 = (q.length : Int) + 1) → (ak = 2 → n9 = rk1) → (ak = 3 → n9 = dn1) → ∀ W, Calls Try.prog 46 #[.int .i64 n9] W fun e w' => e = .returned v9.val ∧ Grow W w' := fun n9 h1 h2 h3 W => by
          have e : intV n9 = v9 := by
            rw [← HVV.out]
            rcases h123 with rfl | rfl | rfl
            · rw [h1 rfl, ← HV.out.2.1]; unfold valW; rw [if_pos rfl]
            · rw [h2 rfl, ← HV.out.2.2.1]; unfold valW; rw [if_neg (by simp), if_pos rfl]
            · rw [h3 rfl, ← HV.out.2.2.2]; unfold valW; rw [if_neg (by simp), if_neg (by simp), if_pos rfl]
          rw [← e]
          exact int_any n9 W
        have BS := Lib.hid (show Blk X gS 2 (sumC wins Q l.row (k + 1)).toArray by rw [sumC_k Q l.row HXK.out (fun h => by simp only at h; omega)]; exact BS.out)
        have BB := Lib.hid (show Blk X gB 4 (someC wins Q l.row (k + 1)).toArray by rw [someC_k Q l.row HXK.out (fun h => by simp only at h; omega)]; exact BB.out)
        clear hk5
        unfold V.val at ci
        rcases h123 with rfl | rfl | rfl
        all_goals
          go_wp2_with (first
            | (go_at_call 46; ((with_reducible refine (ci _ (by simp) (by simp) (by simp) _).mono ?_); rintro e w6 ⟨rfl, hg6⟩; have Own6 := Lib.hid (own_grow Own.out hg6); have sz6 := hg6.size))
            | (at_builtin; refine wpList_append_srcW rfl _ _ rfl wz.heap.size _ _ _ rfl (Own6.out.alloc _) _ [v9] rfl (srcW_one (Blk.new _ _ _)) (by simp; omega) (by simp; omega) ?_; intro v7 w7 own7 gr7; replace gr7 : World.grownBy _ w7 (Value.slice Bo (l.row.length + k) capo).ownBlock := gr7; have Own7 := Lib.hid own7; clear own7))
          have tx7 := ((tx.grow hg6).grow ((Grow.refl _).al (.cells #[.int .i64 v9.k, .int .i64 v9.n, .string v9.s] 30))).own gr7 (fun i hi => .inl (LowB.out i hi))
          have B7 := Lib.hid (And.intro (blk_own ((BT.out.grow hg6).al _) (Own6.out.alloc _) (by decide) gr7) (And.intro (blk_own ((BS.out.grow hg6).al _) (Own6.out.alloc _) (by decide) gr7) (blk_own ((BB.out.grow hg6).al _) (Own6.out.alloc _) (by decide) gr7)))
          have sz7 := gr7.size
          clear gr7
          go_roundg (gk - 1)
          case measure => omega
          case rel => exact ⟨k + 1, by omega, by omega, by go_num, by rw [ES.out, ← List.append_assoc]; simpa [Nat.add_assoc] using Own7.out, B7.out.1, B7.out.2.1, B7.out.2.2, tx7, by simp at sz7; omega⟩
      · by_cases h5 : ak = 5
        · have BS := Lib.hid (show Blk X gS 2 (sumC wins Q l.row (k + 1)).toArray by rw [sumC_k Q l.row HXK.out (fun h => by simp only at h; omega)]; exact BS.out)
          have BB := Lib.hid (show Blk X gB 4 (someC wins Q l.row (k + 1)).toArray by rw [someC_k Q l.row HXK.out (fun h => by simp only at h; omega)]; exact BB.out)
          subst h5
          have hv : lagQ ax Q = v9 := by rw [← HVV.out]; unfold valW; rw [if_neg (by simp), if_neg (by simp), if_neg (by simp), if_pos rfl]
          have HL := Lib.hid hv
          clear hk5 hv
          go_upto_region 17 with (go_at_call 47; ((with_reducible refine (null _).mono ?_); rintro e w6 ⟨rfl, hg6⟩))
          have hgv := hg6.size
          refine wp_forget (fun Y => Blk Y w6.heap.size 30 #[.int .i64 1, .int .i64 0, .string es] ∧ Grow X Y) ⟨Blk.new _ _ _, hg6.al _⟩ ?_
          generalize w6.heap.size = gv at *
          rintro Y ⟨By, Gy⟩
          have BY := Lib.hid By
          have G2 := G1.trans Gy
          clear By bx fx bt ft
          obtain ⟨bt, ft⟩ := (BT.out.grow Gy).rules
          go_upto_if 106 with fail
          go_cut [] (fun wx => Blk wx gv 30 #[.int .i64 v9.k, .int .i64 v9.n, .string v9.s] ∧ Grow X wx)
          case first =>
            cases q with
            | nil =>
              have e : v9 = nullV' := by rw [← HL.out, ← HV.out.1]; rfl
              subst e
              go_wp2
              go_meet
              exact ⟨BY.out, Gy⟩
            | cons a q' =>
              have ha := Hrow.out a (by simp)
              have lra := ha.1
              have co := fun W (h : Grow Y W) => of_any a.row a.rA a.rc (by omega) ha.2.1 ax (HRE.out a (by simp) (by simp)) gw 1 Y W (HEX.out.grow Gy) (EC.out.grow Gy) (ha.2.2.2.2.1.grow G2) h
              rw [show ofE a.row ax = v9 by rw [← HL.out, ← HV.out.1]; rfl] at co
              unfold V.val at co
              obtain ⟨ba, fa⟩ := (Blk.grow ha.2.2.2.1.b G2).rules
              obtain ⟨bv, fv⟩ := BY.out.rules
              clear ha
              go_wp2_with (go_at_call 30; ((with_reducible refine (co _ (Grow.refl _)).mono ?_); rintro e w8 ⟨rfl, hg8⟩; obtain ⟨bv2, fv2⟩ := (BY.out.grow hg8).rules))
              go_meet
              exact ⟨by simpa using (((BY.out.grow hg8).set 0 (.int .i64 v9.k)).set 1 (.int .i64 v9.n)).set 2 (.string v9.s), (((Gy.trans hg8).set hgv _).set hgv _).set hgv _⟩
          case rest =>
          obtain ⟨bv, Gw⟩ := hcut
          have Own2 := Lib.hid (own_grow Own.out Gw)
          have BV := Lib.hid bv
          have szw := Gw.size
          clear bt ft bv hgv
          obtain ⟨bv, fv⟩ := BV.out.rules
          go_wp2_with (at_builtin; refine wpList_append_srcW rfl _ _ rfl wz.heap.size _ _ _ rfl (Own2.out.alloc _) _ [v9] rfl (srcW_one (Blk.new _ _ _)) (by simp; omega) (by simp; omega) ?_; intro v7 w7 own7 gr7; replace gr7 : World.grownBy _ w7 (Value.slice Bo (l.row.length + k) capo).ownBlock := gr7; have Own7 := Lib.hid own7; clear own7)
          have tx7 := ((tx.grow Gw).grow ((Grow.refl _).al (.cells #[.int .i64 v9.k, .int .i64 v9.n, .string v9.s] 30))).own gr7 (fun i hi => .inl (LowB.out i hi))
          have B7 := Lib.hid (And.intro (blk_own ((BT.out.grow Gw).al _) (Own2.out.alloc _) (by decide) gr7) (And.intro (blk_own ((BS.out.grow Gw).al _) (Own2.out.alloc _) (by decide) gr7) (blk_own ((BB.out.grow Gw).al _) (Own2.out.alloc _) (by decide) gr7)))
          have sz7 := gr7.size
          clear gr7
          go_roundg (gk - 1)
          case measure => omega
          case rel => exact ⟨k + 1, by omega, by omega, by go_num, by rw [ES.out, ← List.append_assoc]; simpa [Nat.add_assoc] using Own7.out, B7.out.1, B7.out.2.1, B7.out.2.2, tx7, by simp at sz7; omega⟩
        · obtain rfl : ak = 4 := by omega
          have hl := Hrow.out l (by simp)
          have rq : ∀ r ∈ Q, RV (ofE r ax) := fun r hr => by
            rw [← HV.out.1] at hr
            obtain ⟨x, hx, rfl⟩ := List.mem_map.1 hr
            exact rv_of x.row (Hrow.out x (List.mem_cons_of_mem _ hx)).2.1 ax (HRE.out x (List.mem_cons_of_mem _ hx) (by simp))
          have ru := rv_of l.row hl.2.1 ax (HRE.out l (by simp) (by simp))
          have bs0 := totQ_bd ax Q rq
          rw [HV.out.2.1] at bs0
          have co := fun W (h : Grow X W) => of_any l.row l.rA l.rc (by omega) hl.2.1 ax (HRE.out l (by simp) (by simp)) gw 1 X W HEX.out EC.out (hl.2.2.2.2.1.grow G1) h
          have eS : totQ ax (l.row :: Q) = totQ ax Q + numQ ax l.row := rfl
          have eM : someQ ax (l.row :: Q) = (decide ((ofE l.row ax).k = 3) || someQ ax Q) := rfl
          have eN : numQ ax l.row = if (ofE l.row ax).k = 3 then (ofE l.row ax).n else 0 := rfl
          obtain ⟨u, hu⟩ : ∃ u, ofE l.row ax = u := ⟨_, rfl⟩
          rw [hu] at co ru eM eN
          rw [eN] at eS
          have HU := Lib.hid (And.intro hu (And.intro eS (And.intro eM eN)))
          obtain ⟨s0, hs0⟩ : ∃ s0, totQ ax Q = s0 := ⟨_, rfl⟩
          rw [hs0] at bs0
          have HS0 := Lib.hid hs0
          have RU := Lib.hid ru
          obtain ⟨bl, fl⟩ := (BL.out.grow G1).rules
          have cS : X.cell? ⟨gS, k, none⟩ = some (.int .i64 s0) := BS.out.cells (by rw [List.getElem?_toArray, sumC_at Q l.row HXK.out, if_pos rfl, if_neg (by omega), hs0])
          have cB : ∃ b, X.cell? ⟨gB, k, none⟩ = some (.bool b) := ⟨_, BB.out.cells (by rw [List.getElem?_toArray, someC_at Q l.row HXK.out])⟩
          obtain ⟨b0, cB⟩ := cB
          have CSB := Lib.hid (And.intro cS cB)
          unfold V.val at co
          clear hl rq hu eS eM eN hs0 ru cS cB hk5
          go_upto_region 22 with (go_at_call 30; ((with_reducible refine (co _ (Grow.refl _)).mono ?_); rintro e w6 ⟨rfl, hg6⟩))
          have hgv := hg6.size
          refine wp_forget (fun Y => Blk Y w6.heap.size 30 #[.int .i64 u.k, .int .i64 u.n, .string u.s] ∧ Grow X Y) ⟨Blk.new _ _ _, hg6.al _⟩ ?_
          generalize w6.heap.size = gv at *
          rintro Y ⟨By, Gy⟩
          have BT := Lib.hid (BT.out.grow Gy)
          have BS := Lib.hid (BS.out.grow Gy)
          have BB := Lib.hid (BB.out.grow Gy)
          have Own := Lib.hid (own_grow Own.out Gy)
          have tx := tx.grow Gy
          have sz9 := Nat.le_trans sz9 Gy.size
          have LT1 := LT.out
          clear bx fx bt ft bl fl
          obtain ⟨bv, fv⟩ := By.rules
          obtain ⟨bt, ft⟩ := BT.out.rules
          go_upto_if 130 with fail
          go_cut [] (fun wx => (Blk wx gT 72 #[.int .i64 ((q.length : Int) + 1), .int .i64 rk1, .int .i64 dn1, .slice (some ⟨gS, 0, none⟩) wins.length wins.length, .slice (some ⟨gB, 0, none⟩) wins.length wins.length, .pointer (q.head?.map (fun l => ⟨l.g, 0, none⟩))] ∧ Blk wx gS 2 (sumC wins Q l.row (k + 1)).toArray ∧ Blk wx gB 4 (someC wins Q l.row (k + 1)).toArray) ∧ wx.ownsRow wz.heap.size 30 3 (.slice Bo (l.row.length + k) capo) (l.row.length + k) (flatW (l.row ++ (wins.take k).map (valW K.ks Q l.row))) ∧ TX (tp gT gS gB) w wx ∧ wz.heap.size ≤ wx.heap.size)
          case first =>
            by_cases h3 : u.k = 3
            · have d3 : (u.k == 3) = true := by simpa using h3
              have bu := RU.out.int h3
              have cS := Gy.cell CSB.out.1
              have cB := Gy.cell CSB.out.2
              have fS := BS.out.frozen
              have fB := BB.out.frozen
              have n1 := NE.out.1
              have n2 := NE.out.2.1
              have n3 := NE.out.2.2
              have H3 := Lib.hid h3
              clear h3
              go_upto_region 23 with fail
              go_big_region_o
              go_wp2
              go_meet
              have ls := LT.out
              refine ⟨⟨((BT.out.far (Ne.symm n1) _).far (Ne.symm n2) _).drew, ?_, ?_⟩, own_grow (own_set (own_set Own.out (by omega) k _) (by omega) k _) (Grow.refl _).drew, ((tx.set (.inr (.inl rfl)) _ _).set (.inr (.inr rfl)) _ _).grow (Grow.refl _).drew, by simpa using sz9⟩
              · rw [sumC_s Q l.row HXK.out, if_pos rfl, HU.out.2.1, HS0.out, if_pos H3.out, ← List.setIfInBounds_toArray]
                exact ((BS.out.set k (.int .i64 (s0 + u.n))).far (Ne.symm n3) _).drew
              · rw [someC_s Q l.row HXK.out, HU.out.2.2.1, decide_eq_true H3.out, ← List.setIfInBounds_toArray]
                exact ((BB.out.far n3 _).set k (.bool true)).drew
            · have d3 : (u.k == 3) = false := by simpa using h3
              have H3 := Lib.hid h3
              clear h3
              go_wp2
              go_meet
              refine ⟨⟨BT.out, ?_, ?_⟩, Own.out, tx, sz9⟩
              · rw [sumC_k Q l.row HXK.out (fun _ => by rw [HU.out.2.2.2, if_neg H3.out])]; exact BS.out
              · rw [someC_k Q l.row HXK.out (fun _ => by rw [HU.out.1]; exact H3.out)]; exact BB.out
          case rest =>
          obtain ⟨⟨bt9, bs9, bb9⟩, own, tx, sz9⟩ := hcut
          have Own := Lib.hid own
          have BT := Lib.hid bt9
          have BS := Lib.hid bs9
          have BB := Lib.hid bb9
          rename World => wy
          obtain ⟨s1, hs1⟩ : ∃ s1, totQ ax (l.row :: Q) = s1 := ⟨_, rfl⟩
          obtain ⟨m1, hm1⟩ : ∃ m1, someQ ax (l.row :: Q) = m1 := ⟨_, rfl⟩
          have cS : wy.cell? ⟨gS, k, none⟩ = some (.int .i64 s1) := BS.out.cells (by rw [List.getElem?_toArray, sumC_at Q l.row HXK.out, if_pos rfl, if_pos (by omega), hs1])
          have cB : wy.cell? ⟨gB, k, none⟩ = some (.bool m1) := BB.out.cells (by rw [List.getElem?_toArray, someC_at Q l.row HXK.out, if_pos (by omega), hm1]; rfl)
          have hv : (if m1 then intV s1 else nullV') = v9 := by
            rw [← HVV.out, ← hs1, ← hm1]
            unfold valW
            rw [if_neg (show ¬ (4 : Int) = 1 by decide), if_neg (show ¬ (4 : Int) = 2 by decide), if_neg (show ¬ (4 : Int) = 3 by decide), if_neg (show ¬ (4 : Int) = 5 by decide)]
          have HV9 := Lib.hid hv
          have CSB := Lib.hid (And.intro cS cB)
          clear bt9 bs9 bb9 own hs1 hm1 cS cB hv bt ft bv fv hgv
          go_upto_region 26 with (go_at_call 47; ((with_reducible refine (null _).mono ?_); rintro e w6 ⟨rfl, hg6⟩))
          have hgv := hg6.size
          refine wp_forget (fun Y => Blk Y w6.heap.size 30 #[.int .i64 1, .int .i64 0, .string es] ∧ Grow wy Y) ⟨Blk.new _ _ _, hg6.al _⟩ ?_
          generalize w6.heap.size = gv at *
          rintro Y ⟨By, Gy⟩
          have BY := Lib.hid By
          have cS := Gy.cell CSB.out.1
          have cB := Gy.cell CSB.out.2
          clear By
          obtain ⟨bt, ft⟩ := (BT.out.grow Gy).rules
          obtain ⟨bv, fv⟩ := BY.out.rules
          go_upto_if 155 with fail
          go_cut [] (fun wx => Blk wx gv 30 #[.int .i64 v9.k, .int .i64 v9.n, .string v9.s] ∧ Grow wy wx)
          case first =>
            cases m1 with
            | false =>
              have e : nullV' = v9 := HV9.out
              subst e
              go_wp2
              go_meet
              exact ⟨BY.out, Gy⟩
            | true =>
              have ci := fun W => int_any s1 W
              rw [show intV s1 = v9 from HV9.out] at ci
              unfold V.val at ci
              go_wp2_with (go_at_call 46; ((with_reducible refine (ci _).mono ?_); rintro e w8 ⟨rfl, hg8⟩; obtain ⟨bv2, fv2⟩ := (BY.out.grow hg8).rules))
              go_meet
              exact ⟨by simpa using (((BY.out.grow hg8).set 0 (.int .i64 v9.k)).set 1 (.int .i64 v9.n)).set 2 (.string v9.s), (((Gy.trans hg8).set hgv _).set hgv _).set hgv _⟩
          case rest =>
          obtain ⟨bv, Gw⟩ := hcut
          have Own2 := Lib.hid (own_grow Own.out Gw)
          have BV := Lib.hid bv
          have szw := Gw.size
          clear bt ft bv fv hgv
          obtain ⟨bv, fv⟩ := BV.out.rules
          go_wp2_with (at_builtin; refine wpList_append_srcW rfl _ _ rfl wz.heap.size _ _ _ rfl (Own2.out.alloc _) _ [v9] rfl (srcW_one (Blk.new _ _ _)) (by simp; omega) (by simp; omega) ?_; intro v7 w7 own7 gr7; replace gr7 : World.grownBy _ w7 (Value.slice Bo (l.row.length + k) capo).ownBlock := gr7; have Own7 := Lib.hid own7; clear own7)
          have tx7 := ((tx.grow Gw).grow ((Grow.refl _).al (.cells #[.int .i64 v9.k, .int .i64 v9.n, .string v9.s] 30))).own gr7 (fun i hi => .inl (LowB.out i hi))
          have B7 := Lib.hid (And.intro (blk_own ((BT.out.grow Gw).al _) (Own2.out.alloc _) (by decide) gr7) (And.intro (blk_own ((BS.out.grow Gw).al _) (Own2.out.alloc _) (by decide) gr7) (blk_own ((BB.out.grow Gw).al _) (Own2.out.alloc _) (by decide) gr7)))
          have sz7 := gr7.size
          clear gr7
          go_roundg (gk - 1)
          case measure => omega
          case rel => exact ⟨k + 1, by omega, by omega, by go_num, by rw [ES.out, ← List.append_assoc]; simpa [Nat.add_assoc] using Own7.out, B7.out.1, B7.out.2.1, B7.out.2.2, tx7, by simp at sz7; omega⟩
    · obtain rfl : k = wins.length := by omega
      have own := Own.out
      rw [List.take_length] at own
      have Own9 := Lib.hid own
      clear own
      obtain ⟨bt, ft⟩ := BT.out.rules
      go_wp2
      go_ret
      obtain ⟨rfl, lQ, e1, e2⟩ := HV.out
      have own := Own9.out
      have hl := LT.out
      refine ⟨Bo, capo, rfl, own_low (own_set own (by omega) 5 _) sz, ⟨?_, ?_, ?_⟩, tx.set tT _ _⟩
      · have h := BT.out.set 5 (.pointer (some ⟨l.g, 0, none⟩))
        rw [List.map_cons, e1, e2]
        simpa using h
      · rw [List.map_cons, ← sumC_n]; exact BS.out.far NE.out.1 _
      · rw [List.map_cons, ← someC_n]; exact BB.out.far NE.out.2.1 _
end Go.Proofs.Ytamfpppbjaelaaa
