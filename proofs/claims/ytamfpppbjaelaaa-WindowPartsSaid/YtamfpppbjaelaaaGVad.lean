/-
  Joined texts of this claim: Wk, Wnum, Ms, ReadW. What each proves its own head says; no condition beside those that each theorem names.
-/
import Derived.Test.YtamfpppbjaelaaaGVa
import Derived.Test.YtamfpppbjaelaaaGE
import Derived.Maps.Own
import Derived.Test.YtamfpppbjaelaaaGS
import Derived.Test.YtamfpppbjaelaaaGAa
namespace Go.Proofs.Ytamfpppbjaelaaa
open Go.RowKit Go.Calm
set_option linter.unusedSimpArgs false
set_option linter.unusedVariables false
def toldT (ps ks : List E) (wins : List Ag) (z : List Z) : List Z := (toldW ps ks wins [] (linesW ps ks z)).map (fun r => (r, 1))
theorem win_ok {cols : List Int} {ps ks : List E} {wins : List Ag} {z w : List Z} (h : winZ cols ps ks wins z = (w, 0)) : WOk cols ps ks wins z ∧ cntZ z ≤ 400 ∧ sumZ (toldT ps ks wins z) = (w, 0) := by
  unfold winZ at h
  repeat' split at h
  all_goals try (simp only [Prod.mk.injEq] at h; omega)
  exact ⟨⟨by omega, by omega, by omega, by omega, by omega⟩, by omega, h⟩
theorem win_err {cols : List Int} {ps ks : List E} {wins : List Ag} {z w : List Z} {e : Int} (h : winZ cols ps ks wins z = (w, e)) (he : e ≠ 0) : w = [] := by
  unfold winZ at h
  repeat' split at h
  all_goals first
    | (simp only [Prod.mk.injEq] at h; exact h.1.symm)
    | skip
  unfold sumZ at h
  rcases fitZ_cases (setZ ((toldW ps ks wins [] (linesW ps ks z)).map (fun r => (r, 1)))) with ⟨h1, _⟩ | ⟨e', _, h1⟩
  · rw [h1] at h; simp only [Prod.mk.injEq] at h; exact absurd h.2.symm he
  · rw [h1] at h; simp only [Prod.mk.injEq] at h; exact h.1.symm
section
variable {cols : List Int} {ps ks : List E} {wins : List Ag} {z : List Z}
theorem line_in {r : List V} (h : r ∈ linesW ps ks z) : ∃ x ∈ z, x.1 = r ∧ 0 < x.2 := expZ_mem ((linesW_perm ps ks z).mem_iff.1 h)
theorem WOk.line (ok : WOk cols ps ks wins z) {r : List V} (h : r ∈ linesW ps ks z) : r.length = cols.length ∧ ∀ v ∈ r, RV v := by
  obtain ⟨x, hx, rfl, _⟩ := line_in h
  exact ok.row hx
theorem WOk.told (ok : WOk cols ps ks wins z) : okR (toldT ps ks wins z) := fun y hy => by
  obtain ⟨u, hu, rfl⟩ := List.mem_map.1 hy
  obtain ⟨q, r, hr, hq, rfl⟩ := toldW_mem ps ks wins _ _ _ hu
  refine ⟨by simp only [tellW, List.length_append, List.length_map, (ok.line hr).1]; exact ok.n, tell_rv (fun a ha => ok.kind ha) (ok.line hr).2 (fun y hy a ha h5 => ?_)⟩
  rcases hq y hy with h | h
  · simp at h
  · exact rv_of y (ok.line h).2 a.x (ok.re ha (.inr h5) (ok.line h).1)
theorem told_len (ok : WOk cols ps ks wins z) {u : List V} (h : u ∈ toldW ps ks wins [] (linesW ps ks z)) : u.length = cols.length + wins.length := by
  obtain ⟨q, r, hr, _, rfl⟩ := toldW_mem ps ks wins _ _ _ h
  simp only [tellW, List.length_append, List.length_map, (ok.line hr).1]
end
theorem told_take (ps ks : List E) (wins : List Ag) (n : Nat) : ∀ (l q : List (List V)), (∀ r ∈ l, r.length = n) → (toldW ps ks wins q l).map (List.take n) = l
  | [], q, _ => rfl
  | r :: l, q, h => by
    unfold toldW
    rw [List.map_cons, told_take ps ks wins n l _ (fun x hx => h x (List.mem_cons_of_mem _ hx)), tellW, List.take_left' (h r (by simp))]
def sumL (f : List V → Int) (l : List (List V)) : Int := (l.map f).sum
theorem sumL_perm (f : List V → Int) {a b : List (List V)} (h : a.Perm b) : sumL f a = sumL f b := by
  unfold sumL
  induction h with
  | nil => rfl
  | cons x _ ih => simp only [List.map_cons, List.sum_cons, ih]
  | swap x y l => simp only [List.map_cons, List.sum_cons]; omega
  | trans _ _ h1 h2 => exact h1.trans h2
theorem sumF_ones (f : List V → Int) : ∀ l : List (List V), sumF f (l.map (fun r => (r, (1 : Int)))) = sumL f l
  | [] => rfl
  | x :: l => by
    have ih := sumF_ones f l
    unfold sumL at *
    simp only [List.map_cons, List.sum_cons, sumF, ih]; omega
theorem sumL_rep (f : List V → Int) (r : List V) : ∀ n : Nat, sumL f (List.replicate n r) = f r * n
  | 0 => by simp [sumL]
  | n + 1 => by
    have ih := sumL_rep f r n
    unfold sumL at *
    rw [List.replicate_succ, List.map_cons, List.sum_cons, ih, Int.natCast_succ, Int.mul_add]; omega
theorem sumL_exp (f : List V → Int) : ∀ z : List Z, sumL f (expZ z) = sumF f (z.map (fun x => (x.1, posF x.2)))
  | [] => rfl
  | x :: z => by
    have ih := sumL_exp f z
    have e : expZ (x :: z) = List.replicate x.2.toNat x.1 ++ expZ z := by unfold expZ; rw [List.flatMap_cons]
    rw [e]
    have h1 := sumL_rep f x.1 x.2.toNat
    unfold sumL at *
    rw [List.map_append, List.sum_append, ih, h1, List.map_cons, sumF]
    have : ((x.2.toNat : Nat) : Int) = posF x.2 := by unfold posF; split <;> omega
    rw [this, Int.mul_comm]
theorem bareR_take (r : List V) (n : Nat) : bareR (r.take n) = (bareR r).take n := by unfold bareR; rw [List.map_take]
def cutL (n : Nat) (w : List Z) : List Z := w.map (fun r => (r.1.take n, r.2))
theorem keeps_plain {cols : List Int} {ps ks : List E} {wins : List Ag} {z w : List Z} (h : winZ cols ps ks wins z = (w, 0)) : (∀ r ∈ w, r.1.length = cols.length + wins.length) ∧ wrongZ z = 0 ∧ ofZ (cutL cols.length w) = (eachL posF z, 0) := by
  obtain ⟨ok, l400, hs⟩ := win_ok h
  obtain ⟨_, hwz, _⟩ := inputE_zero ok.z
  have smz := SM.of hwz
  obtain ⟨cw, ww, wt⟩ := sum_ok ok.told hs
  have smw := SM.of ww
  have ew : w = setZ (toldT ps ks wins z) := by
    unfold sumZ at hs
    rcases fitZ_cases (setZ (toldT ps ks wins z)) with ⟨h1, _⟩ | ⟨e', he, h1⟩
    · rw [h1] at hs; simp only [Prod.mk.injEq, and_true] at hs; exact hs.symm
    · rw [h1] at hs; simp only [Prod.mk.injEq] at hs; exact absurd hs.2 he
  refine ⟨fun r hr => ?_, hwz, ?_⟩
  · rw [ew] at hr
    obtain ⟨x, hx, e⟩ := setZ_mem hr
    obtain ⟨u, hu, rfl⟩ := List.mem_map.1 hx
    rw [e, bareR_len]
    exact told_len ok hu
  have okC : okR (cutL cols.length w) := fun y hy => by
    obtain ⟨x, hx, rfl⟩ := List.mem_map.1 hy
    have h1 := smw.ok x hx
    exact ⟨by have := List.length_take_le cols.length x.1; have := h1.1; simp only; omega, fun v hv => h1.2 v (List.mem_of_mem_take hv)⟩
  have wtC : ∀ q, wtZ (cutL cols.length w) q = wtZ (z.map (fun x => (x.1, posF x.2))) q := fun q => by
    unfold cutL
    rw [wt_map (List.take cols.length) q w, sumF_congr (f := fun r => rowI q (r.take cols.length)) (fun r s e => by
      show rowI q _ = rowI q _
      exact rowI_resp q _ _ (by rw [bareR_take, bareR_take, e])) wt]
    unfold toldT
    rw [sumF_ones]
    have e1 : sumL (fun r => rowI q (r.take cols.length)) (toldW ps ks wins [] (linesW ps ks z)) = sumL (rowI q) ((toldW ps ks wins [] (linesW ps ks z)).map (List.take cols.length)) := by unfold sumL; rw [List.map_map]; rfl
    rw [e1, told_take ps ks wins cols.length _ _ (fun r hr => (ok.line hr).1), sumL_perm _ (linesW_perm ps ks z), sumL_exp, wt_sumF]
  have okP : okR (z.map (fun x => (x.1, posF x.2))) := fun y hy => by
    obtain ⟨x, hx, rfl⟩ := List.mem_map.1 hy
    exact smz.ok x hx
  have e : setZ (cutL cols.length w) = eachL posF z := by
    rw [each_set smz.rv smz.up]
    exact setZ_ext (fun x hx => (okC x hx).2) (fun x hx => (okP x hx).2) wtC
  obtain ⟨s, hs2, _, sms, _⟩ := pos_sm smz (by omega) (by omega) (by omega)
  have es : s = eachL posF z := by
    unfold eachZ at hs2
    rw [if_neg (by rw [hwz]; simp)] at hs2
    simp only [Prod.mk.injEq, and_true] at hs2
    exact hs2.symm
  rw [es] at sms
  have lC : (cutL cols.length w).length ≤ 400 := by unfold cutL; rw [List.length_map]; exact smw.len
  rw [← e]
  refine ofZ_of (by omega) (fun x hx => ⟨okC x hx, ?_⟩) (by rw [e]; exact sms.len) (by rw [e]; exact sms.bd)
  obtain ⟨y, hy, rfl⟩ := List.mem_map.1 hx
  exact smw.bd y hy
/-! without parts: the lines ahead are all lines ahead -/
theorem partQ_nil (q : List (List V)) (r : List V) : partQ [] q r = q := by
  unfold partQ
  cases q with
  | nil => rfl
  | cons a q => simp only; rw [if_neg]; simp [valsR]; rfl
theorem toldW_at (ks : List E) (wins : List Ag) : ∀ (l q : List (List V)) (i : Nat) (r : List V), l[i]? = some r → (toldW [] ks wins q l)[i]? = some (tellW ks wins ((l.take i).reverse ++ q) r)
  | [], q, i, r, h => by simp at h
  | x :: l, q, 0, r, h => by simp at h; subst h; unfold toldW; rw [partQ_nil]; rfl
  | x :: l, q, i + 1, r, h => by
    unfold toldW
    rw [partQ_nil]
    have := toldW_at ks wins l (x :: q) i r (by simpa using h)
    simpa using this
theorem getD_bare (u : List V) (n : Nat) (h : (u.getD n nullV').k = 3) : ((bareR u).getD n nullV').n = (u.getD n nullV').n ∧ ((bareR u).getD n nullV').k = 3 := by
  rw [List.getD_eq_getElem?_getD] at *
  unfold bareR
  rw [List.getD_eq_getElem?_getD, List.getElem?_map]
  cases e : u[n]? with
  | none => rw [e] at h; simp at h; exact absurd h (by decide)
  | some v =>
    rw [e] at h
    simp at h
    simp [bare, h]
theorem intV_n {n : Int} (h0 : 0 ≤ n) (h : n ≤ 1000) : intV n = ⟨3, n, es⟩ := by unfold intV; rw [if_pos (by omega)]
theorem tell_at {ks : List E} {wins : List Ag} {q : List (List V)} {r : List V} {n j : Nat} {a : Ag} (hr : r.length = n) (ha : wins[j]? = some a) : (tellW ks wins q r).getD (n + j) nullV' = valW ks q r a := by
  unfold tellW
  rw [List.getD_eq_getElem?_getD, List.getElem?_append_right (by omega), hr, Nat.add_sub_cancel_left, List.getElem?_map, ha]; rfl
structure NumOk (n N : Nat) (told : List (List V)) (w : List Z) : Prop where
  len : w.length = N
  row : ∀ y ∈ w, y.2 = 1 ∧ ∃ (i : Nat) (u : List V), told[i]? = some u ∧ y.1 = bareR u ∧ i < N ∧ (y.1.getD n nullV').k = 3 ∧ (y.1.getD n nullV').n = (i : Int) + 1
  inj : ∀ y ∈ w, ∀ z ∈ w, (y.1.getD n nullV').n = (z.1.getD n nullV').n → y = z
  all : ∀ (i : Nat) (u : List V), told[i]? = some u → ∃ y ∈ w, y.1 = bareR u
theorem wt_zero : ∀ {l : List Z} {q : List V}, (∀ x ∈ l, bareR x.1 ≠ bareR q) → wtZ l q = 0
  | [], _, _ => rfl
  | x :: l, q, h => by rw [wtZ_cons, if_neg (h x (by simp)), wt_zero (fun y hy => h y (by simp [hy]))]; rfl
theorem wt_ones (n : Nat) : ∀ (told : List (List V)), (∀ (i j : Nat) (u v : List V), told[i]? = some u → told[j]? = some v → bareR u = bareR v → i = j) → ∀ (i : Nat) (u : List V), told[i]? = some u → wtZ (told.map (fun r => (r, (1 : Int)))) u = 1
  | [], _, i, u, h => by simp at h
  | x :: l, hd, 0, u, h => by
    simp at h; subst h
    rw [List.map_cons, wtZ_cons, if_pos rfl, wt_zero (fun y hy => by
      obtain ⟨v, hv, rfl⟩ := List.mem_map.1 hy
      obtain ⟨j, hj⟩ := List.mem_iff_getElem?.1 hv
      intro e
      exact absurd (hd (j + 1) 0 v x (by simpa using hj) (by simp) e) (by omega))]
    rfl
  | x :: l, hd, i + 1, u, h => by
    have hn : bareR x ≠ bareR u := fun e => absurd (hd 0 (i + 1) x u (by simp) h e) (by omega)
    rw [List.map_cons, wtZ_cons, if_neg hn, wt_ones n l (fun i j u v h1 h2 e => by have := hd (i + 1) (j + 1) u v (by simpa using h1) (by simpa using h2) e; omega) i u (by simpa using h)]
    rfl
theorem num_ok {cols : List Int} {ks : List E} {wins : List Ag} {z w : List Z} {x0 : E} (h : winZ cols [] ks wins z = (w, 0)) (h1 : wins[0]? = some ⟨1, x0⟩) :
    NumOk cols.length (cntZ z) (toldW [] ks wins [] (linesW [] ks z)) w ∧ Canon w ∧ cntZ z ≤ 400 ∧ WOk cols [] ks wins z := by
  obtain ⟨ok, l400, hs⟩ := win_ok h
  obtain ⟨cw, ww, wt⟩ := sum_ok ok.told hs
  have ll : (linesW [] ks z).length = cntZ z := (linesW_perm [] ks z).length_eq
  have lt : (toldW [] ks wins [] (linesW [] ks z)).length = cntZ z := by rw [toldW_len, ll]
  have ew : w = setZ (toldT [] ks wins z) := by
    unfold sumZ at hs
    rcases fitZ_cases (setZ (toldT [] ks wins z)) with ⟨h1, _⟩ | ⟨e', he, h1⟩
    · rw [h1] at hs; simp only [Prod.mk.injEq, and_true] at hs; exact hs.symm
    · rw [h1] at hs; simp only [Prod.mk.injEq] at hs; exact absurd hs.2 he
  -- each told line's number
  have num : ∀ i u, (toldW [] ks wins [] (linesW [] ks z))[i]? = some u → i < cntZ z ∧ u.getD cols.length nullV' = ⟨3, (i : Int) + 1, es⟩ := fun i u hu => by
    have hi : i < cntZ z := by rw [← lt]; exact (List.getElem?_eq_some_iff.1 hu).1
    obtain ⟨r, hr⟩ : ∃ r, (linesW [] ks z)[i]? = some r := ⟨_, List.getElem?_eq_getElem (by rw [ll]; exact hi)⟩
    have h2 := toldW_at ks wins _ [] i r hr
    rw [hu] at h2
    simp only [Option.some.injEq] at h2
    refine ⟨hi, ?_⟩
    have h3 := tell_at (ks := ks) (q := ((linesW [] ks z).take i).reverse ++ []) (j := 0) (ok.line (List.mem_of_getElem? hr)).1 h1
    rw [← h2, Nat.add_zero] at h3
    rw [h3]
    unfold valW
    rw [if_pos rfl]
    have l9 : ((((linesW [] ks z).take i).reverse ++ []).length : Int) = i := by simp; omega
    rw [l9, intV_n (by omega) (by omega)]
  have dist : ∀ i j u v, (toldW [] ks wins [] (linesW [] ks z))[i]? = some u → (toldW [] ks wins [] (linesW [] ks z))[j]? = some v → bareR u = bareR v → i = j := fun i j u v hu hv e => by
    have h1 := (num i u hu).2
    have h2 := (num j v hv).2
    have g1 := (getD_bare u cols.length (by rw [h1])).1
    have g2 := (getD_bare v cols.length (by rw [h2])).1
    rw [e, g2, h1, h2] at g1
    simp at g1
    omega
  have one := wt_ones 0 _ dist
  have row : ∀ y ∈ w, y.2 = 1 ∧ ∃ i u, (toldW [] ks wins [] (linesW [] ks z))[i]? = some u ∧ y.1 = bareR u ∧ i < cntZ z ∧ (y.1.getD cols.length nullV').k = 3 ∧ (y.1.getD cols.length nullV').n = (i : Int) + 1 := fun y hy => by
    have hy2 := hy
    rw [ew] at hy2
    obtain ⟨x, hx, e⟩ := setZ_mem hy2
    obtain ⟨u, hu, rfl⟩ := List.mem_map.1 hx
    obtain ⟨i, hi⟩ := List.mem_iff_getElem?.1 hu
    have h1 := canon_mem cw y hy
    have h2 := one i u hi
    have n1 := num i u hi
    have g1 := getD_bare u cols.length (by rw [n1.2])
    refine ⟨?_, i, u, hi, e, n1.1, by rw [e]; exact g1.2, by rw [e, g1.1, n1.2]⟩
    rw [← h1, wt, ← h2]
    unfold toldT
    unfold wtZ
    rw [e]
    simp only [bareR_bareR]
  have all : ∀ i u, (toldW [] ks wins [] (linesW [] ks z))[i]? = some u → ∃ y ∈ w, y.1 = bareR u := fun i u hu => by
    apply Classical.byContradiction
    intro hn
    have h2 := one i u hu
    have h3 : wtZ w u = 0 := wt_zero (fun x hx e => hn ⟨x, hx, by rw [← e, cw.bare x hx]⟩)
    rw [wt] at h3
    unfold toldT at h3
    omega
  have inj : ∀ y ∈ w, ∀ z' ∈ w, (y.1.getD cols.length nullV').n = (z'.1.getD cols.length nullV').n → y = z' := fun y hy z' hz e => by
    obtain ⟨a1, i, u, hi, e1, _, _, n1⟩ := row y hy
    obtain ⟨a2, j, v, hj, e2, _, _, n2⟩ := row z' hz
    obtain rfl : i = j := by omega
    rw [hi] at hj
    simp only [Option.some.injEq] at hj
    subst hj
    exact Prod.ext (e1.trans e2.symm) (a1.trans a2.symm)
  refine ⟨⟨?_, row, inj, all⟩, cw, l400, ok⟩
  have nd1 : (w.map Prod.fst).Nodup := by
    rw [List.nodup_iff_pairwise_ne, List.pairwise_map]
    exact cw.up.imp (fun {a b} hab e => by rw [e, ordR_selfW] at hab; omega)
  have nd2 : ((toldW [] ks wins [] (linesW [] ks z)).map bareR).Nodup := by
    rw [List.nodup_iff_pairwise_ne, List.pairwise_iff_getElem]
    intro i j hi hj hij e
    rw [List.getElem_map, List.getElem_map] at e
    have := dist i j _ _ (List.getElem?_eq_getElem (by simpa using hi)) (List.getElem?_eq_getElem (by simpa using hj)) e
    omega
  have pm : (w.map Prod.fst).Perm ((toldW [] ks wins [] (linesW [] ks z)).map bareR) := by
    rw [List.perm_ext_iff_of_nodup nd1 nd2]
    intro a
    rw [List.mem_map, List.mem_map]
    constructor
    · rintro ⟨y, hy, rfl⟩
      obtain ⟨_, i, u, hi, e, _⟩ := row y hy
      exact ⟨u, List.mem_of_getElem? hi, e.symm⟩
    · rintro ⟨u, hu, rfl⟩
      obtain ⟨i, hi⟩ := List.mem_iff_getElem?.1 hu
      obtain ⟨y, hy, e⟩ := all i u hi
      exact ⟨y, hy, e⟩
  have := pm.length_eq
  simpa [lt] using this
def KeySet (w : World) (g : Nat) (ks : List Int) : Prop := ∃ (es : Array MapEntry) (cl : Nat), w.heap[g]? = some (.map es cl) ∧ (∀ e ∈ es.toList, ∃ k, e.key = .int .i64 k ∧ e.val = .bool true) ∧ ∀ k : Int, (∃ e ∈ es.toList, e.key = .int .i64 k) ↔ k ∈ ks
theorem KeySet.new (w : World) : KeySet (w.alloc (.map #[] 0)) w.heap.size [] := ⟨#[], 0, heap_alloc_new w _, fun e he => by simp at he, fun k => by simp⟩
theorem KeySet.grow {w w' : World} {g : Nat} {ks : List Int} (h : KeySet w g ks) (hg : Grow w w') : KeySet w' g ks := by
  obtain ⟨es, cl, h1, h2⟩ := h
  exact ⟨es, cl, hg.heap h1, h2⟩
theorem KeySet.look {w : World} {g : Nat} {ks : List Int} (h : KeySet w g ks) (k : Int) : (Instr.lookup 36 (.map (some g)) (.int .i64 k) false).run Try.prog w = .ok (.bool (decide (k ∈ ks))) w := by
  obtain ⟨es, cl, h1, h2, h3⟩ := h
  have hks : ∀ x ∈ es.toList, MapKept.IsKey (.int .i64) x.key := fun x hx => by
    obtain ⟨j, e, _⟩ := h2 x hx
    rw [e]; rfl
  have z : ∀ W, (zeroValue 4).run Try.prog W = .ok (.bool false) W := fun W => by kernel_rfl
  rcases MapKept.findNow_spec (d := .int .i64) (k := .int .i64 k) rfl es.toList 0 hks with ⟨e1, e2⟩ | ⟨j, e, e1, e2, e3⟩
  · have hn : k ∉ ks := fun hk => by
      obtain ⟨x, hx, e⟩ := (h3 k).2 hk
      exact e2 x hx e
    rw [decide_eq_false hn]
    simp [Instr.lookup, run_underlying Try.underlying36, MapKept.run_getObj_map h1, MapKept.run_checkKey Try.underlying2 (show MapKept.IsKey (.int .i64) (.int .i64 k) from rfl), MapKept.run_findKey Try.underlying2 e1, Result.andThen, z]
  · have hm : e ∈ es.toList := List.mem_of_getElem? e2
    obtain ⟨_, _, ev⟩ := h2 e hm
    have hk : k ∈ ks := (h3 k).1 ⟨e, hm, e3⟩
    rw [decide_eq_true hk]
    simp [Instr.lookup, run_underlying Try.underlying36, MapKept.run_getObj_map h1, MapKept.run_checkKey Try.underlying2 (show MapKept.IsKey (.int .i64) (.int .i64 k) from rfl), MapKept.run_findKey Try.underlying2 e1, Result.andThen, ev]
theorem KeySet.put {w : World} {g : Nat} {ks : List Int} (h : KeySet w g ks) {k : Int} (hk : k ∉ ks) : ∃ w', (Instr.mapUpdate 36 (.map (some g)) (.int .i64 k) (.bool true)).run Try.prog w = .ok () w' ∧ KeySet w' g (k :: ks) ∧ GX g w w' := by
  obtain ⟨es, cl, h1, h2, h3⟩ := h
  have hks : ∀ x ∈ es.toList, MapKept.IsKey (.int .i64) x.key := fun x hx => by
    obtain ⟨j, e, _⟩ := h2 x hx
    rw [e]; rfl
  have lg : g < w.heap.size := by
    rcases Nat.lt_or_ge g w.heap.size with h | h
    · exact h
    · rw [Array.getElem?_eq_none h] at h1; cases h1
  rcases MapKept.findNow_spec (d := .int .i64) (k := .int .i64 k) rfl es.toList 0 hks with ⟨e1, e2⟩ | ⟨j, e, e1, e2, e3⟩
  · refine ⟨{ w with heap := w.heap.setIfInBounds g (.map (es.push ⟨.int .i64 k, .bool true, cl⟩) (cl + 1)) }, ?_, ⟨es.push ⟨.int .i64 k, .bool true, cl⟩, cl + 1, by simp [lg], fun e he => ?_, fun q => ?_⟩, ?_⟩
    · simp [Instr.mapUpdate, run_underlying Try.underlying36, MapKept.run_getObj_map h1, MapKept.run_checkKey Try.underlying2 (show MapKept.IsKey (.int .i64) (.int .i64 k) from rfl), MapKept.run_findKey Try.underlying2 e1, MapKept.run_setObj_map _ h1, Result.andThen]
    · simp at he
      rcases he with he | rfl
      · exact h2 e (by simpa using he)
      · exact ⟨k, rfl, rfl⟩
    · have h := h3 q
      simp only [Array.toList_push, List.mem_append, List.mem_singleton, List.mem_cons]
      constructor
      · rintro ⟨e, he | he, e4⟩
        · exact .inr (h.1 ⟨e, he, e4⟩)
        · simp at he; subst he; simp at e4; exact .inl e4.symm
      · rintro (rfl | hq)
        · exact ⟨⟨.int .i64 q, .bool true, cl⟩, .inr (by simp), rfl⟩
        · obtain ⟨e, he, e4⟩ := h.2 hq
          exact ⟨e, .inl he, e4⟩
    · exact ⟨rfl, rfl, rfl, by simp, fun i hi hne => by
        have : g ≠ i := fun e => hne (by rw [e])
        simp [Array.getElem?_setIfInBounds, this]⟩
  · exact absurd ((h3 k).1 ⟨e, List.mem_of_getElem? e2, e3⟩) hk
theorem wpList_mapUpdate_set {w : World} {ops : Array Oper} {rest : List Oper} {o : Oper} {a : Act} {Q : Exit → Act → World → Prop} (hg : o.guard = none) (m x v : Operand) (hop : o.op = Op.mapUpdate 36 m x v) (g : Nat) (ks : List Int) (k : Int) (hm : a.eval m = .map (some g)) (hx : a.eval x = .int .i64 k) (hv : a.eval v = .bool true) (hs : KeySet w g ks) (hk : k ∉ ks)
    (hK : ∀ w', KeySet w' g (k :: ks) → GX g w w' → wpList Try.prog ops Q rest (a.put o.dst undef) w') : wpList Try.prog ops Q (o :: rest) a w := by
  refine wpList_plain hg fun K' hK' => ?_
  obtain ⟨w', hrun, r1, r2⟩ := hs.put hk
  unfold Oper.wp
  simp [execOp, hop, hm, hx, hv, hrun, Result.andThen]
  exact hK' _ _ (hK w' r1 r2)
end Go.Proofs.Ytamfpppbjaelaaa

namespace Go.Proofs.Ytamfpppbjaelaaa
open Go.ChangeShapes Go.WideShapes Go.ChangeAt Go.RowKit Go.Calm
set_option maxRecDepth 100000
set_option linter.unusedVariables false
set_option linter.unusedSimpArgs false
section
variable {H : Type} {enc : TypeId × Value → H} {w : World} {base : Nat} {spare : Nat → Bool} {held : Bool}
theorem win_cells {fuel : Nat} {cs : List Value} {x : DataW H × List MemPlace} (h : DataW.trod enc Try.prog w base spare held fuel 34 cs = some x) :
    ∃ a : Ag, cs = .int .i64 a.k :: a.x.cells ∧ EX w a.x := by
  obtain ⟨xs, n, hfu, _, hlen, hxl, hf⟩ := DataW.trod_struct Try.underlying34 h
  have h6 : cs.length = 7 := by rw [hlen]; kernel_rfl
  match cs, h6 with
  | [a, b, c, d, e, f, g'], _ =>
    have f0 := hf 0 _ rfl
    have f1 := hf 1 _ rfl
    have g : ∀ i, i < 2 → ∃ y, xs[i]? = some y := fun i hi => ⟨xs[i]'(by rw [hxl]; exact hi), List.getElem?_eq_getElem _⟩
    obtain ⟨y0, e0⟩ := g 0 (by omega)
    obtain ⟨y1, e1⟩ := g 1 (by omega)
    rw [e0] at f0
    rw [e1] at f1
    obtain ⟨k, hk, _, wk⟩ := DataW.trod_int Try.underlying3 f0
    obtain ⟨x, hx, hX⟩ := ex_cells _ f1
    have c0 : Try.prog.cellsOf 3 = 1 := by kernel_rfl
    have c1 : Try.prog.cellsOf 32 = 6 := by kernel_rfl
    simp [c0] at hk
    simp [c1] at hx
    exact ⟨⟨k, x⟩, by rw [hk, ← hx], hX⟩
theorem wins_cells {fuel : Nat} {cs : List Value} {x : DataW H × List MemPlace} (h : DataW.trod enc Try.prog w base spare held fuel 35 cs = some x) :
    ∃ (A : Option Addr) (xs : List Ag) (cap : Nat), cs = [.slice A xs.length cap] ∧ AgSl w A xs ∧ xs.length ≤ maxLen ∧ xs.length ≤ cap := by
  obtain ⟨A, len, cap, n, D, hcs, hl, hcap, hi⟩ := slice_cells (c := 7) Try.underlying35 (by kernel_rfl) (by omega) h
  obtain ⟨xs, hxl, hx⟩ := list_of (α := Ag) (P := fun i x => ∃ g o, A = some ⟨g, o, none⟩ ∧ AgCells w g (o + i * 7) x ∧ EX w x.x) len (fun i hlt => by
    obtain ⟨g, o, ys, hA, hyl, hat, hd⟩ := hi i hlt
    obtain ⟨x, hx, hv⟩ := win_cells hd
    subst hx
    exact ⟨x, g, o, hA, ⟨hat 0 _ rfl, hat 1 _ rfl, hat 2 _ rfl, hat 3 _ rfl, hat 4 _ rfl, hat 5 _ rfl, hat 6 _ rfl⟩, hv⟩)
  exact ⟨A, xs, cap, by rw [hcs, hxl], hx, by omega, by omega⟩
theorem wins_read {r : Reach} {b0 : Nat} {v : Value} {d : DataW H} {p : List MemPlace} (hv : Value.okWide Try.prog w r b0 35 v) (h : DataW.Trod enc Try.prog w base spare held 35 v d p) :
    ∃ (A : Option Addr) (xs : List Ag) (cap : Nat), v = .slice A xs.length cap ∧ AgSl w A xs ∧ xs.length ≤ maxLen ∧ xs.length ≤ cap := by
  obtain ⟨a, len, cap, rfl⟩ := okWide_slice Try.underlying35 hv
  obtain ⟨fuel, hf⟩ := h
  obtain ⟨A, xs, c, hcs, h1, h2, h3⟩ := wins_cells hf
  simp [Value.cells] at hcs
  obtain ⟨rfl, rfl, rfl⟩ := hcs
  exact ⟨_, xs, _, rfl, h1, h2, h3⟩
end
end Go.Proofs.Ytamfpppbjaelaaa
