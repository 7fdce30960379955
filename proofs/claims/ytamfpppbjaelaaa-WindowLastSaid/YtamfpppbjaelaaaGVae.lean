/-
  Joined texts of this claim: Wlast. What each proves its own head says; no condition beside those that each theorem names.
-/
import Derived.Test.YtamfpppbjaelaaaGVad
import Derived.Test.YtamfpppbjaelaaaGGa
import Derived.Test.YtamfpppbjaelaaaGR
namespace Go.Proofs.Ytamfpppbjaelaaa
open Go.RowKit Go.Calm
set_option linter.unusedSimpArgs false
set_option linter.unusedVariables false
theorem sum_pg (f : List V → Int) : ∀ z : List Z, sumF f (pg z) = sumF f (z.map (fun x => (x.1, posF x.2)))
  | [] => rfl
  | x :: z => by
    have ih := sum_pg f z
    unfold pg at ih ⊢
    rw [List.filter_cons, List.map_cons, sumF]
    by_cases h : 0 < x.2
    · rw [if_pos (by simpa using h), sumF, ih, show posF x.2 = x.2 by unfold posF; rw [if_neg (by omega)]]
    · rw [if_neg (by simpa using h), ih, show posF x.2 = 0 by unfold posF; split <;> omega]; simp
theorem sumL_len : ∀ l : List (List V), sumL oneF l = (l.length : Int)
  | [] => rfl
  | x :: l => by
    have ih := sumL_len l
    unfold sumL at *
    simp only [List.map_cons, List.sum_cons, ih, List.length_cons, oneF]; omega
theorem cnt_pg (z : List Z) : sumF oneF (pg z) = (cntZ z : Int) := by rw [sum_pg, ← sumL_exp, sumL_len]; rfl
theorem totQ_sum (x : E) : ∀ q : List (List V), totQ x q = sumL (numQ x) q
  | [] => rfl
  | r :: q => by
    have ih := totQ_sum x q
    unfold sumL at *
    rw [totQ, ih, List.map_cons, List.sum_cons]; omega
theorem as_sum {x : E} (l : List Z) : (∀ r ∈ l, (ofE r.1 x).k = 1 ∨ (ofE r.1 x).k = 3) → (asOf ⟨3, x⟩ l).s = sumF (numQ x) l ∧ (asOf ⟨3, x⟩ l).known = l.any (fun r => decide ((ofE r.1 x).k = 3)) := by
  refine snoc_ind (P := fun l => (∀ r ∈ l, (ofE r.1 x).k = 1 ∨ (ofE r.1 x).k = 3) → (asOf ⟨3, x⟩ l).s = sumF (numQ x) l ∧ (asOf ⟨3, x⟩ l).known = l.any (fun r => decide ((ofE r.1 x).k = 3))) (fun _ => ⟨rfl, rfl⟩) (fun l r ih => ?_) l
  intro h
  obtain ⟨i1, i2⟩ := ih (fun q hq => h q (by simp [hq]))
  rw [asOf_snoc, sumF_append, List.any_append]
  unfold asStep
  rw [if_neg (by simp)]
  rcases h r (by simp) with h1 | h1
  · rw [if_pos h1]
    simp [i1, i2, sumF, numQ, h1]
  · rw [if_neg (by rw [h1]; decide)]
    simp [i1, i2, sumF, numQ, h1]
theorem mem_pg {z : List Z} {r : List V} : (∃ x ∈ pg z, x.1 = r) ↔ r ∈ expZ z := by
  unfold pg expZ
  rw [List.mem_flatMap]
  constructor
  · rintro ⟨x, hx, rfl⟩
    rw [List.mem_filter] at hx
    exact ⟨x, hx.1, List.mem_replicate.2 ⟨by have := hx.2; simp at this; omega, rfl⟩⟩
  · rintro ⟨x, hx, h⟩
    rw [List.mem_replicate] at h
    exact ⟨x, List.mem_filter.2 ⟨hx, by simp; omega⟩, h.2.symm⟩
def winL (x : E) : List Ag := [⟨1, .leaf⟩, ⟨4, x⟩]
def aggL (x : E) : List Ag := [⟨1, .leaf⟩, ⟨3, x⟩]
theorem last_plain {cols : List Int} {ks : List E} {x : E} {z w g : List Z} (h : winZ cols [] ks (winL x) z = (w, 0)) (hg : grpZ cols [] (aggL x) z = (g, 0)) :
    ∃ s, g = [([nV' (w.length : Int), s], 1)] ∧ w.length ≤ 400 ∧ cols.length + 2 ≤ 8 ∧ (∀ y ∈ w, y.1.length = cols.length + 2 ∧ ((y.1.getD cols.length nullV').n = (w.length : Int) → y.1.getD (cols.length + 1) nullV' = s)) := by
  obtain ⟨no, cw, l400, ok⟩ := num_ok h rfl
  have ll : (linesW [] ks z).length = cntZ z := (linesW_perm [] ks z).length_eq
  -- what the expression comes to
  have kx := winT_kind (winsE_zero ok.wins ⟨4, x⟩ (by simp [winL]))
  have tz := kx.2.1 (.inl rfl)
  have tT := kx.2.2 rfl
  simp only at tz tT
  have hty : ∀ r ∈ z, (ofE r.1 x).k = 1 ∨ (ofE r.1 x).k = 3 := fun r hr => by
    have hF := (fits_iff cols r.1).1 ((inputE_zero ok.z).2.2 r hr)
    have hok : Okay cols x (typeE cols x).1 := okay_iff.1 (Prod.ext rfl tz)
    have := of_ty hF x hok.ty
    omega
  have hpg : ∀ r ∈ pg z, (ofE r.1 x).k = 1 ∨ (ofE r.1 x).k = 3 := fun r hr => hty r (List.mem_filter.1 hr).1
  obtain ⟨s1, s2⟩ := as_sum (pg z) hpg
  have e1 : totQ x (linesW [] ks z).reverse = sumF (numQ x) (pg z) := by
    rw [totQ_sum, sumL_perm (numQ x) (List.reverse_perm _), sumL_perm (numQ x) (linesW_perm [] ks z), sumL_exp, sum_pg]
  have e2 : someQ x (linesW [] ks z).reverse = (pg z).any (fun r => decide ((ofE r.1 x).k = 3)) := by
    rw [Bool.eq_iff_iff]
    unfold someQ
    rw [List.any_eq_true, List.any_eq_true]
    constructor
    · rintro ⟨r, hr, e⟩
      obtain ⟨y, hy, rfl⟩ := mem_pg.2 ((linesW_perm [] ks z).mem_iff.1 (List.mem_reverse.1 hr))
      exact ⟨y, hy, e⟩
    · rintro ⟨y, hy, e⟩
      exact ⟨y.1, List.mem_reverse.2 ((linesW_perm [] ks z).mem_iff.2 (mem_pg.1 ⟨y, hy, rfl⟩)), e⟩
  have ea : aggV ⟨3, x⟩ (pg z) = if someQ x (linesW [] ks z).reverse then intV (totQ x (linesW [] ks z).reverse) else nullV' := by
    unfold aggV
    rw [if_neg (by simp), s1, s2, e1, e2]
    cases (pg z).any (fun r => decide ((ofE r.1 x).k = 3)) <;> simp
  have bint : ∀ n : Int, bare (intV n) = intV n := fun n => by
    unfold intV
    split <;> simp [bare]
  have ec : aggV ⟨1, .leaf⟩ (pg z) = nV' (cntZ z : Int) := by
    unfold aggV
    rw [if_pos (by simp), asOf_rows rfl, cnt_pg, intV_n (by omega) (by omega)]
    rfl
  have eg : grpL [] (aggL x) z = [([nV' (cntZ z : Int), aggV ⟨3, x⟩ (pg z)], 1)] := by
    have h1 : headsK [] z = [[]] := by
      have h2 : ∀ l : List (List V), (∀ q ∈ l, q = []) → l.foldl addK [[]] = [[]] := fun l => by
        induction l with
        | nil => intro _; rfl
        | cons q l ih =>
          intro hl
          rw [List.foldl_cons, hl q (by simp), show addK [[]] [] = [[]] from by unfold addK; rw [if_pos (by simp)]]
          exact ih (fun p hp => hl p (by simp [hp]))
      unfold headsK
      exact h2 _ (fun q hq => by unfold keysK at hq; obtain ⟨r, _, rfl⟩ := List.mem_map.1 hq; rfl)
    have h3 : rowsK [] z [] = pg z := by
      unfold rowsK
      exact List.filter_eq_self.2 (fun r _ => by simp [valsR])
    unfold grpL
    rw [h1]
    simp only [List.map_cons, List.map_nil, rowK, aggL, h3, ec, List.nil_append]
  obtain ⟨s, hs⟩ : ∃ s, aggV ⟨3, x⟩ (pg z) = s := ⟨_, rfl⟩
  have bs : bare s = s := by
    rw [← hs, ea]
    split
    · exact bint _
    · rfl
  refine ⟨s, ?_, by rw [no.len]; exact l400, ok.n, fun y hy => ?_⟩
  · unfold grpZ at hg
    repeat' split at hg
    all_goals try (simp only [Prod.mk.injEq] at hg; omega)
    simp only [Prod.mk.injEq, and_true] at hg
    rw [← hg, eg, hs, no.len]
    show putZ [] _ 1 = _
    unfold putZ
    rw [if_pos (by decide)]
    simp only [bareR, List.map_cons, List.map_nil, bs]
    rfl
  · obtain ⟨_, i, u, hu, ey, hi, k3, kn⟩ := no.row y hy
    obtain ⟨r, hr⟩ : ∃ r, (linesW [] ks z)[i]? = some r := ⟨_, List.getElem?_eq_getElem (by rw [ll]; exact hi)⟩
    have h2 := toldW_at ks (winL x) _ [] i r hr
    rw [hu] at h2
    simp only [Option.some.injEq, List.append_nil] at h2
    have lr := (ok.line (List.mem_of_getElem? hr)).1
    refine ⟨by rw [ey, bareR_len, h2]; simp [tellW, winL, lr], fun hn => ?_⟩
    rw [kn, no.len] at hn
    have t1 := tell_at (ks := ks) (q := ((linesW [] ks z).take i).reverse) (wins := winL x) (j := 1) (a := ⟨4, x⟩) lr rfl
    rw [← h2] at t1
    have er : r :: ((linesW [] ks z).take i).reverse = (linesW [] ks z).reverse := by
      have h4 : (linesW [] ks z).take i ++ [r] = linesW [] ks z := by
        have h5 := take_sn (fun r : List V => r) hr
        simp only [List.map_id'] at h5
        rw [← h5, List.take_of_length_le (by omega)]
      rw [← h4]
      simp [List.take_append_of_le_length, List.length_take, show min i (linesW [] ks z).length = i by omega]
    have ev : valW ks ((linesW [] ks z).take i).reverse r ⟨4, x⟩ = s := by
      rw [← hs, ea]
      unfold valW
      rw [if_neg (by simp), if_neg (by simp), if_neg (by simp), if_neg (by simp)]
      simp only [er]
    rw [ev] at t1
    rw [ey, List.getD_eq_getElem?_getD]
    unfold bareR
    rw [List.getElem?_map]
    rw [List.getD_eq_getElem?_getD] at t1
    cases e : u[cols.length + 1]? with
    | none => rw [e] at t1; simp at t1; simp [← t1]
    | some v => rw [e] at t1; simp at t1; simp [t1, bs]
end Go.Proofs.Ytamfpppbjaelaaa
