/-
  Joined texts of this claim: Wpart. What each proves its own head says; no condition beside those that each theorem names.
-/
import Derived.Test.YtamfpppbjaelaaaGVad
import Derived.Test.YtamfpppbjaelaaaGQ
namespace Go.Proofs.Ytamfpppbjaelaaa
open Go.RowKit Go.Calm
set_option linter.unusedSimpArgs false
set_option linter.unusedVariables false
/-! lines told are told alike where other parts' lines are left out -/
abbrev pkW (ps : List E) (a b : List V) : Int := rowsG ordV (valsR ps a) (valsR ps b)
theorem toldW_cons (ps ks : List E) (wins : List Ag) (q : List (List V)) (r : List V) (l : List (List V)) : toldW ps ks wins q (r :: l) = tellW ks wins (partQ ps q r) r :: toldW ps ks wins (r :: partQ ps q r) l := rfl
theorem told_filter {ps ks : List E} {wins : List Ag} {c : List V → Bool} {P : List V → Prop} (hc : ∀ a b, P a → P b → pkW ps a b = 0 → c a = c b) : ∀ (L q q' : List (List V)), (∀ r ∈ L, P r) → L.Pairwise (fun a b => pkW ps a b ≤ 0) → (∀ q r, r ∈ L → c (tellW ks wins q r) = c r) →
    ((q = q' ∧ ∀ a, q.head? = some a → P a ∧ ∀ s ∈ L, pkW ps a s ≤ 0) ∨ ((∃ b, q.head? = some b ∧ P b ∧ c b = false) ∧ ∀ a, q'.head? = some a → ∀ s ∈ L, c s = true → pkW ps a s ≠ 0)) →
    (toldW ps ks wins q L).filter c = toldW ps ks wins q' (L.filter c)
  | [], q, q', _, _, _, _ => rfl
  | r :: L, q, q', hP, hL, ht, h => by
    have hr := hP r (by simp)
    have hP' : ∀ s ∈ L, P s := fun s hs => hP s (by simp [hs])
    rw [List.pairwise_cons] at hL
    have ih := told_filter (ps := ps) (ks := ks) (wins := wins) hc L
    rw [toldW_cons, List.filter_cons, List.filter_cons, ht _ r (by simp)]
    by_cases hcr : c r = true
    · rw [if_pos hcr, if_pos hcr]
      have e : partQ ps q r = partQ ps q' r := by
        rcases h with ⟨rfl, _⟩ | ⟨⟨b, hb, pb, cb⟩, h2⟩
        · rfl
        · have e1 : partQ ps q r = [] := by
            unfold partQ
            cases q with
            | nil => rfl
            | cons a q =>
              simp only [List.head?_cons, Option.some.injEq] at hb
              subst hb
              simp only
              rw [if_pos (fun h0 => by rw [hc a r pb hr h0, hcr] at cb; simp at cb)]
          have e2 : partQ ps q' r = [] := by
            unfold partQ
            cases q' with
            | nil => rfl
            | cons a q' => simp only; rw [if_pos (h2 a rfl r (by simp) hcr)]
          rw [e1, e2]
      rw [toldW_cons, e]
      refine congrArg _ (ih _ _ hP' hL.2 (fun q s hs => ht q s (by simp [hs])) (.inl ⟨rfl, fun a ha => ?_⟩))
      simp only [List.head?_cons, Option.some.injEq] at ha
      subst ha
      exact ⟨hr, hL.1⟩
    · rw [if_neg hcr, if_neg hcr]
      have hcf : c r = false := by simpa using hcr
      refine ih _ _ hP' hL.2 (fun q s hs => ht q s (by simp [hs])) (.inr ⟨⟨r, rfl, hr, hcf⟩, fun a ha s hs cs h0 => ?_⟩)
      rcases h with ⟨rfl, h1⟩ | ⟨_, h2⟩
      · have h3 := ((rows3W _ _ _).2 ((h1 a ha).2 r (by simp)) (hL.1 s hs) h0).2
        rw [hc r s hr (hP' s hs) h3, cs] at hcf
        simp at hcf
      · exact h2 a ha s (by simp [hs]) cs h0

/-! what is told of bare lines -/
theorem newK_bare (ks : List E) (q : List (List V)) (r : List V) : newK ks (q.map bareR) (bareR r) = newK ks q r := by
  cases q with
  | nil => rfl
  | cons a q => simp only [List.map_cons, newK, vals_bare]
theorem rank_bare (ks : List E) : ∀ q, rankQ ks (q.map bareR) = rankQ ks q
  | [] => rfl
  | r :: q => by simp only [List.map_cons, rankQ, newK_bare, rank_bare ks q, List.length_map]
theorem dense_bare (ks : List E) : ∀ q, denseQ ks (q.map bareR) = denseQ ks q
  | [] => rfl
  | r :: q => by simp only [List.map_cons, denseQ, newK_bare, dense_bare ks q]
theorem numQ_bare (x : E) (r : List V) : numQ x (bareR r) = numQ x r := by unfold numQ; rw [of_bareR]
theorem tot_bare (x : E) : ∀ q, totQ x (q.map bareR) = totQ x q
  | [] => rfl
  | r :: q => by simp only [List.map_cons, totQ, numQ_bare, tot_bare x q]
theorem some_bare (x : E) (q : List (List V)) : someQ x (q.map bareR) = someQ x q := by
  unfold someQ
  rw [List.any_map]
  congr 1
  funext r
  simp only [Function.comp, of_bareR]
theorem lag_bare (x : E) (q : List (List V)) : lagQ x (q.map bareR) = lagQ x q := by
  cases q with
  | nil => rfl
  | cons a q => simp only [List.map_cons, lagQ, of_bareR]
theorem valW_bare (ks : List E) (q : List (List V)) (r : List V) (a : Ag) : valW ks (q.map bareR) (bareR r) a = valW ks q r a := by
  unfold valW
  rw [← List.map_cons, rank_bare, dense_bare, tot_bare, some_bare, lag_bare, List.length_map]
theorem part_bare (ps : List E) (q : List (List V)) (r : List V) : partQ ps (q.map bareR) (bareR r) = (partQ ps q r).map bareR := by
  cases q with
  | nil => rfl
  | cons a q => simp only [List.map_cons, partQ, vals_bare]; split <;> simp
theorem told_bare (ps ks : List E) (wins : List Ag) : ∀ l q : List (List V), (toldW ps ks wins (q.map bareR) (l.map bareR)).map bareR = (toldW ps ks wins q l).map bareR
  | [], q => rfl
  | r :: l, q => by
    have ih := told_bare ps ks wins l (r :: partQ ps q r)
    rw [List.map_cons] at ih
    unfold toldW
    rw [List.map_cons, List.map_cons, List.map_cons, part_bare, ih]
    congr 1
    unfold tellW
    have e : wins.map (valW ks ((partQ ps q r).map bareR) (bareR r)) = wins.map (valW ks (partQ ps q r) r) := List.map_congr_left fun a _ => valW_bare ks _ r a
    rw [e]
    unfold bareR
    rw [List.map_append, List.map_append, List.map_map]
    congr 1
    exact List.map_congr_left fun v _ => bare_bare v
theorem cmpW_bare {ps ks : List E} {a b : List V} (ha : ∀ v ∈ a, RV v) (hb : ∀ v ∈ b, RV v) (h : cmpW ps ks a b ≤ 0) : cmpW ps ks (bareR a) (bareR b) ≤ 0 := by
  unfold cmpW lex3 at *
  rw [vals_bare, vals_bare, vals_bare, vals_bare]
  split
  · rename_i g; rw [if_pos g] at h; exact h
  · rename_i g
    rw [if_neg g] at h
    split
    · rename_i g; rw [if_pos g] at h; exact h
    rename_i g
    rw [if_neg g] at h
    have h1 : ordR (bareR a) a = 0 := ordR_bare' ha
    have h2 : ordR b (bareR b) = 0 := ordR_bare hb
    unfold ordR at h1 h2
    exact rowsG_trans' _ _ _ (rowsG_trans' _ _ _ (by omega) h) (by omega)
theorem exp_filter (c : List V → Bool) : ∀ z : List Z, expZ (z.filter (fun r => c r.1)) = (expZ z).filter c
  | [] => rfl
  | x :: z => by
    have ih := exp_filter c z
    have e : ∀ l : List Z, expZ (x :: l) = List.replicate x.2.toNat x.1 ++ expZ l := fun l => by unfold expZ; rw [List.flatMap_cons]
    rw [List.filter_cons, e z, List.filter_append, ← ih]
    split
    · rename_i h; rw [e, List.filter_replicate, if_pos h]
    · rename_i h; rw [List.filter_replicate, if_neg h]; simp
theorem exp_bare : ∀ z : List Z, expZ (z.map (fun x => (bareR x.1, x.2))) = (expZ z).map bareR
  | [] => rfl
  | x :: z => by
    have ih := exp_bare z
    unfold expZ at *
    rw [List.map_cons, List.flatMap_cons, List.flatMap_cons, ih, List.map_append, List.map_replicate]

/-! the part whose key is a value -/
def litK (v : V) : E := .mk 1 v 0 none 0 0 (fun _ => .leaf)
def isK (key : Int) (v : V) (A : Option Addr) : E := twoK 6 (colK key) (litK v) A
theorem of_isK (key : Int) (v : V) (A : Option Addr) (row : List V) : ofE row (isK key v A) = eqV (bare (row.getD key.toNat nullV')) (bare v) := by
  unfold isK
  rw [of_two (k := 6) (by decide) (by decide)]
  rfl
theorem hold_isB (v : V) (h : RV v) : (rankV v == 2) = isB v true := by
  rcases rank_cases v h with ⟨a, _, b⟩ | ⟨a, _, b⟩ | ⟨a, _, b⟩ <;> rw [a, b] <;> rfl
theorem rv_eqV (a b : V) : RV (eqV a b) := by
  unfold eqV
  split
  · exact rv_truth _
  · exact rv_null
theorem eqV_bare {a b : V} (ha : RV a) (hb : RV b) : eqV (bare a) (bare b) = eqV a b := by
  unfold eqV alikeB
  rw [bare_k, bare_k, cmp_ord a b ha hb, cmp_ord _ _ (rv_bare ha) (rv_bare hb)]
  have h1 := ordV_zero a b ha hb
  have h2 := ordV_zero (bare a) (bare b) (rv_bare ha) (rv_bare hb)
  rw [bare_bare, bare_bare] at h2
  have e : (ordV (bare a) (bare b) == 0) = (ordV a b == 0) := by
    rw [Bool.eq_iff_iff, beq_iff_eq, beq_iff_eq, h1, h2]
  rw [e]
theorem rv_lit {cols : List Int} {key : Int} {v : V} {A : Option Addr} (h : condE cols (isK key v A) = 0) : RV v := by
  obtain ⟨T, hok⟩ := okay_of (condE_zero h).1
  have h1 := wt_re _ hok.ty
  unfold isK twoK at h1
  cases h1 with
  | mk _ _ _ _ hk =>
    have h2 := hk 1 (by omega)
    simp only [Nat.one_ne_zero, if_false] at h2
    unfold litK at h2
    cases h2 with
    | mk _ _ hv _ _ => exact hv rfl
theorem fit_bareW {c : List Int} {r : List V} (h : FitR c r) : FitR c (bareR r) := by
  refine ⟨by simp [bareR, h.1], fun i v hv => ?_⟩
  simp only [bareR, List.getElem?_map, Option.map_eq_some_iff] at hv
  obtain ⟨u, hu, rfl⟩ := hv
  have := h.2 i u hu
  exact ⟨rv_bare this.1, by rw [bare_k]; exact this.2⟩
theorem parts_plain {cols : List Int} {key : Int} {v : V} {A : Option Addr} {ks : List E} {wins : List Ag} {z w p : List Z} (h0 : 0 ≤ key) (hk : key < cols.length) (h : winZ cols [colK key] ks wins z = (w, 0)) (hf : filterZ cols (isK key v A) z = (p, 0)) :
    RV v ∧ winZ cols [colK key] ks wins p = (w.filter (fun y => isB (eqV (y.1.getD key.toNat nullV') v) true), 0) := by
  obtain ⟨ok, l400, hs⟩ := win_ok h
  obtain ⟨hce, hin, cp, wp, _⟩ := filter_ok hf
  have hv := rv_lit hce
  obtain ⟨hn8, hwz, hfit⟩ := inputE_zero ok.z
  have smz := SM.of hwz
  obtain ⟨cw, ww, wt⟩ := sum_ok ok.told hs
  have smw := SM.of ww
  have ew : w = setZ (toldT [colK key] ks wins z) := by
    unfold sumZ at hs
    rcases fitZ_cases (setZ (toldT [colK key] ks wins z)) with ⟨h1, _⟩ | ⟨e', he, h1⟩
    · rw [h1] at hs; simp only [Prod.mk.injEq, and_true] at hs; exact hs.symm
    · rw [h1] at hs; simp only [Prod.mk.injEq] at hs; exact absurd hs.2 he
  -- what holds of a row
  have ch : ∀ r : List V, (∀ u ∈ r, RV u) → holdB (isK key v A) r = isB (eqV (r.getD key.toNat nullV') v) true := fun r hr => by
    have h1 : RV (r.getD key.toNat nullV') := by
      rw [List.getD_eq_getElem?_getD]
      cases e : r[key.toNat]? with
      | none => exact rv_null
      | some u => exact hr u (List.mem_of_getElem? e)
    unfold holdB
    rw [of_isK, eqV_bare h1 hv, hold_isB _ (rv_eqV _ _)]
  refine ⟨hv, ?_⟩
  have efw : w.filter (fun y => isB (eqV (y.1.getD key.toNat nullV') v) true) = w.filter (fun y => holdB (isK key v A) y.1) := List.filter_congr fun y hy => (ch y.1 (cw.rv y hy)).symm
  rw [efw]
  obtain ⟨c, hc⟩ : ∃ c, holdB (isK key v A) = c := ⟨_, rfl⟩
  have cbr : ∀ r q, bareR r = bareR q → c r = c q := fun r q e => by rw [← hc]; exact hold_congr _ e
  -- the rows of the part
  have ep : p = (z.filter (fun r => c r.1)).map (fun x => (bareR x.1, x.2)) := by
    unfold filterZ at hf
    rw [if_neg (by simpa using hce), if_neg (by simpa using hin), hc] at hf
    have sf := filter_sm smz (fun r => c r.1)
    have e1 := each_set (f := fun n => n) sf.rv sf.up
    have e2 : (z.filter (fun r => c r.1)).map (fun x => (x.1, x.2)) = z.filter (fun r => c r.1) := by simp
    rw [e2] at e1
    unfold sumZ at hf
    rcases fitZ_cases (setZ (z.filter (fun r => c r.1))) with ⟨h1, _⟩ | ⟨e', he, h1⟩
    · rw [h1, ← e1] at hf
      simp only [Prod.mk.injEq, and_true] at hf
      rw [← hf]
      unfold eachL
      rw [List.filter_eq_self]
      intro y hy
      obtain ⟨x, hx, rfl⟩ := List.mem_map.1 hy
      simpa using sf.ne x hx
    · rw [h1] at hf; simp only [Prod.mk.injEq] at hf; exact absurd hf.2 he
  have xp : expZ p = ((expZ z).filter c).map bareR := by rw [ep, exp_bare, exp_filter]
  obtain ⟨L, hL⟩ : ∃ L, linesW [colK key] ks z = L := ⟨_, rfl⟩
  have hlr : ∀ r ∈ L, r.length = cols.length ∧ ∀ u ∈ r, RV u := fun r hr => ok.line (by rw [hL]; exact hr)
  have lp : linesW [colK key] ks p = (L.filter c).map bareR := by
    refine (linesW_eq cp.up ?_ ?_).symm
    · rw [xp, ← hL]
      exact ((linesW_perm _ _ _).filter c).map bareR
    · have h1 : (L.filter c).Pairwise (fun a b => cmpW [colK key] ks a b ≤ 0) := (hL ▸ linesW_up [colK key] ks z).filter c
      refine List.pairwise_map.2 (h1.imp_of_mem fun {a b} ha hb hab => cmpW_bare (hlr a (List.mem_filter.1 ha).1).2 (hlr b (List.mem_filter.1 hb).1).2 hab)
  have pk : ∀ a b : List V, (∀ u ∈ a, RV u) → (∀ u ∈ b, RV u) → pkW [colK key] a b = 0 → c a = c b := fun a b ha hb h0 => by
    have r1 : ∀ r : List V, (∀ u ∈ r, RV u) → RV (ofE r (colK key)) := fun r hr => by
      unfold colK ofE
      rw [if_neg (by omega), if_pos rfl]
      rw [List.getD_eq_getElem?_getD]
      cases e : r[key.toNat]? with
      | none => exact rv_bare rv_null
      | some u => exact rv_bare (hr u (List.mem_of_getElem? e))
    have e1 : ordR (valsR [colK key] a) (valsR [colK key] b) = 0 := h0
    rw [ordR_zero _ _ (fun u hu => by simp [valsR] at hu; subst hu; exact r1 a ha) (fun u hu => by simp [valsR] at hu; subst hu; exact r1 b hb)] at e1
    simp only [valsR, bareR, List.map_cons, List.map_nil, List.cons.injEq, and_true] at e1
    have e2 : bare (bare (a.getD key.toNat nullV')) = bare (bare (b.getD key.toNat nullV')) := e1
    rw [bare_bare, bare_bare] at e2
    rw [← hc]
    unfold holdB
    rw [of_isK, of_isK, e2]
  have tc : ∀ q r, r ∈ L → c (tellW ks wins q r) = c r := fun q r hr => by
    have h1 := (hlr r hr).1
    rw [← hc]
    unfold holdB
    rw [of_isK, of_isK]
    have e : (tellW ks wins q r).getD key.toNat nullV' = r.getD key.toNat nullV' := by
      unfold tellW
      rw [List.getD_eq_getElem?_getD, List.getD_eq_getElem?_getD, List.getElem?_append_left (by omega)]
    rw [e]
  have pw : L.Pairwise (fun a b => pkW [colK key] a b ≤ 0) := by
    rw [← hL]
    refine (linesW_up [colK key] ks z).imp fun {a b} hab => ?_
    show rowsG ordV (valsR [colK key] a) (valsR [colK key] b) ≤ 0
    unfold cmpW lex3 at hab
    repeat' split at hab
    all_goals omega
  have tf := told_filter (ks := ks) (wins := wins) (P := fun r => ∀ u ∈ r, RV u) pk L [] [] (fun r hr => (hlr r hr).2) pw tc (.inl ⟨rfl, fun a ha => by simp at ha⟩)
  have tb := told_bare [colK key] ks wins (L.filter c) []
  rw [← tf, List.map_nil] at tb
  have wtp : ∀ u, wtZ (toldT [colK key] ks wins p) u = if c u then wtZ (toldT [colK key] ks wins z) u else 0 := fun u => by
    rw [← wt_filter c cbr u]
    have g : ∀ l : List (List V), wtZ (l.map (fun r => (r, (1 : Int)))) u = wtZ ((l.map bareR).map (fun r => (r, (1 : Int)))) u := fun l => by
      have := wt_bares (fun n => n) (l.map (fun r => (r, (1 : Int)))) u
      simp only [List.map_map] at this ⊢
      exact this.symm
    have g2 : (toldT [colK key] ks wins z).filter (fun r => c r.1) = ((toldW [colK key] ks wins [] L).filter c).map (fun r => (r, (1 : Int))) := by
      unfold toldT
      rw [hL, List.filter_map]
      rfl
    rw [g2, g, ← tb, ← g]
    unfold toldT
    rw [lp]
  have cf : Canon (w.filter (fun y => c y.1)) := ⟨List.Pairwise.filter _ cw.up, fun x hx => cw.rv x (List.mem_filter.1 hx).1, fun x hx => cw.bare x (List.mem_filter.1 hx).1, fun x hx => cw.w x (List.mem_filter.1 hx).1⟩
  have okp : WOk cols [colK key] ks wins p := ⟨ok.n, ok.ps, ok.ks, ok.wins, by
    unfold inputE
    rw [if_neg (by omega), if_neg (by simpa using wp)]
    refine (fitGo_zero cols p).2 fun x hx => ?_
    rw [ep] at hx
    obtain ⟨y, hy, rfl⟩ := List.mem_map.1 hx
    exact (fits_iff _ _).2 (fit_bareW ((fits_iff _ _).1 (hfit y (List.mem_filter.1 hy).1)))⟩
  have es : setZ (toldT [colK key] ks wins p) = w.filter (fun y => c y.1) := by
    obtain ⟨c1, w1⟩ := setZ_spec (toldT [colK key] ks wins p) (fun x hx => (okp.told x hx).2)
    refine canon_ext _ _ c1 cf fun r _ => ?_
    rw [w1, wtp, wt_filter c cbr, wt]
  have lp4 : cntZ p ≤ 400 := by
    unfold cntZ at *
    rw [xp, List.length_map]
    exact Nat.le_trans (List.length_filter_le _ _) l400
  unfold winZ
  have h5 := ok.n
  rw [if_neg (by omega), if_neg (by simpa using ok.ps), if_neg (by simpa using ok.ks), if_neg (by simpa using ok.wins), if_neg (by simpa using okp.z), if_neg (by omega)]
  show sumZ (toldT [colK key] ks wins p) = _
  unfold sumZ
  rw [es]
  have smf := filter_sm smw (fun y => c y.1)
  unfold fitZ
  rw [if_neg (by
    rw [List.any_eq_true]
    rintro ⟨x, hx, hb⟩
    have := smf.bd x hx
    unfold bigW at hb
    simp at hb
    omega), if_neg (by have := smf.len; omega), ← hc]
end Go.Proofs.Ytamfpppbjaelaaa
