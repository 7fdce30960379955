/-
  Joined texts of this claim: Op1, Op2, Op3. What each proves its own head says; no condition beside those that each theorem names.
-/
import Derived.Test.YtamfpppbjaelaaaGG
import Derived.Test.YtamfpppbjaelaaaGKa
import Derived.Test.YtamfpppbjaelaaaGQ
import Derived.Test.YtamfpppbjaelaaaGK
import Derived.Test.YtamfpppbjaelaaaGJ
set_option maxRecDepth 100000
set_option maxHeartbeats 8000000
namespace Go.Proofs.Ytamfpppbjaelaaa
open Go.RowKit Go.Calm
set_option linter.unusedSimpArgs false
set_option linter.unusedVariables false
def holdB (x : E) (row : List V) : Bool := rankV (ofE row x) == 2
theorem bare_null : bare nullV' = nullV' := by decide
theorem bare_getD (row : List V) (c : Nat) : bare ((bareR row).getD c nullV') = bare (row.getD c nullV') := by
  rw [List.getD_eq_getElem?_getD, List.getD_eq_getElem?_getD]
  unfold bareR
  rw [List.getElem?_map]
  cases row[c]? with
  | none => rfl
  | some v => exact bare_bare v
theorem of_bareR (row : List V) : ∀ e : E, ofE (bareR row) e = ofE row e
  | .leaf => rfl
  | .mk k v c A n cap kid => by
    have h0 := of_bareR row (kid 0)
    have h1 := of_bareR row (kid 1)
    have h2 := of_bareR row (kid 2)
    simp only [ofE, h0, h1, h2, bare_getD]
theorem hold_bare (x : E) (row : List V) : holdB x (bareR row) = holdB x row := by unfold holdB; rw [of_bareR]
theorem hold_congr (x : E) {r q : List V} (h : bareR r = bareR q) : holdB x r = holdB x q := by rw [← hold_bare x r, h, hold_bare]
def condE (cols : List Int) (x : E) : Int := if (typeE cols x).2 = 0 ∧ (typeE cols x).1 ≠ 2 ∧ (typeE cols x).1 ≠ 1 then 9 else (typeE cols x).2
theorem condE_zero {cols : List Int} {x : E} (h : condE cols x = 0) : (typeE cols x).2 = 0 ∧ ((typeE cols x).1 = 2 ∨ (typeE cols x).1 = 1) := by
  unfold condE at h
  split at h
  · simp at h
  · rename_i h1
    refine ⟨h, ?_⟩
    by_cases h2 : (typeE cols x).1 = 2
    · exact .inl h2
    · by_cases h3 : (typeE cols x).1 = 1
      · exact .inr h3
      · exact absurd ⟨h, h2, h3⟩ h1
def fitGo (cols : List Int) : List Z → Int
  | [] => 0
  | x :: l => if fitsE cols x.1 ≠ 0 then fitsE cols x.1 else fitGo cols l
theorem fitGo_zero (cols : List Int) : ∀ z : List Z, fitGo cols z = 0 ↔ ∀ x ∈ z, fitsE cols x.1 = 0
  | [] => by simp [fitGo]
  | x :: l => by
    have ih := fitGo_zero cols l
    unfold fitGo
    simp only [List.mem_cons, forall_eq_or_imp]
    split
    · rename_i h; exact ⟨fun e => absurd e h, fun e => absurd e.1 h⟩
    · rename_i h
      have h : fitsE cols x.1 = 0 := by simpa using h
      rw [ih]; exact ⟨fun e => ⟨h, e⟩, fun e => e.2⟩
theorem fitGo_at (cols : List Int) {xs : List I} {k : Nat} {x : I} (h : xs[k]? = some x) : fitGo cols ((xs.drop k).map zOf) = if fitsE cols x.row ≠ 0 then fitsE cols x.row else fitGo cols ((xs.drop (k + 1)).map zOf) := by
  obtain ⟨h1, e1⟩ := List.getElem?_eq_some_iff.1 h
  rw [List.drop_eq_getElem_cons h1, e1]; rfl
def inputE (cols : List Int) (z : List Z) : Int := if 8 < cols.length then 5 else if wrongZ z ≠ 0 then wrongZ z else fitGo cols z
theorem inputE_zero {cols : List Int} {z : List Z} (h : inputE cols z = 0) : cols.length ≤ 8 ∧ wrongZ z = 0 ∧ ∀ x ∈ z, fitsE cols x.1 = 0 := by
  unfold inputE at h
  split at h
  · simp at h
  · split at h
    · rename_i h1; exact absurd h h1
    · rename_i h0 h1
      exact ⟨by omega, by simpa using h1, (fitGo_zero cols z).1 h⟩
def filterZ (cols : List Int) (x : E) (z : List Z) : List Z × Int := if condE cols x ≠ 0 then ([], condE cols x) else if inputE cols z ≠ 0 then ([], inputE cols z) else sumZ (z.filter (fun r => holdB x r.1))
theorem wt_filter (p : List V → Bool) (hp : ∀ r q, bareR r = bareR q → p r = p q) (q : List V) : ∀ l : List Z, wtZ (l.filter (fun r => p r.1)) q = if p q then wtZ l q else 0
  | [] => by simp [wtZ_nil]
  | x :: l => by
    have ih := wt_filter p hp q l
    rw [List.filter_cons]
    by_cases h : bareR x.1 = bareR q
    · have e := hp _ _ h
      by_cases hq : p q = true
      · rw [if_pos (by rw [e]; exact hq), wtZ_cons, ih, if_pos hq, wtZ_cons, if_pos hq]
      · rw [if_neg (by rw [e]; exact hq), ih, if_neg hq, if_neg hq]
    · by_cases hx : p x.1 = true
      · rw [if_pos hx, wtZ_cons, ih, if_neg h, wtZ_cons, if_neg h]
        split <;> simp
      · rw [if_neg hx, ih, wtZ_cons, if_neg h]
        split <;> simp
theorem wt_hold (x : E) (q : List V) (l : List Z) : wtZ (l.filter (fun r => holdB x r.1)) q = if holdB x q then wtZ l q else 0 := wt_filter (holdB x) (fun r q h => hold_congr x h) q l
theorem filter_sm {M : Int} {N : Nat} {z : List Z} (h : SM M N z) (p : Z → Bool) : SM M N (z.filter p) :=
  ⟨fun x hx => h.ok x (List.mem_filter.1 hx).1, List.Pairwise.filter _ h.up, fun x hx => h.ne x (List.mem_filter.1 hx).1, fun x hx => h.bd x (List.mem_filter.1 hx).1, by have h1 := List.length_filter_le p z; have := h.len; omega⟩
theorem filter_ok {cols : List Int} {x : E} {z a : List Z} (h : filterZ cols x z = (a, 0)) : condE cols x = 0 ∧ inputE cols z = 0 ∧ Canon a ∧ wrongZ a = 0 ∧ ∀ q, wtZ a q = if holdB x q then wtZ z q else 0 := by
  unfold filterZ at h
  split at h
  · rename_i h1; exact absurd (Prod.mk.inj h).2 h1
  · rename_i h1
    split at h
    · rename_i h2; exact absurd (Prod.mk.inj h).2 h2
    · rename_i h2
      have h1 : condE cols x = 0 := by simpa using h1
      have h2 : inputE cols z = 0 := by simpa using h2
      obtain ⟨_, hw, _⟩ := inputE_zero h2
      have sm := filter_sm (SM.of hw) (fun r => holdB x r.1)
      obtain ⟨e, c, s, w⟩ := sum_sm (M := 1000000) (N := 400) sm.ok (fun q => wt_bd (by omega) sm.rv sm.up sm.bd q) sm.len (by omega) (by omega)
      rw [e] at h
      have ea : setZ (z.filter (fun r => holdB x r.1)) = a := (Prod.mk.inj h).1
      rw [ea] at c s w
      exact ⟨h1, h2, c, s.rz (by omega) (by omega), fun q => by rw [w, wt_hold]⟩
theorem filter_sml (cols : List Int) (x : E) (z : List Z) : smlZ (filterZ cols x z).1 := by
  unfold filterZ
  split
  · exact sml_nil
  · split
    · exact sml_nil
    · rename_i h2
      obtain ⟨_, hw, _⟩ := inputE_zero (cols := cols) (z := z) (by simpa using h2)
      exact sum_sml (filter_sm (SM.of hw) (fun r => holdB x r.1)).ok
theorem fit_rv {cols : List Int} {x : E} {row : List V} (ht : (typeE cols x).2 = 0) (hf : fitsE cols row = 0) : RV (ofE row x) := by
  obtain ⟨T, hok⟩ := okay_of ht
  have hF := (fits_iff cols row).1 hf
  exact rv_of row hF.rv x (by rw [hF.1]; exact wt_re x hok.ty)
def orI : List Int → Int
  | [] => 0
  | x :: l => if x ≠ 0 then x else orI l
theorem orI_at {xs : List Int} {k : Nat} {x : Int} (h : xs[k]? = some x) : orI (xs.drop k) = if x ≠ 0 then x else orI (xs.drop (k + 1)) := by
  obtain ⟨h1, e1⟩ := List.getElem?_eq_some_iff.1 h
  rw [List.drop_eq_getElem_cons h1, e1]; rfl
theorem cmpor_any (xs : List Int) (A : Option Addr) (c : Nat) (w : World) (hlen : xs.length ≤ 9223372036854775807) (hx : ISl w A xs) :
    Calls Try.prog 27 #[.slice A xs.length c] w fun en w' => en = .returned (.int .i64 (orI xs)) ∧ Grow w w' := by
  have Hx := Lib.hid hx
  obtain ⟨R, hR⟩ : ∃ R, orI xs = R := ⟨_, rfl⟩
  rw [hR]
  have HR := Lib.hid hR
  clear hx hR
  go_enter Try.func27, Try.ntmps27
  go_wp2
  go_loopw [8] (fun i wr => ∃ k : Nat, k ≤ xs.length ∧ i = .int .i64 k ∧ orI (xs.drop k) = R ∧ Grow w wr) (fun i _ => xs.length - (intOf i).toNat)
  case atStart => exact ⟨0, Nat.zero_le _, rfl, HR.out, Grow.refl _⟩
  case round =>
    obtain ⟨k, hk, rfl, hinv, hg⟩ := hrel
    have Inv := Lib.hid hinv
    clear hinv
    by_cases hlt : k < xs.length
    · obtain ⟨x, hxk⟩ : ∃ x, xs[k]? = some x := ⟨_, List.getElem?_eq_getElem hlt⟩
      obtain ⟨gx, ox, rfl, c1⟩ := (Hx.out.grow hg) k x hxk
      have inv2 := (orI_at hxk).symm.trans Inv.out
      have Inv2 := Lib.hid inv2
      clear hxk inv2
      by_cases h0 : x = 0
      · subst h0
        go_wp2
        go_roundw
        case rel => exact ⟨k + 1, by omega, by go_num, by have := Inv2.out; rw [if_neg (by simp)] at this; exact this, hg⟩
        case measure => simp [intOf]; omega
      · have d0 : (x != 0) = true := by simpa using h0
        go_wp2
        go_ret
        exact ret_int (by have := Inv2.out; rw [if_pos h0] at this; exact this) hg
    · obtain rfl : k = xs.length := by omega
      have fin : R = 0 := by have := Inv.out; rw [List.drop_length] at this; exact this.symm
      go_wp2
      go_ret
      exact ret_int fin.symm hg
theorem cmpor_two (a b : Int) (g : Nat) (w : World) (t : TypeId) (hb : Blk w g t #[.int .i64 a, .int .i64 b]) (R : Int) (hR : (if a ≠ 0 then a else b) = R) :
    Calls Try.prog 27 #[.slice (some ⟨g, 0, none⟩) 2 2] w fun en w' => en = .returned (.int .i64 R) ∧ Grow w w' := by
  rw [← hR]
  have h := cmpor_any [a, b] (some ⟨g, 0, none⟩) 2 w (by simp) (fun i x hx => by
    match i, hx with
    | 0, hx => simp at hx; subst hx; exact ⟨g, 0, rfl, by rw [hb.cell]; rfl⟩
    | 1, hx => simp at hx; subst hx; exact ⟨g, 0, rfl, by rw [hb.cell]; rfl⟩)
  have e : orI [a, b] = if a ≠ 0 then a else b := by
    unfold orI
    split
    · rfl
    · unfold orI; split
      · rfl
      · rename_i h; simp at h; simp [orI, h]
  rw [e] at h
  exact h

theorem cond_any (cols : List Int) (Ac : Option Addr) (cc : Nat) (x : E) (w : World) (hlen : cols.length ≤ 9223372036854775807) (hc : ISl w Ac cols) (hE : EX w x) :
    Calls Try.prog 28 #[.slice Ac cols.length cc, x.val] w fun en w' => en = .returned (.int .i64 (condE cols x)) ∧ Grow w w' := by
  obtain ⟨T, e, hT⟩ : ∃ T e, typeE cols x = (T, e) := ⟨_, _, rfl⟩
  have ct := fun W (h : Grow w W) => type_any cols Ac cc x W hlen (hc.grow h) (hE.grow h)
  rw [hT] at ct
  simp only at ct
  have hR : condE cols x = if e = 0 ∧ T ≠ 2 ∧ T ≠ 1 then 9 else e := by unfold condE; rw [hT]
  rw [hR]
  clear hc hE hT hR
  unfold E.val at *
  go_enter Try.func28, Try.ntmps28
  by_cases h0 : e = 0
  · subst h0
    by_cases h2 : T = 2
    · subst h2
      go_wp2_with (go_at_call 39; ((with_reducible refine (ct _ growW).mono ?_); rintro en w3 ⟨rfl, hg3⟩))
      go_ret
      exact ret_int (by simp) ((((Grow.refl w).al _).trans hg3))
    · have d2 : (T != 2) = true := by simpa using h2
      by_cases h1 : T = 1
      · subst h1
        go_wp2_with (go_at_call 39; ((with_reducible refine (ct _ growW).mono ?_); rintro en w3 ⟨rfl, hg3⟩))
        go_ret
        exact ret_int (by simp) ((((Grow.refl w).al _).trans hg3))
      · have d1 : (T != 1) = true := by simpa using h1
        go_wp2_with (go_at_call 39; ((with_reducible refine (ct _ growW).mono ?_); rintro en w3 ⟨rfl, hg3⟩))
        go_ret
        exact ret_int (by simp [h1, h2]) ((((Grow.refl w).al _).trans hg3))
  · have d0 : (e == 0) = false := by simpa using h0
    go_wp2_with (go_at_call 39; ((with_reducible refine (ct _ growW).mono ?_); rintro en w3 ⟨rfl, hg3⟩))
    go_ret
    exact ret_int (by simp [h0]) ((((Grow.refl w).al _).trans hg3))

theorem input_any (cols : List Int) (Ac : Option Addr) (cc : Nat) (xs : List I) (A : Option Addr) (c : Nat) (w : World) (hlen : cols.length ≤ 9223372036854775807) (hc : ISl w Ac cols) (h : In w ⟨A, xs, c⟩) :
    Calls Try.prog 20 #[.slice Ac cols.length cc, .slice A xs.length c] w fun en w' => en = .returned (.int .i64 (inputE cols (xs.map zOf))) ∧ Grow w w' := by
  have hza : ZIn w A xs := h.z
  have l1 : xs.length ≤ 9223372036854775807 := h.ok.1
  have l2 : ∀ x ∈ xs, x.row.length ≤ 9223372036854775807 := h.ok.2
  have Hz := Lib.hid hza
  have Hc := Lib.hid hc
  have L2 := Lib.hid l2
  obtain ⟨R, hR⟩ : ∃ R, inputE cols (xs.map zOf) = R := ⟨_, rfl⟩
  rw [hR]
  have HR := Lib.hid hR
  obtain ⟨E, hE⟩ : ∃ E, wrongZ (xs.map zOf) = E := ⟨_, rfl⟩
  have cw := fun W (h : Grow w W) => wrongz_any xs A c W l1 (Hz.out.grow h) L2.out E hE
  have HE := Lib.hid hE
  clear h hza l2 hc hR hE
  go_enter Try.func20, Try.ntmps20
  by_cases h8 : 8 < cols.length
  · have d8 : decide ((8 : Int) < (cols.length : Int)) = true := decide_eq_true (by omega)
    go_wp2
    go_ret
    exact ret_int (by rw [← HR.out]; unfold inputE; rw [if_pos h8]) (Grow.refl _)
  · have d8 : decide ((8 : Int) < (cols.length : Int)) = false := decide_eq_false (by omega)
    by_cases h0 : E = 0
    · subst h0
      have inv0 : fitGo cols ((xs.drop 0).map zOf) = R := by rw [← HR.out]; unfold inputE; rw [if_neg h8, HE.out, if_neg (by simp), List.drop_zero]
      have Inv0 := Lib.hid inv0
      clear inv0
      go_upto_region 6 with (go_at_call 40; ((with_reducible refine (cw _ (Grow.refl _)).mono ?_); rintro e w2 ⟨rfl, hg2⟩))
      go_wp2
      go_loopw [19] (fun i wr => ∃ k : Nat, k ≤ xs.length ∧ i = .int .i64 k ∧ fitGo cols ((xs.drop k).map zOf) = R ∧ Grow w wr) (fun i _ => xs.length - (intOf i).toNat)
      case atStart => exact ⟨0, Nat.zero_le _, rfl, Inv0.out, hg2⟩
      case round =>
        obtain ⟨k, hk, rfl, hinv, hg⟩ := hrel
        have Inv := Lib.hid hinv
        clear hinv
        by_cases hlt : k < xs.length
        · obtain ⟨x, hxk⟩ : ∃ x, xs[k]? = some x := ⟨_, List.getElem?_eq_getElem hlt⟩
          obtain ⟨gx, ox, rfl, c1, c2, hxv⟩ := (Hz.out.grow hg) k x hxk
          have hlx := L2.out x (List.mem_of_getElem? hxk)
          have inv2 := (fitGo_at cols hxk).symm.trans Inv.out
          obtain ⟨F, hF⟩ : ∃ F, fitsE cols x.row = F := ⟨_, rfl⟩
          have cf := fun W (h : Grow wr W) => fits_any cols x.row Ac x.A cc x.cap W hlen hlx (Hc.out.grow (hg.trans h)) (hxv.grow h) F hF
          rw [hF] at inv2
          have Inv2 := Lib.hid inv2
          clear hxk hxv inv2 hF
          by_cases hf0 : F = 0
          · subst hf0
            go_wp2_with (go_at_call 41; ((with_reducible refine (cf _ growW).mono ?_); rintro e w3 ⟨rfl, hg3⟩))
            go_roundw
            case rel => exact ⟨k + 1, by omega, by go_num, by have := Inv2.out; rw [if_neg (by simp)] at this; exact this, (hg.al _).trans hg3⟩
            case measure => simp [intOf]; omega
          · have df : (F != 0) = true := by simpa using hf0
            go_wp2_with (go_at_call 41; ((with_reducible refine (cf _ growW).mono ?_); rintro e w3 ⟨rfl, hg3⟩))
            go_ret
            exact ret_int (by have := Inv2.out; rw [if_pos hf0] at this; exact this) ((hg.al _).trans hg3)
        · obtain rfl : k = xs.length := by omega
          have fin : R = 0 := by have := Inv.out; rw [List.drop_length] at this; exact this.symm
          go_wp2
          go_ret
          exact ret_int fin.symm hg
    · have d0 : (E != 0) = true := by simpa using h0
      go_wp2_with (go_at_call 40; ((with_reducible refine (cw _ (Grow.refl _)).mono ?_); rintro e w2 ⟨rfl, hg2⟩))
      go_ret
      exact ret_int (by rw [← HR.out]; unfold inputE; rw [if_neg h8, HE.out, if_pos h0]) hg2

theorem or_zero {a b : Int} (h : (if a ≠ 0 then a else b) = 0) : a = 0 ∧ b = 0 := by
  split at h
  · rename_i h1; exact absurd h h1
  · rename_i h1; exact ⟨by simpa using h1, h⟩
theorem filt_snoc (p : List V → Bool) {xs : List I} {k : Nat} {x : I} (h : xs[k]? = some x) : (xs.take (k + 1)).filter (fun y => p y.row) = (xs.take k).filter (fun y => p y.row) ++ (if p x.row then [x] else []) := by
  obtain ⟨h1, e1⟩ := List.getElem?_eq_some_iff.1 h
  rw [List.take_succ_eq_append_getElem h1, e1, List.filter_append]
  congr 1
  by_cases hp : p x.row = true
  · simp [hp]
  · simp [hp]
theorem filt_map (p : List V → Bool) (xs : List I) : (xs.filter (fun y => p y.row)).map zOf = (xs.map zOf).filter (fun r => p r.1) := by
  rw [List.filter_map]; rfl
theorem filter_any (cols : List Int) (Ac : Option Addr) (cc : Nat) (x : E) (xs : List I) (A : Option Addr) (c : Nat) (w : World) (hlen : cols.length ≤ 9223372036854775807) (hc : ISl w Ac cols) (hE : EX w x) (h : In w ⟨A, xs, c⟩) :
    Calls Try.prog 10 #[.slice Ac cols.length cc, x.val, .slice A xs.length c] w fun en w' => Gives w w' en (filterZ cols x (xs.map zOf)) := by
  have hza : ZIn w A xs := h.z
  have H := Lib.hid h
  have Hz := Lib.hid hza
  have Hc := Lib.hid hc
  have HX := Lib.hid hE
  have ct := fun W (hg : Grow w W) => cond_any cols Ac cc x W hlen (Hc.out.grow hg) (HX.out.grow hg)
  have ci := fun W (hg : Grow w W) => input_any cols Ac cc xs A c W hlen (Hc.out.grow hg) (H.out.grow hg)
  obtain ⟨CE, hCE⟩ : ∃ CE, condE cols x = CE := ⟨_, rfl⟩
  obtain ⟨IE, hIE⟩ : ∃ IE, inputE cols (xs.map zOf) = IE := ⟨_, rfl⟩
  rw [hCE] at ct
  rw [hIE] at ci
  obtain ⟨Q, hQ⟩ : ∃ Q, filterZ cols x (xs.map zOf) = Q := ⟨_, rfl⟩
  rw [hQ]
  have fin : Q = if CE ≠ 0 then ([], CE) else if IE ≠ 0 then ([], IE) else sumZ ((xs.map zOf).filter (fun r => holdB x r.1)) := by rw [← hQ]; unfold filterZ; rw [hCE, hIE]
  have Fin := Lib.hid fin
  have HCE := Lib.hid hCE
  have HIE := Lib.hid hIE
  obtain ⟨EI, hE2⟩ : ∃ EI, (if CE ≠ 0 then CE else IE) = EI := ⟨_, rfl⟩
  have HEE := Lib.hid hE2
  clear h hza hc hE hCE hIE hQ fin hE2
  have HE : ∀ W g, Blk W g 32 #[.int .i64 x.kind, .int .i64 x.v.k, .int .i64 x.v.n, .string x.v.s, .int .i64 x.col, .slice x.A x.n x.cap] → ECells W g 0 x := fun W g B => ⟨B.cells rfl, B.cells rfl, B.cells rfl, B.cells rfl, B.cells rfl, B.cells rfl⟩
  unfold E.val at *
  go_enter Try.func10, Try.ntmps10
  go_upto_region 1 with fail
  refine wp_forget (fun X => Blk X w.heap.size 32 #[.int .i64 x.kind, .int .i64 x.v.k, .int .i64 x.v.n, .string x.v.s, .int .i64 x.col, .slice x.A x.n x.cap] ∧ Grow w X) ⟨Blk.new _ _ _, (Grow.refl w).al _⟩ ?_
  rintro X ⟨Bx, G⟩
  obtain ⟨bx, fx⟩ := Bx.rules
  go_upto_region 2 with (first
    | (go_at_call 28; ((with_reducible refine (ct _ G).mono ?_); rintro e w2 ⟨rfl, hg2⟩))
    | (go_at_call 20; ((with_reducible refine (ci _ (G.trans hg2)).mono ?_); rintro e w3 ⟨rfl, hg3⟩))
    | (go_at_call 27; ((with_reducible refine (cmpor_two CE IE _ _ _ (Blk.new _ _ _) EI HEE.out).mono ?_); rintro e w4 ⟨rfl, hg4⟩)))
  have G4 := Lib.hid (((G.trans hg2).trans hg3).al (.cells #[.int .i64 CE, .int .i64 IE] 26) |>.trans hg4)
  have B4 := Lib.hid (Bx.grow (((hg2.trans hg3).al (.cells #[.int .i64 CE, .int .i64 IE] 26)).trans hg4))
  by_cases h0 : EI = 0
  · subst h0
    obtain ⟨hce, hie⟩ := or_zero HEE.out
    subst hce
    subst hie
    have eQ : Q = sumZ ((xs.map zOf).filter (fun r => holdB x r.1)) := by rw [Fin.out]; simp
    obtain ⟨_, hwz, hfit⟩ := inputE_zero HIE.out
    obtain ⟨a1, a2, a3, a4⟩ := S.facts (s := ⟨A, xs, c⟩) hwz
    have a1 : xs.length ≤ 400 := a1
    have A2 := Lib.hid (show ∀ y ∈ xs, y.row.length ≤ 8 from a2)
    have A3 := Lib.hid (show ∀ y ∈ xs, ∀ v ∈ y.row, RV v from a3)
    have A4 := Lib.hid (show ∀ y ∈ xs, -1000000 ≤ y.w ∧ y.w ≤ 1000000 from a4)
    have Hfit := Lib.hid (show ∀ y ∈ xs, fitsE cols y.row = 0 from fun y hy => hfit (zOf y) (List.mem_map_of_mem hy))
    have tok := Lib.hid (condE_zero HCE.out).1
    have EQ := Lib.hid eQ
    clear eQ hwz hfit a2 a3 a4 HEE
    go_upto_region 6 with fail
    clear bx fx
    go_wp2
    go_loopw [9, 25] (fun t i wr => ∃ k : Nat, k ≤ xs.length ∧ i = .int .i64 k ∧ wr.ownsRow w4.heap.size 39 2 t ((xs.take k).filter (fun y => holdB x y.row)).length (flatI ((xs.take k).filter (fun y => holdB x y.row))) ∧ Grow w4 wr) (fun _ i _ => xs.length - (intOf i).toNat)
    case atStart => exact ⟨0, Nat.zero_le _, rfl, World.ownsRow_nil _ _ _ _, Grow.refl _⟩
    case round =>
      obtain ⟨k, hk, rfl, hown, hg⟩ := hrel
      have Own := Lib.hid hown
      clear hown
      by_cases hlt : k < xs.length
      · obtain ⟨y, hyk⟩ : ∃ y, xs[k]? = some y := ⟨_, List.getElem?_eq_getElem hlt⟩
        have hmem := List.mem_of_getElem? hyk
        obtain ⟨gx, ox, rfl, c1, c2, hyv⟩ := (Hz.out.grow (G4.out.trans hg)) k y hyk
        have hre : RE y.row.length x := by
          obtain ⟨T, hok⟩ := okay_of tok.out
          rw [((fits_iff cols y.row).1 (Hfit.out y hmem)).1]
          exact wt_re x hok.ty
        have rv := rv_of y.row (A3.out y hmem) x hre
        have hlr : y.row.length ≤ 9223372036854775807 := by have := A2.out y hmem; omega
        have co := fun W (h : Grow wr W) => of_any y.row y.A y.cap hlr (A3.out y hmem) x hre w.heap.size 0 W W (HX.out.grow (G4.out.trans (hg.trans h))) (HE W _ (B4.out.grow (hg.trans h))) (hyv.grow h) (Grow.refl W)
        have cv := fun W => true_any (ofE y.row x) (fun hk => by rcases rv.bool hk with h | h <;> omega) W
        have es := filt_snoc (holdB x) hyk
        obtain ⟨b, hb⟩ : ∃ b, holdB x y.row = b := ⟨_, rfl⟩
        rw [show (rankV (ofE y.row x) == 2) = b from hb] at cv
        rw [hb] at es
        have hle : ((xs.take k).filter (fun y => holdB x y.row)).length ≤ k := by have h1 := List.length_filter_le (fun y : I => holdB x y.row) (xs.take k); simp at h1; omega
        generalize ofE y.row x = V9 at co cv
        have Es := Lib.hid es
        clear hyk hmem hre rv es hb hyv
        go_upto_region 8 with fail
        refine wp_forget (fun Z => Blk Z wr.heap.size 39 #[.slice y.A y.row.length y.cap, .int .i64 y.w] ∧ Grow wr Z) ⟨Blk.new _ _ _, (Grow.refl wr).al _⟩ ?_
        rintro Z ⟨Bz, Gz⟩
        obtain ⟨bz, fz⟩ := Bz.rules
        unfold V.val at co cv
        cases b with
        | false =>
          go_wp2_with (first
            | (go_at_call 30; ((with_reducible refine (co _ Gz).mono ?_); rintro e w5 ⟨rfl, hg5⟩))
            | (go_at_call 29; ((with_reducible refine (cv _).mono ?_); rintro e w6 ⟨rfl, hg6⟩)))
          have G6 := Gz.trans (hg5.trans hg6)
          have Own6 := Lib.hid (own_grow Own.out G6)
          go_roundw
          case rel => exact ⟨k + 1, by omega, by go_num, by rw [Es.out]; simpa using Own6.out, hg.trans G6⟩
          case measure => simp [intOf]; omega
        | true =>
          go_upto_region 9 with (first
            | (go_at_call 30; ((with_reducible refine (co _ Gz).mono ?_); rintro e w5 ⟨rfl, hg5⟩))
            | (go_at_call 29; ((with_reducible refine (cv _).mono ?_); rintro e w6 ⟨rfl, hg6⟩)))
          have G6 := Gz.trans (hg5.trans hg6)
          have Own6 := Lib.hid (own_grow Own.out G6)
          clear bz fz
          obtain ⟨bz, fz⟩ := (Bz.grow (hg5.trans hg6)).rules
          go_wp2_with (at_builtin; refine wpList_append_src rfl _ _ rfl w4.heap.size _ _ _ rfl (Own6.out.alloc _) _ [I.mk y.A y.row y.cap y.w] rfl (src_one rfl (Blk.new _ _ _)) (by simp; omega) (by have := (hg.trans G6).size; simp; omega) ?_; intro v7 w7 own7 gr7)
          have G7 : Grow w4 w7 := grow_own ((hg.trans G6).al _) gr7 (Own6.out.alloc _)
          have Own7 := Lib.hid own7
          clear own7 gr7
          go_roundw
          case rel => exact ⟨k + 1, by omega, by go_num, by rw [Es.out]; simpa using Own7.out, G7⟩
          case measure => simp [intOf]; omega
      · obtain rfl : k = xs.length := by omega
        have own := Own.out
        rw [List.take_length] at own
        obtain ⟨B, cap, rfl, hzf, hkf⟩ := own_zin2 own (fun y hy => by
          have hy := (List.mem_filter.1 hy).1
          exact (Hz.out.vsl y hy).grow (G4.out.trans hg))
        have mem : ∀ y ∈ xs.filter (fun y => holdB x y.row), y ∈ xs := fun y hy => (List.mem_filter.1 hy).1
        have cs := sum_any (xs.filter (fun y => holdB x y.row)) B cap wr (by have h1 := List.length_filter_le (fun y : I => holdB x y.row) xs; omega) hzf (fun y hy => by have := A2.out y (mem y hy); omega) (fun y hy => A3.out y (mem y hy)) (fun y hy => A4.out y (mem y hy))
        rw [filt_map (holdB x) xs, ← EQ.out] at cs
        clear own hzf hkf mem
        go_wp2_with (go_at_call 26; ((with_reducible refine cs.mono ?_); rintro en w7 ⟨C, zs, cap2, rfl, hz3, hm3, hk3, hg3⟩; have Out := Lib.hid (And.intro hz3 (And.intro hm3 hk3)); clear hz3 hm3 hk3))
        refine bodyPost_ret (by simp [results, Try.results10, go_sem] <;> rfl) rfl ?_
        exact ⟨C, zs, cap2, rfl, Out.out.1, Out.out.2.1, Out.out.2.2, G4.out.trans (hg.trans hg3)⟩
  · have d0 : (EI != 0) = true := by simpa using h0
    have eQ : Q = ([], EI) := by
      rw [Fin.out]
      have h := HEE.out
      split at h
      · rename_i h1; rw [if_pos h1, h]
      · rename_i h1; rw [if_neg h1, h, if_pos h0]
    go_wp2
    refine bodyPost_ret (by simp [results, Try.results10, go_sem] <;> rfl) rfl ?_
    exact ⟨none, [], 0, by rw [eQ]; rfl, zin_nil _ _, by rw [eQ]; rfl, SlOk.nil, G4.out⟩
def nV' (n : Int) : V := ⟨3, n, ⟨#[]⟩⟩
abbrev z4 (g1 g2 : Nat) : List I := [⟨some ⟨g1, 0, none⟩, [nV' 1], 1, 2⟩, ⟨some ⟨g2, 0, none⟩, [nV' 2], 1, 1⟩]
end Go.Proofs.Ytamfpppbjaelaaa
