/-
  Joined texts of this claim: St5. What each proves its own head says; no condition beside those that each theorem names.
-/
import Derived.Test.YtjhcbehnopmnpaaGN
/-
  Streams, plainly: added up and told apart; what is new.
-/
namespace Go.Proofs.Ytjhcbehnopmnpaa
open Go.RowKit Go.Calm
set_option linter.unusedSimpArgs false
set_option linter.unusedVariables false

/-- a sum that is known -/
theorem both_val {a b t : List Z} {n : Int} (ha : wrongZ a = 0) (hb : wrongZ b = 0) (hc : Canon t) (ht : wrongZ t = 0) (hw : ∀ q, wtZ a q + n * wtZ b q = wtZ t q) : bothZ a b n = (t, 0) := by
  have sa := SM.of ha
  have sb := SM.of hb
  have st := SM.of ht
  have e : t = setZ (a ++ scaleZ n b) := setZ_of (fun x hx => ((okR_append sa.ok (okR_scale sb.ok n)) x hx).2) hc (fun q => by rw [wtZ_append, wt_scale, hw])
  unfold bothZ sumZ
  rw [if_neg (by rw [ha]; simp), if_neg (by rw [hb]; simp), ← e]
  exact fitZ_ok st.len st.bd
/-- what a sum is that came well -/
theorem both_ok {a b s : List Z} {n : Int} (h : bothZ a b n = (s, 0)) : wrongZ a = 0 ∧ wrongZ b = 0 ∧ Canon s ∧ wrongZ s = 0 ∧ ∀ q, wtZ s q = wtZ a q + n * wtZ b q := by
  unfold bothZ at h
  split at h
  · rename_i h1; exact absurd (Prod.mk.inj h).2 h1
  · rename_i h1
    split at h
    · rename_i h2; exact absurd (Prod.mk.inj h).2 h2
    · rename_i h2
      have h1 : wrongZ a = 0 := by simpa using h1
      have h2 : wrongZ b = 0 := by simpa using h2
      have ok := okR_append (SM.of h1).ok (okR_scale (SM.of h2).ok n)
      have sp := setZ_spec (a ++ scaleZ n b) (fun x hx => (ok x hx).2)
      unfold sumZ at h
      rcases fitZ_cases (setZ (a ++ scaleZ n b)) with ⟨e, hl, hb⟩ | ⟨e, he, hf⟩
      · rw [e] at h
        have es : setZ (a ++ scaleZ n b) = s := (Prod.mk.inj h).1
        rw [es] at sp hl hb
        have oks : okR s := by rw [← es]; exact okR_set ok
        exact ⟨h1, h2, sp.1, (SM.canon sp.1 oks hb hl).rz (by omega) (by omega), fun q => by rw [sp.2, wtZ_append, wt_scale]⟩
      · rw [hf] at h; exact absurd (Prod.mk.inj h).2 he
/-- a right set without what values have not -/
def brZ (z : List Z) : List Z := eachL (fun n => n) z
theorem br_ok {z : List Z} (h : wrongZ z = 0) : Canon (brZ z) ∧ wrongZ (brZ z) = 0 ∧ ∀ q, wtZ (brZ z) q = wtZ z q := by
  have s := SM.of h
  obtain ⟨t, e, c, st, w⟩ := each_sm s (f := fun n => n) rfl (fun n h1 h2 => ⟨h1, h2⟩) (by omega) (by omega)
  unfold eachZ at e
  rw [if_neg (by rw [h]; simp)] at e
  have e1 : brZ z = t := (Prod.mk.inj e).1
  rw [e1]
  exact ⟨c, st.rz (by omega) (by omega), w⟩
theorem both_bare {z : List Z} (h : wrongZ z = 0) : bothZ z [] 1 = (brZ z, 0) := by
  obtain ⟨c, r, w⟩ := br_ok h
  exact both_val h wrong_nil c r (fun q => by rw [w, wtZ_nil]; omega)
theorem br_canon {z : List Z} (hc : Canon z) (h : wrongZ z = 0) : brZ z = z := by
  obtain ⟨c, r, w⟩ := br_ok h
  exact canon_ext _ _ c hc (fun q _ => w q)
/-- what alG gives, step by step, where it goes well -/
theorem alG_ok {F : List Z → List Z → List Z → List Z × Int} : ∀ {l : List (List Z)} {i : Nat} {m la : List Z} {r : List (List Z)}, alG F i m la l = (r, 0, 0) → (l = [] ∧ r = []) ∨ ∃ z l' s r', l = z :: l' ∧ r = s :: r' ∧ F m la z = (s, 0) ∧ alG F (i + 1) s z l' = (r', 0, 0)
  | [], i, m, la, r, h => .inl ⟨rfl, by simpa [alG] using h.symm⟩
  | z :: l, i, m, la, r, h => by
    right
    unfold alG at h
    cases hF : F m la z with
    | mk s e =>
      rw [hF] at h
      simp only at h
      by_cases he : e = 0
      · subst he
        rw [if_neg (by simp)] at h
        unfold alR at h
        by_cases h2 : (alG F (i + 1) s z l).2.1 = 0
        · rw [if_neg (by simpa using h2)] at h
          refine ⟨z, l, s, (alG F (i + 1) s z l).1, rfl, by simpa using (Prod.mk.inj h).1.symm, hF, ?_⟩
          have : (alG F (i + 1) s z l).2.2 = 0 ∨ True := .inr trivial
          have h3 : ∀ (l : List (List Z)) (i : Nat) (m la : List Z), (alG F i m la l).2.1 = 0 → (alG F i m la l).2 = (0, 0) := by
            intro l
            induction l with
            | nil => intro i m la _; rfl
            | cons u l ih =>
              intro i m la hx
              unfold alG at hx ⊢
              split at hx
              · rename_i h4; exact absurd hx h4
              · rename_i h4
                rw [if_neg h4]
                unfold alR at hx ⊢
                split at hx
                · rename_i h5; exact absurd hx h5
                · rename_i h5; rw [if_neg h5]
          have h4 := h3 l (i + 1) s z h2
          exact Prod.ext rfl h4
        · rw [if_pos (by simpa using h2)] at h
          exact absurd (congrArg Prod.fst (Prod.mk.inj h).2) h2
      · rw [if_pos he] at h
        exact absurd (congrArg Prod.fst (Prod.mk.inj h).2) he
theorem alG_cons {F : List Z → List Z → List Z → List Z × Int} {i : Nat} {m la z s : List Z} {l r : List (List Z)} (h : F m la z = (s, 0)) (h2 : alG F (i + 1) s z l = (r, 0, 0)) : alG F i m la (z :: l) = (s :: r, 0, 0) := by
  unfold alG
  rw [h]
  simp only
  rw [if_neg (by simp), h2]
  unfold alR
  simp
theorem along_ok {F : List Z → List Z → List Z → List Z × Int} {l r : List (List Z)} {a : Int} (h : alongZ F l = (r, 0, a)) : (l.length ≤ 30 ∧ ∀ z ∈ l, wrongZ z = 0) ∧ alG F 0 [] [] l = (r, 0, 0) := by
  unfold alongZ at h
  split at h
  · rename_i h1
    exact absurd (congrArg Prod.fst (Prod.mk.inj h).2) h1
  · rename_i h1
    refine ⟨(swrong_zero l).1 (by simpa using h1), ?_⟩
    unfold alR at h
    split at h
    · rename_i h2; exact absurd (congrArg Prod.fst (Prod.mk.inj h).2) h2
    · rename_i h2
      have h2 : (alG F 0 [] [] l).2.1 = 0 := by simpa using h2
      have e1 : (alG F 0 [] [] l).1 = r := by simpa using (Prod.mk.inj h).1
      have h3 : ∀ (l : List (List Z)) (i : Nat) (m la : List Z), (alG F i m la l).2.1 = 0 → (alG F i m la l).2 = (0, 0) := by
        intro l
        induction l with
        | nil => intro i m la _; rfl
        | cons u l ih =>
          intro i m la hx
          unfold alG at hx ⊢
          split at hx
          · rename_i h4; exact absurd hx h4
          · rename_i h4
            rw [if_neg h4]
            unfold alR at hx ⊢
            split at hx
            · rename_i h5; exact absurd hx h5
            · rename_i h5; rw [if_neg h5]
      exact Prod.ext e1 (h3 l 0 [] [] h2)
theorem along_of {F : List Z → List Z → List Z → List Z × Int} {l r : List (List Z)} (h1 : l.length ≤ 30) (h2 : ∀ z ∈ l, wrongZ z = 0) (h : alG F 0 [] [] l = (r, 0, 0)) : alongZ F l = (r, 0, 0) := by
  unfold alongZ
  rw [if_neg (by rw [(swrong_zero l).2 ⟨h1, h2⟩]; simp), h]
  rfl
/-- added up, all sets are right, and as many -/
theorem int_right : ∀ {l r : List (List Z)} {i : Nat} {m la : List Z}, alG Fi i m la l = (r, 0, 0) → (∀ s ∈ r, Canon s ∧ wrongZ s = 0) ∧ r.length = l.length
  | [], r, i, m, la, h => by
    rcases alG_ok h with ⟨_, rfl⟩ | ⟨z, l', s, r', e, _⟩
    · exact ⟨fun s hs => by simp at hs, rfl⟩
    · cases e
  | z :: l, r, i, m, la, h => by
    rcases alG_ok h with ⟨e, _⟩ | ⟨z', l', s, r', e, rfl, hF, h2⟩
    · cases e
    · cases e
      obtain ⟨_, _, c, w, _⟩ := both_ok hF
      have ih := int_right h2
      refine ⟨fun u hu => ?_, by simp [ih.2]⟩
      rcases List.mem_cons.1 hu with rfl | hu
      · exact ⟨c, w⟩
      · exact ih.1 u hu
theorem dif_right : ∀ {l r : List (List Z)} {i : Nat} {m la : List Z}, alG Fd i m la l = (r, 0, 0) → (∀ s ∈ r, Canon s ∧ wrongZ s = 0) ∧ r.length = l.length
  | [], r, i, m, la, h => by
    rcases alG_ok h with ⟨_, rfl⟩ | ⟨z, l', s, r', e, _⟩
    · exact ⟨fun s hs => by simp at hs, rfl⟩
    · cases e
  | z :: l, r, i, m, la, h => by
    rcases alG_ok h with ⟨e, _⟩ | ⟨z', l', s, r', e, rfl, hF, h2⟩
    · cases e
    · cases e
      obtain ⟨_, _, c, w, _⟩ := both_ok hF
      have ih := dif_right h2
      refine ⟨fun u hu => ?_, by simp [ih.2]⟩
      rcases List.mem_cons.1 hu with rfl | hu
      · exact ⟨c, w⟩
      · exact ih.1 u hu
/-- what was added up, told apart -/
theorem undo_int : ∀ {l r : List (List Z)} {i : Nat} {m la x : List Z}, (∀ z ∈ l, wrongZ z = 0) → wrongZ m = 0 → alG Fi i m la l = (r, 0, 0) → alG Fd i x m r = (l.map brZ, 0, 0)
  | [], r, i, m, la, x, _, _, h => by
    rcases alG_ok h with ⟨_, rfl⟩ | ⟨z, l', s, r', e, _⟩
    · rfl
    · cases e
  | z :: l, r, i, m, la, x, hz, hm, h => by
    rcases alG_ok h with ⟨e, _⟩ | ⟨z', l', s, r', e, rfl, hF, h2⟩
    · cases e
    · cases e
      obtain ⟨h5, h6, c, w, hw⟩ := both_ok hF
      have ih := undo_int (x := brZ z) (fun u hu => hz u (by simp [hu])) w h2
      obtain ⟨bc, bw, bq⟩ := br_ok (hz z (by simp))
      refine alG_cons (both_val w hm bc bw (fun q => ?_)) ih
      rw [hw, bq]; omega
/-- what was told apart, added up -/
theorem undo_dif : ∀ {l r : List (List Z)} {i : Nat} {m la x : List Z}, (∀ z ∈ l, wrongZ z = 0) → wrongZ la = 0 → alG Fd i m la l = (r, 0, 0) → alG Fi i (brZ la) x r = (l.map brZ, 0, 0)
  | [], r, i, m, la, x, _, _, h => by
    rcases alG_ok h with ⟨_, rfl⟩ | ⟨z, l', s, r', e, _⟩
    · rfl
    · cases e
  | z :: l, r, i, m, la, x, hz, hl, h => by
    rcases alG_ok h with ⟨e, _⟩ | ⟨z', l', s, r', e, rfl, hF, h2⟩
    · cases e
    · cases e
      obtain ⟨h5, h6, c, w, hw⟩ := both_ok hF
      have ih := undo_dif (x := s) (fun u hu => hz u (by simp [hu])) (hz z (by simp)) h2
      obtain ⟨bc, bw, bq⟩ := br_ok (hz z (by simp))
      obtain ⟨lc, lw, lq⟩ := br_ok hl
      refine alG_cons (both_val lw w bc bw (fun q => ?_)) ih
      rw [hw, bq, lq]; omega
theorem br_nil : brZ [] = [] := rfl
theorem undo1 {l r : List (List Z)} {a : Int} (h : alongZ Fi l = (r, 0, a)) : alongZ Fd r = (l.map brZ, 0, 0) := by
  obtain ⟨⟨h1, h2⟩, h3⟩ := along_ok h
  have hr := int_right h3
  exact along_of (by omega) (fun z hz => (hr.1 z hz).2) (undo_int h2 wrong_nil h3)
theorem undo2 {l r : List (List Z)} {a : Int} (h : alongZ Fd l = (r, 0, a)) : alongZ Fi r = (l.map brZ, 0, 0) := by
  obtain ⟨⟨h1, h2⟩, h3⟩ := along_ok h
  have hr := dif_right h3
  exact along_of (by omega) (fun z hz => (hr.1 z hz).2) (undo_dif h2 wrong_nil h3)
/-- each set one later -/
theorem del_all : ∀ (l : List (List Z)) (i : Nat) (m la : List Z), (∀ z ∈ l, wrongZ z = 0) → wrongZ la = 0 → alG Fz i m la l = ((la :: l).take l.length |>.map brZ, 0, 0)
  | [], i, m, la, _, _ => rfl
  | z :: l, i, m, la, hz, hl => by
    have ih := del_all l (i + 1) (brZ la) z (fun u hu => hz u (by simp [hu])) (hz z (by simp))
    have := alG_cons (F := Fz) (i := i) (m := m) (la := la) (z := z) (both_bare hl) ih
    simpa using this
theorem del_along {l : List (List Z)} (h1 : l.length ≤ 30) (h2 : ∀ z ∈ l, wrongZ z = 0) : alongZ Fz l = ((([] : List Z) :: l).take l.length |>.map brZ, 0, 0) :=
  along_of h1 h2 (del_all l 0 [] [] h2 wrong_nil)
/-- at a place, told apart: the set there less the one ahead -/
theorem dif_at : ∀ {l r : List (List Z)} {i : Nat} {m la : List Z}, alG Fd i m la l = (r, 0, 0) → ∀ (k : Nat) (z : List Z), l[k]? = some z → ∃ s p, r[k]? = some s ∧ (la :: l)[k]? = some p ∧ bothZ z p (-1) = (s, 0)
  | [], r, i, m, la, h, k, z, hk => by simp at hk
  | u :: l, r, i, m, la, h, k, z, hk => by
    rcases alG_ok h with ⟨e, _⟩ | ⟨z', l', s, r', e, rfl, hF, h2⟩
    · cases e
    · cases e
      cases k with
      | zero => simp at hk; subst hk; exact ⟨s, la, rfl, rfl, hF⟩
      | succ k =>
        obtain ⟨s', p, a1, a2, a3⟩ := dif_at h2 k z (by simpa using hk)
        exact ⟨s', p, by simpa using a1, by simpa using a2, a3⟩
theorem int_at : ∀ {l r : List (List Z)} {i : Nat} {m la : List Z}, alG Fi i m la l = (r, 0, 0) → ∀ (k : Nat) (z : List Z), l[k]? = some z → ∃ s p, r[k]? = some s ∧ (m :: r)[k]? = some p ∧ bothZ p z 1 = (s, 0)
  | [], r, i, m, la, h, k, z, hk => by simp at hk
  | u :: l, r, i, m, la, h, k, z, hk => by
    rcases alG_ok h with ⟨e, _⟩ | ⟨z', l', s, r', e, rfl, hF, h2⟩
    · cases e
    · cases e
      cases k with
      | zero => simp at hk; subst hk; exact ⟨s, m, rfl, rfl, hF⟩
      | succ k =>
        obtain ⟨s', p, a1, a2, a3⟩ := int_at h2 k z (by simpa using hk)
        exact ⟨s', p, by simpa using a1, by simpa using a2, a3⟩
theorem del_at {l r : List (List Z)} (h1 : l.length ≤ 30) (h2 : ∀ z ∈ l, wrongZ z = 0) (hr : alongZ Fz l = (r, 0, 0)) {k : Nat} {p : List Z} (hk : k < l.length) (hp : (([] : List Z) :: l)[k]? = some p) : r[k]? = some (brZ p) := by
  rw [del_along h1 h2] at hr
  have e := (Prod.mk.inj hr).1
  rw [← e, List.getElem?_map, List.getElem?_take, if_pos hk, hp]; rfl
theorem prev_right {l : List (List Z)} (h2 : ∀ z ∈ l, wrongZ z = 0) {k : Nat} {p : List Z} (hp : (([] : List Z) :: l)[k]? = some p) : wrongZ p = 0 := by
  rcases List.mem_cons.1 (List.mem_of_getElem? hp) with rfl | h
  · exact wrong_nil
  · exact h2 p h
/-- WHAT IS NEW is what there is, less what there was -/
theorem delay1 {l z d : List (List Z)} {a : Int} (hz : alongZ Fz l = (z, 0, 0)) (hd : alongZ Fd l = (d, 0, a)) : z.length = l.length ∧ d.length = l.length ∧ ∀ (k : Nat) (u : List Z), l[k]? = some u → ∃ v s, z[k]? = some v ∧ d[k]? = some s ∧ bothZ u v (-1) = (s, 0) := by
  obtain ⟨⟨h1, h2⟩, h3⟩ := along_ok hd
  refine ⟨?_, (dif_right h3).2, fun k u hk => ?_⟩
  · rw [del_along h1 h2] at hz
    rw [← (Prod.mk.inj hz).1]; simp
  · obtain ⟨s, p, a1, a2, a3⟩ := dif_at h3 k u hk
    have hkl := (List.getElem?_eq_some_iff.1 hk).1
    refine ⟨brZ p, s, del_at h1 h2 hz hkl a2, a1, ?_⟩
    obtain ⟨_, _, c, w, hw⟩ := both_ok a3
    obtain ⟨_, bw, bq⟩ := br_ok (prev_right h2 a2)
    exact both_val (h2 u (List.mem_of_getElem? hk)) bw c w (fun q => by rw [hw, bq])
/-- what is added up is what comes, and what was added up one ahead -/
theorem delay2 {l r : List (List Z)} {a : Int} (h : alongZ Fi l = (r, 0, a)) : ∃ b, alongZ Fz r = (b, 0, 0) ∧ b.length = l.length ∧ ∀ (k : Nat) (u : List Z), l[k]? = some u → ∃ v s, b[k]? = some v ∧ r[k]? = some s ∧ bothZ u v 1 = (s, 0) := by
  obtain ⟨⟨h1, h2⟩, h3⟩ := along_ok h
  have hr := int_right h3
  have r1 : r.length ≤ 30 := by omega
  have r2 : ∀ z ∈ r, wrongZ z = 0 := fun z hz => (hr.1 z hz).2
  refine ⟨_, del_along r1 r2, by simp [hr.2], fun k u hk => ?_⟩
  obtain ⟨s, p, a1, a2, a3⟩ := int_at h3 k u hk
  have hkl := (List.getElem?_eq_some_iff.1 hk).1
  refine ⟨brZ p, s, del_at r1 r2 (del_along r1 r2) (by omega) a2, a1, ?_⟩
  obtain ⟨_, _, c, w, hw⟩ := both_ok a3
  obtain ⟨_, bw, bq⟩ := br_ok (prev_right r2 a2)
  exact both_val (h2 u (List.mem_of_getElem? hk)) bw c w (fun q => by rw [hw, bq]; omega)
end Go.Proofs.Ytjhcbehnopmnpaa
