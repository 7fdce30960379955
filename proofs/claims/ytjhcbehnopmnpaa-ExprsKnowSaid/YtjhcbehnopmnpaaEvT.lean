/-
  Chapter 3's laws of expressions that are put together, plainly.
-/
import Derived.Test.YtjhcbehnopmnpaaEvL
namespace Go.Proofs.Ytjhcbehnopmnpaa
open Go.RowKit Go.Calm
set_option linter.unusedSimpArgs false
set_option linter.unusedVariables false

def zV : V := ⟨0, 0, es⟩
/-- an expression of kids -/
def oneK (k : Int) (a : E) (A : Option Addr) : E := .mk k zV 0 A 1 1 (fun _ => a)
def twoK (k : Int) (a b : E) (A : Option Addr) : E := .mk k zV 0 A 2 2 (fun i => if i = 0 then a else b)
def threeK (k : Int) (a b c : E) (A : Option Addr) : E := .mk k zV 0 A 3 3 (fun i => if i = 0 then a else if i = 1 then b else c)

theorem sz_one (k : Int) (a : E) (A : Option Addr) : szE (oneK k a A) = 1 + szE a := by simp [oneK, szE, sumK]
theorem sz_two (k : Int) (a b : E) (A : Option Addr) : szE (twoK k a b A) = 1 + (szE a + szE b) := by simp [twoK, szE, sumK]
theorem sz_three (k : Int) (a b c : E) (A : Option Addr) : szE (threeK k a b c A) = 1 + (szE a + szE b + szE c) := by simp [threeK, szE, sumK]
theorem d_one (k : Int) (a : E) (A : Option Addr) (d : Int) : dOK (oneK k a A) d ↔ d ≤ 20 ∧ dOK a (d + 1) := by
  simp only [oneK, dOK]
  constructor
  · rintro ⟨h1, h2⟩; exact ⟨h1, h2 0 (by omega)⟩
  · rintro ⟨h1, h2⟩; exact ⟨h1, fun i hi => h2⟩
theorem d_two (k : Int) (a b : E) (A : Option Addr) (d : Int) : dOK (twoK k a b A) d ↔ d ≤ 20 ∧ dOK a (d + 1) ∧ dOK b (d + 1) := by
  simp only [twoK, dOK]
  constructor
  · rintro ⟨h1, h2⟩; exact ⟨h1, by simpa using h2 0 (by omega), by simpa using h2 1 (by omega)⟩
  · rintro ⟨h1, h2, h3⟩
    refine ⟨h1, fun i hi => ?_⟩
    by_cases h : i = 0
    · simpa [h] using h2
    · simpa [h] using h3
theorem d_three (k : Int) (a b c : E) (A : Option Addr) (d : Int) : dOK (threeK k a b c A) d ↔ d ≤ 20 ∧ dOK a (d + 1) ∧ dOK b (d + 1) ∧ dOK c (d + 1) := by
  simp only [threeK, dOK]
  constructor
  · rintro ⟨h1, h2⟩; exact ⟨h1, by simpa using h2 0 (by omega), by simpa using h2 1 (by omega), by simpa using h2 2 (by omega)⟩
  · rintro ⟨h1, h2, h3, h4⟩
    refine ⟨h1, fun i hi => ?_⟩
    by_cases h : i = 0
    · simpa [h] using h2
    · by_cases h' : i = 1
      · simpa [h'] using h3
      · simpa [h, h'] using h4
theorem ty_ne {cols : List Int} {k : Int} {v : V} {c : Int} {ts : List Int} {T : Int} (h1 : 1 ≤ kidsN k) (h16 : k ≠ 16) : tyK cols k v c ts T ↔ kindE k ts = (T, 0) := by
  have n1 : k ≠ 1 := by rintro rfl; revert h1; decide
  have n2 : k ≠ 2 := by rintro rfl; revert h1; decide
  simp [tyK, n1, n2, h16]
theorem wt_one {cols : List Int} {k : Int} {a : E} {A : Option Addr} {T : Int} (h : kidsN k = 1) (h16 : k ≠ 16) : wt cols (oneK k a A) T ↔ ∃ t, wt cols a t ∧ kindE k [t] = (T, 0) := by
  simp only [oneK, wt]
  rw [h]
  constructor
  · rintro ⟨_, _, ts, h1, h2, h3⟩
    rw [ty_ne (by omega) h16] at h3
    match ts, h1 with
    | [t], _ => exact ⟨t, by simpa using h2 0 (by omega), h3⟩
  · rintro ⟨t, h1, h2⟩
    refine ⟨by omega, by omega, [t], rfl, fun i hi => ?_, (ty_ne (by omega) h16).2 h2⟩
    obtain rfl : i = 0 := by omega
    simpa using h1
theorem wt_null {cols : List Int} {a : E} {A : Option Addr} {T : Int} : wt cols (oneK 16 a A) T ↔ (∃ t, wt cols a t) ∧ T = 2 := by
  have h : kidsN 16 = 1 := rfl
  simp only [oneK, wt]
  rw [h]
  constructor
  · rintro ⟨_, _, ts, h1, h2, h3⟩
    exact ⟨⟨_, h2 0 (by omega)⟩, by simpa [tyK] using h3⟩
  · rintro ⟨⟨t, h1⟩, h2⟩
    refine ⟨by omega, by omega, [t], rfl, fun i hi => ?_, by simpa [tyK] using h2⟩
    obtain rfl : i = 0 := by omega
    simpa using h1
theorem wt_two {cols : List Int} {k : Int} {a b : E} {A : Option Addr} {T : Int} (h : kidsN k = 2) : wt cols (twoK k a b A) T ↔ ∃ t u, wt cols a t ∧ wt cols b u ∧ kindE k [t, u] = (T, 0) := by
  have h16 : k ≠ 16 := by rintro rfl; revert h; decide
  simp only [twoK, wt]
  rw [h]
  constructor
  · rintro ⟨_, _, ts, h1, h2, h3⟩
    rw [ty_ne (by omega) h16] at h3
    match ts, h1 with
    | [t, u], _ => exact ⟨t, u, by simpa using h2 0 (by omega), by simpa using h2 1 (by omega), h3⟩
  · rintro ⟨t, u, h1, h2, h3⟩
    refine ⟨by omega, by omega, [t, u], rfl, fun i hi => ?_, (ty_ne (by omega) h16).2 h3⟩
    match i, hi with
    | 0, _ => simpa using h1
    | 1, _ => simpa using h2
theorem wt_three {cols : List Int} {a b c : E} {A : Option Addr} {T : Int} : wt cols (threeK 17 a b c A) T ↔ ∃ t u s, wt cols a t ∧ wt cols b u ∧ wt cols c s ∧ kindE 17 [t, u, s] = (T, 0) := by
  have h : kidsN 17 = 3 := rfl
  simp only [threeK, wt]
  rw [h]
  constructor
  · rintro ⟨_, _, ts, h1, h2, h3⟩
    rw [ty_ne (by omega) (by decide)] at h3
    match ts, h1 with
    | [t, u, s], _ => exact ⟨t, u, s, by simpa using h2 0 (by omega), by simpa using h2 1 (by omega), by simpa using h2 2 (by omega), h3⟩
  · rintro ⟨t, u, s, h1, h2, h3, h4⟩
    refine ⟨by omega, by omega, [t, u, s], rfl, fun i hi => ?_, (ty_ne (by omega) (by decide)).2 h4⟩
    match i, hi with
    | 0, _ => simpa using h1
    | 1, _ => simpa using h2
    | 2, _ => simpa using h3
theorem of_one {row : List V} {k : Int} {a : E} {A : Option Addr} (h1 : k ≠ 1) (h2 : k ≠ 2) : ofE row (oneK k a A) = opV k (ofE row a) (ofE row a) (ofE row a) := by
  simp [oneK, ofE, h1, h2]
theorem of_two {row : List V} {k : Int} {a b : E} {A : Option Addr} (h1 : k ≠ 1) (h2 : k ≠ 2) : ofE row (twoK k a b A) = opV k (ofE row a) (ofE row b) (ofE row b) := by
  simp [twoK, ofE, h1, h2]
theorem of_three {row : List V} {a b c : E} {A : Option Addr} : ofE row (threeK 17 a b c A) = opV 17 (ofE row a) (ofE row b) (ofE row c) := by
  simp [threeK, ofE]

/-- right in every way -/
structure Okay (cols : List Int) (e : E) (T : Int) : Prop where
  len : cols.length ≤ 16
  all : cols.all colB = true
  ty : wt cols e T
  deep : dOK e 1
  size : szE e ≤ 200
theorem okay_iff {cols : List Int} {e : E} {T : Int} : typeE cols e = (T, 0) ↔ Okay cols e T := by
  rw [typeE_iff]
  exact ⟨fun ⟨a, b, c, d, e⟩ => ⟨a, b, c, d, e⟩, fun ⟨a, b, c, d, e⟩ => ⟨a, b, c, d, e⟩⟩
theorem okay_of {cols : List Int} {e : E} (h : (typeE cols e).2 = 0) : ∃ T, Okay cols e T := ⟨(typeE cols e).1, okay_iff.1 (Prod.ext rfl h)⟩
theorem Okay.eval {cols : List Int} {e : E} {T : Int} (h : Okay cols e T) (row : List V) (hf : fitsE cols row = 0) : evalE cols row e = (ofE row e, 0) := by
  have := okay_iff.2 h
  simp [evalE, this, hf]
theorem eval_ok {cols : List Int} {row : List V} {e : E} (h : (evalE cols row e).2 = 0) : (∃ T, Okay cols e T) ∧ FitR cols row ∧ evalE cols row e = (ofE row e, 0) := by
  unfold evalE at h
  split at h
  · rename_i h1; exact absurd h h1
  · rename_i h1
    split at h
    · rename_i h2; exact absurd h h2
    · rename_i h2
      obtain ⟨T, hT⟩ := okay_of (Classical.byContradiction h1)
      have h2' : fitsE cols row = 0 := Classical.byContradiction h2
      exact ⟨⟨T, hT⟩, (fits_iff cols row).1 h2', hT.eval row h2'⟩
/-- where Eval has an error, its value is the zero one -/
theorem eval_err {cols : List Int} {row : List V} {e : E} (h : (evalE cols row e).2 ≠ 0) : (evalE cols row e).1 = zV := by
  unfold evalE at h ⊢
  repeat' split
  all_goals first | rfl | (exfalso; simp_all; done)

/-- what the law ExprsTurned asks -/
def askE (cols : List Int) (row : List V) (e : E) : V := if (evalE cols row e).2 ≠ 0 then ⟨-1, 0, es⟩ else (evalE cols row e).1
theorem Okay.ask {cols : List Int} {e : E} {T : Int} (h : Okay cols e T) (row : List V) : askE cols row e = if fitsE cols row = 0 then ofE row e else ⟨-1, 0, es⟩ := by
  have := okay_iff.2 h
  unfold askE evalE
  rw [this]
  by_cases hf : fitsE cols row = 0 <;> simp [hf]

theorem kind_cmp {k t u : Int} (h : 6 ≤ k ∧ k ≤ 11) : kindE k [t, u] = if oneB t u then (2, 0) else (0, 9) := by
  unfold kindE
  rw [if_neg (by omega), if_pos (by omega)]
  rfl
theorem kids_cmp {k : Int} (h : 6 ≤ k ∧ k ≤ 11) : kidsN k = 2 := by
  unfold kidsN
  rw [if_neg (by omega), if_neg (by omega), if_pos (by omega)]
theorem oneB_comm (a b : Int) : oneB a b = oneB b a := by
  unfold oneB
  by_cases h1 : a = b
  · simp [h1]
  · have h2 : ¬ b = a := fun h => h1 h.symm
    simp [h1, h2]
    cases decide (b = 1) <;> simp

/-- what the great expression of ExprsTurned says of the two in it -/
structure Both (cols : List Int) (x y : E) : Prop where
  len : cols.length ≤ 16
  all : cols.all colB = true
  ty : ∃ t u, wt cols x t ∧ wt cols y u ∧ oneB t u = true
  dx : dOK x 3
  dy : dOK y 3
  size : 3 + (szE x + szE y) + (szE x + szE y) ≤ 200
theorem both_of {cols : List Int} {x y : E} {A B C : Option Addr} (h : (typeE cols (twoK 6 (twoK 6 x y A) (twoK 6 x y B) C)).2 = 0) : Both cols x y := by
  obtain ⟨T, h1, h2, h3, h4, h5⟩ := okay_of h
  rw [wt_two (by rfl)] at h3
  obtain ⟨t, u, h3, _, _⟩ := h3
  rw [wt_two (by rfl)] at h3
  obtain ⟨t', u', h3, h3', h6⟩ := h3
  rw [kind_cmp (by omega)] at h6
  rw [d_two, d_two] at h4
  rw [sz_two, sz_two, sz_two] at h5
  refine ⟨h1, h2, ⟨t', u', h3, h3', ?_⟩, h4.2.1.2.1, h4.2.1.2.2, by omega⟩
  cases h7 : oneB t' u'
  · rw [h7] at h6; simp at h6
  · rfl
theorem Both.two {cols : List Int} {x y : E} (h : Both cols x y) {k : Int} (hk : 6 ≤ k ∧ k ≤ 11) (A : Option Addr) : Okay cols (twoK k x y A) 2 := by
  obtain ⟨h1, h2, ⟨t, u, h3, h4, h5⟩, h6, h7, h8⟩ := h
  have := szE_pos x
  have := szE_pos y
  refine ⟨h1, h2, (wt_two (kids_cmp hk)).2 ⟨t, u, h3, h4, by rw [kind_cmp hk, h5]; rfl⟩, (d_two _ _ _ _ _).2 ⟨by omega, dOK_mono x (by omega) h6, dOK_mono y (by omega) h7⟩, by rw [sz_two]; omega⟩
theorem Both.not {cols : List Int} {x y : E} (h : Both cols x y) {k : Int} (hk : 6 ≤ k ∧ k ≤ 11) (A B : Option Addr) : Okay cols (oneK 3 (twoK k x y A) B) 2 := by
  have h0 := h.two hk A
  obtain ⟨h1, h2, ⟨t, u, h3, h4, h5⟩, h6, h7, h8⟩ := h
  have := szE_pos x
  have := szE_pos y
  refine ⟨h1, h2, (wt_one (by rfl) (by decide)).2 ⟨2, h0.ty, rfl⟩, (d_one _ _ _ _).2 ⟨by omega, (d_two _ _ _ _ _).2 ⟨by omega, dOK_mono x (by omega) h6, dOK_mono y (by omega) h7⟩⟩, by rw [sz_one, sz_two]; omega⟩
theorem Both.comm {cols : List Int} {x y : E} (h : Both cols x y) : Both cols y x := by
  obtain ⟨h1, h2, ⟨t, u, h3, h4, h5⟩, h6, h7, h8⟩ := h
  exact ⟨h1, h2, ⟨u, t, h4, h3, by rw [oneB_comm]; exact h5⟩, h7, h6, by omega⟩
theorem Both.or {cols : List Int} {x y : E} (h : Both cols x y) {k l : Int} (hk : 6 ≤ k ∧ k ≤ 11) (hl : 6 ≤ l ∧ l ≤ 11) (A B C : Option Addr) : Okay cols (twoK 5 (twoK k x y A) (twoK l x y B) C) 2 := by
  have h0 := h.two hk A
  have h0' := h.two hl B
  obtain ⟨h1, h2, ⟨t, u, h3, h4, h5⟩, h6, h7, h8⟩ := h
  refine ⟨h1, h2, (wt_two (by rfl)).2 ⟨2, 2, h0.ty, h0'.ty, rfl⟩, (d_two _ _ _ _ _).2 ⟨by omega, (d_two _ _ _ _ _).2 ⟨by omega, dOK_mono x (by omega) h6, dOK_mono y (by omega) h7⟩, (d_two _ _ _ _ _).2 ⟨by omega, dOK_mono x (by omega) h6, dOK_mono y (by omega) h7⟩⟩, by rw [sz_two, sz_two, sz_two]; omega⟩

theorem not_not_less (a b : V) : notV (notV (lessV a b)) = lessV a b := by
  unfold lessV
  split
  · cases decide (cmpV a b < 0) <;> rfl
  · rfl
theorem alike_comm (a b : V) : alikeB a b = alikeB b a := by
  unfold alikeB
  by_cases h : a.k = b.k
  · rw [h]
  · have h' : ¬ b.k = a.k := fun e => h e.symm
    simp [h, h']
theorem cmp_swap (a b : V) (ha : RV a) (hb : RV b) : cmpV b a = - cmpV a b := by
  rw [cmp_ord a b ha hb, cmp_ord b a hb ha]; exact ordV_swap a b
theorem le_or_eq (a b : V) (ha : RV a) (hb : RV b) : notV (lessV b a) = orV (lessV a b) (eqV a b) := by
  unfold lessV eqV
  rw [alike_comm b a]
  cases alikeB a b
  · rfl
  · simp only [if_true]
    rw [cmp_swap a b ha hb]
    have hr := ordV_range a b
    rw [← cmp_ord a b ha hb] at hr
    rcases hr with h | h | h <;> rw [h] <;> rfl

theorem turned {cols : List Int} {x y : E} {A B C : Option Addr} (h : (typeE cols (twoK 6 (twoK 6 x y A) (twoK 6 x y B) C)).2 = 0) (row : List V) :
    (∀ A B C, askE cols row (oneK 3 (twoK 8 x y A) B) = askE cols row (twoK 11 x y C)) ∧
    (∀ A B C, askE cols row (oneK 3 (twoK 9 x y A) B) = askE cols row (twoK 10 x y C)) ∧
    (∀ A B C, askE cols row (oneK 3 (twoK 6 x y A) B) = askE cols row (twoK 7 x y C)) ∧
    (∀ A B, askE cols row (twoK 8 x y A) = askE cols row (twoK 10 y x B)) ∧
    (∀ A B, askE cols row (twoK 9 x y A) = askE cols row (twoK 11 y x B)) ∧
    (∀ A B C D, askE cols row (twoK 9 x y A) = askE cols row (twoK 5 (twoK 8 x y B) (twoK 6 x y C) D)) := by
  have hb := both_of h
  have hc := hb.comm
  have o2 : ∀ k A, 6 ≤ k ∧ k ≤ 11 → ∀ x y, ofE row (twoK k x y A) = comparedV k (ofE row x) (ofE row y) := fun k A hk x y => by
    rw [of_two (by omega) (by omega), op_cmp hk]
  have o1 : ∀ k A B, 6 ≤ k ∧ k ≤ 11 → ofE row (oneK 3 (twoK k x y A) B) = notV (comparedV k (ofE row x) (ofE row y)) := fun k A B hk => by
    rw [of_one (by omega) (by omega), o2 _ _ hk]; rfl
  refine ⟨fun A B C => ?_, fun A B C => ?_, fun A B C => ?_, fun A B => ?_, fun A B => ?_, fun A B C D => ?_⟩
  · rw [(hb.not (by omega) A B).ask, (hb.two (by omega) C).ask, o1 _ _ _ (by omega), o2 _ _ (by omega)]; rfl
  · rw [(hb.not (by omega) A B).ask, (hb.two (by omega) C).ask, o1 _ _ _ (by omega), o2 _ _ (by omega)]
    have : notV (comparedV 9 (ofE row x) (ofE row y)) = comparedV 10 (ofE row x) (ofE row y) := not_not_less _ _
    rw [this]
  · rw [(hb.not (by omega) A B).ask, (hb.two (by omega) C).ask, o1 _ _ _ (by omega), o2 _ _ (by omega)]; rfl
  · rw [(hb.two (by omega) A).ask, (hc.two (by omega) B).ask, o2 _ _ (by omega), o2 _ _ (by omega)]; rfl
  · rw [(hb.two (by omega) A).ask, (hc.two (by omega) B).ask, o2 _ _ (by omega), o2 _ _ (by omega)]; rfl
  · rw [(hb.two (by omega) A).ask, (hb.or (by omega) (by omega) B C D).ask]
    by_cases hf : fitsE cols row = 0
    · rw [if_pos hf, if_pos hf, o2 9 A (by omega) x y, of_two (k := 5) (by omega) (by omega), o2 8 B (by omega) x y, o2 6 C (by omega) x y]
      have hF := (fits_iff cols row).1 hf
      obtain ⟨t, u, h3, h4, h5⟩ := hb.ty
      have rx := rv_of row hF.rv x (by rw [hF.1]; exact wt_re x h3)
      have ry := rv_of row hF.rv y (by rw [hF.1]; exact wt_re y h4)
      exact le_or_eq _ _ rx ry
    · rw [if_neg hf, if_neg hf]

theorem choose {cols : List Int} {row : List V} {c x y : E} {A B C D : Option Addr} (h1 : (evalE cols row (threeK 17 c x y A)).2 = 0) (h2 : (evalE cols row (twoK 18 x y B)).2 = 0) (h3 : (evalE cols row (threeK 17 (oneK 16 x C) y x D)).2 = 0) :
    (evalE cols row c).2 = 0 ∧ (evalE cols row x).2 = 0 ∧ (evalE cols row y).2 = 0 ∧
    (evalE cols row (threeK 17 c x y A)).1 = (if isB (evalE cols row c).1 true then (evalE cols row x).1 else (evalE cols row y).1) ∧
    (evalE cols row (twoK 18 x y B)).1 = (if (evalE cols row x).1.k = 1 then (evalE cols row y).1 else (evalE cols row x).1) ∧
    (evalE cols row (threeK 17 (oneK 16 x C) y x D)).1 = (if (evalE cols row x).1.k = 1 then (evalE cols row y).1 else (evalE cols row x).1) := by
  obtain ⟨⟨T, hT⟩, hf, e1⟩ := eval_ok h1
  obtain ⟨_, _, e2⟩ := eval_ok h2
  obtain ⟨_, _, e3⟩ := eval_ok h3
  have hf0 := (fits_iff cols row).2 hf
  obtain ⟨g1, g2, g3, g4, g5⟩ := hT
  obtain ⟨t, u, s, g6, g7, g8, _⟩ := wt_three.1 g3
  rw [d_three] at g4
  rw [sz_three] at g5
  have := szE_pos c
  have := szE_pos x
  have := szE_pos y
  have oc : Okay cols c t := ⟨g1, g2, g6, dOK_mono c (by omega) g4.2.1, by omega⟩
  have ox : Okay cols x u := ⟨g1, g2, g7, dOK_mono x (by omega) g4.2.2.1, by omega⟩
  have oy : Okay cols y s := ⟨g1, g2, g8, dOK_mono y (by omega) g4.2.2.2, by omega⟩
  rw [e1, e2, e3, oc.eval row hf0, ox.eval row hf0, oy.eval row hf0]
  simp only [true_and]
  have rc := rv_of row hf.rv c (by rw [hf.1]; exact wt_re c g6)
  refine ⟨?_, ?_, ?_⟩
  · rw [of_three]
    show (if rankV (ofE row c) = 2 then ofE row x else ofE row y) = _
    rcases rank_cases (ofE row c) rc with ⟨r1, _, r2⟩ | ⟨r1, _, r2⟩ | ⟨r1, _, r2⟩ <;> rw [r1, r2] <;> rfl
  · rw [of_two (by omega) (by omega)]; rfl
  · rw [of_three, of_one (by omega) (by omega)]
    show (if rankV (truth (decide ((ofE row x).k = 1))) = 2 then ofE row y else ofE row x) = _
    by_cases h : (ofE row x).k = 1 <;> simp [h, truth, rankV]
end Go.Proofs.Ytjhcbehnopmnpaa
