/-
  What chapter 1's laws ask: values held against each other, right, alive; Kleene's logic, plainly.
-/
import Derived.Test.YtjhcbehnopmnpaaOrd
import Derived.Test.YtjhcbehnopmnpaaVals4
namespace Go.Proofs.Ytjhcbehnopmnpaa
open Go.RowKit Go.Calm
set_option linter.unusedSimpArgs false
set_option linter.unusedVariables false

@[go_sem] theorem V.eta (x : V) : V.mk x.k x.n x.s = x := rfl
def eqB (x y : V) : Bool := decide (x.k = y.k) && (decide (x.n = y.n) && decide (x.s = y.s))
@[go_sem] theorem eqB_self (x : V) : eqB x x = true := by simp [eqB]
theorem V.ext' {x y : V} (h1 : x.k = y.k) (h2 : x.n = y.n) (h3 : x.s = y.s) : x = y := by
  cases x; cases y; simp_all
theorem eqB_iff (x y : V) : eqB x y = true ↔ x = y := by
  unfold eqB
  constructor
  · intro h
    simp at h
    exact V.ext' h.1 h.2.1 h.2.2
  · rintro rfl; simp
theorem run_eqlV (k n : Int) (s : ByteArray) (k' n' : Int) (s' : ByteArray) (w : World) :
    (binOp .eql 29 (.agg #[.int .i64 k, .int .i64 n, .string s]) (.agg #[.int .i64 k', .int .i64 n', .string s'])).run Try.prog w = .ok (.bool (eqB ⟨k, n, s⟩ ⟨k', n', s'⟩)) w := by
  have hs : (s.toList == s'.toList) = decide (s = s') := by
    rw [cmpS_beq, Bool.eq_iff_iff]; simp [cmpS_eq]
  have e : Try.prog.fieldsOf 29 = #[{ name := "Kind", type := 3, offset := 0, embedded := false, tag := "", pkgPath := "", byteOffset := 0 }, { name := "N", type := 2, offset := 1, embedded := false, tag := "", pkgPath := "", byteOffset := 8 }, { name := "Text", type := 9, offset := 2, embedded := false, tag := "", pkgPath := "", byteOffset := 16 }] := by kernel_rfl
  simp only [binOp]
  simp only [Op.equal, Op.maxDepth]
  rw [Sem.run_bind, run_equalIn_struct w 9999 29 _ _ (by kernel_rfl) (by kernel_rfl), e]
  simp [Op.eqFields, go_sem]
  have hs2 : (s.toList = s'.toList) ↔ s = s' := by
    have := hs
    rw [Bool.eq_iff_iff] at this
    simpa using this
  by_cases h1 : k = k' <;> by_cases h2 : n = n' <;> by_cases h3 : s = s' <;> simp [h1, h2, h3, hs2, eqB]

def nullV' : V := ⟨1, 0, es⟩
theorem null' (w : World) : Calls Try.prog 38 #[] w fun e w' => e = .returned nullV'.val ∧ Grow w w' := null w
def numV (n : Int) : V := ⟨3, n, es⟩
theorem num_any (n : Int) (w : World) : Calls Try.prog 29 #[.int .i64 n] w fun e w' => e = .returned (numV n).val ∧ Grow w w' := by
  go_enter Try.func29, Try.ntmps29
  go_wp2
  exact bodyPost_ret (by simp [results, Try.results29, go_sem, numV]) rfl ⟨rfl, (by repeat (first | (with_reducible exact Grow.refl _) | (with_reducible assumption) | (with_reducible refine Grow.set ?_ (by first | (simp; done) | (simp; omega)) _) | (with_reducible refine Grow.al ?_ _) | (with_reducible refine Grow.drew ?_) | (with_reducible refine Grow.drewN ?_ _) | (with_reducible refine Grow.trans ?_ (by assumption))))⟩

theorem rb_ranked (n : Int) : RB (rankedV n) := by
  unfold rankedV truth RB
  split
  · intro h; simp at h
  · intro _
    simp only
    split <;> omega
theorem rb_and (a b : V) : RB (andV a b) := rb_ranked _
theorem rb_or (a b : V) : RB (orV a b) := rb_ranked _
theorem rb_not (a : V) : RB (notV a) := rb_ranked _
theorem rb_truth (b : Bool) : RB (truth b) := by
  unfold truth RB
  intro _
  simp only
  split <;> omega
theorem rank_ranked (n : Int) (h : n = 0 ∨ n = 1 ∨ n = 2) : rankV (rankedV n) = n := by
  rcases h with rfl | rfl | rfl <;> simp [rankedV, rankV, truth]
theorem rank_vals (a : V) (h : RB a) : rankV a = 0 ∨ rankV a = 1 ∨ rankV a = 2 := by
  have := rank_bd a h
  omega
theorem rank_and (a b : V) (ha : RB a) (hb : RB b) : rankV (andV a b) = minI (rankV a) (rankV b) := by
  have h1 := rank_vals a ha
  have h2 := rank_vals b hb
  refine rank_ranked _ ?_
  unfold minI
  split <;> omega
theorem rank_or (a b : V) (ha : RB a) (hb : RB b) : rankV (orV a b) = maxI (rankV a) (rankV b) := by
  have h1 := rank_vals a ha
  have h2 := rank_vals b hb
  refine rank_ranked _ ?_
  unfold maxI
  split <;> omega
theorem rank_not (a : V) (ha : RB a) : rankV (notV a) = 2 - rankV a := by
  have h1 := rank_vals a ha
  refine rank_ranked _ ?_
  omega

/-- Kleene's logic. -/
structure Kleene (a b c : V) : Prop where
  c1 : andV b a = andV a b
  c2 : orV b a = orV a b
  a1 : andV (andV a b) c = andV a (andV b c)
  a2 : orV (orV a b) c = orV a (orV b c)
  d1 : orV (andV a b) (andV a c) = andV a (orV b c)
  d2 : andV (orV a b) (orV a c) = orV a (andV b c)
  n1 : orV (notV a) (notV b) = notV (andV a b)
  n2 : andV (notV a) (notV b) = notV (orV a b)
  n3 : notV (notV (notV a)) = notV a
theorem kleene (a b c : V) (ha : RB a) (hb : RB b) (hc : RB c) : Kleene a b c := by
  have h1 := rank_vals a ha
  have h2 := rank_vals b hb
  have h3 := rank_vals c hc
  have eA : ∀ x y, andV x y = rankedV (minI (rankV x) (rankV y)) := fun _ _ => rfl
  have eO : ∀ x y, orV x y = rankedV (maxI (rankV x) (rankV y)) := fun _ _ => rfl
  have eN : ∀ x, notV x = rankedV (2 - rankV x) := fun _ => rfl
  constructor
  · rw [eA, eA]; congr 1; unfold minI; repeat' split
    all_goals omega
  · rw [eO, eO]; congr 1; unfold maxI; repeat' split
    all_goals omega
  · rw [eA (andV a b), eA a (andV b c), rank_and a b ha hb, rank_and b c hb hc]; congr 1; unfold minI; repeat' split
    all_goals omega
  · rw [eO (orV a b), eO a (orV b c), rank_or a b ha hb, rank_or b c hb hc]; congr 1; unfold maxI; repeat' split
    all_goals omega
  · rw [eO (andV a b), eA a (orV b c), rank_and a b ha hb, rank_and a c ha hc, rank_or b c hb hc]; congr 1; unfold maxI minI; repeat' split
    all_goals omega
  · rw [eA (orV a b), eO a (andV b c), rank_or a b ha hb, rank_or a c ha hc, rank_and b c hb hc]; congr 1; unfold maxI minI; repeat' split
    all_goals omega
  · rw [eO (notV a), eN (andV a b), rank_not a ha, rank_not b hb, rank_and a b ha hb]; congr 1; unfold maxI minI; repeat' split
    all_goals omega
  · rw [eA (notV a), eN (orV a b), rank_not a ha, rank_not b hb, rank_or a b ha hb]; congr 1; unfold maxI minI; repeat' split
    all_goals omega
  · rw [eN (notV (notV a)), rank_not (notV a) (rb_not _), rank_not a ha, eN a]; congr 1; omega

theorem vsl2 {w : World} {g : Nat} {t : TypeId} {a b : V} (h : Blk w g t #[.int .i64 a.k, .int .i64 a.n, .string a.s, .int .i64 b.k, .int .i64 b.n, .string b.s]) : VSl w (some ⟨g, 0, none⟩) [a, b] := by
  intro i x hx
  match i, hx with
  | 0, hx => simp at hx; subst hx; exact ⟨g, 0, rfl, h.cells rfl, h.cells rfl, h.cells rfl⟩
  | 1, hx => simp at hx; subst hx; exact ⟨g, 0, rfl, h.cells rfl, h.cells rfl, h.cells rfl⟩
theorem vsl3 {w : World} {g : Nat} {t : TypeId} {a b c : V} (h : Blk w g t #[.int .i64 a.k, .int .i64 a.n, .string a.s, .int .i64 b.k, .int .i64 b.n, .string b.s, .int .i64 c.k, .int .i64 c.n, .string c.s]) : VSl w (some ⟨g, 0, none⟩) [a, b, c] := by
  intro i x hx
  match i, hx with
  | 0, hx => simp at hx; subst hx; exact ⟨g, 0, rfl, h.cells rfl, h.cells rfl, h.cells rfl⟩
  | 1, hx => simp at hx; subst hx; exact ⟨g, 0, rfl, h.cells rfl, h.cells rfl, h.cells rfl⟩
  | 2, hx => simp at hx; subst hx; exact ⟨g, 0, rfl, h.cells rfl, h.cells rfl, h.cells rfl⟩
theorem right3 (a b c : V) (g cap : Nat) (w : World) (t : TypeId) (h : Blk w g t #[.int .i64 a.k, .int .i64 a.n, .string a.s, .int .i64 b.k, .int .i64 b.n, .string b.s, .int .i64 c.k, .int .i64 c.n, .string c.s]) :
    Calls Try.prog 25 #[.slice (some ⟨g, 0, none⟩) 3 cap] w fun e w' => e = .returned (.bool ([a, b, c].all rightB)) ∧ Grow w w' := right_any [a, b, c] _ cap w (by simp) (vsl3 h)
theorem right2 (a b : V) (g cap : Nat) (w : World) (t : TypeId) (h : Blk w g t #[.int .i64 a.k, .int .i64 a.n, .string a.s, .int .i64 b.k, .int .i64 b.n, .string b.s]) :
    Calls Try.prog 25 #[.slice (some ⟨g, 0, none⟩) 2 cap] w fun e w' => e = .returned (.bool ([a, b].all rightB)) ∧ Grow w w' := right_any [a, b] _ cap w (by simp) (vsl2 h)

theorem knows_fn (g : Nat) (x y n : V) (w : World) (t : TypeId) (h : Blk w g t #[.int .i64 n.k, .int .i64 n.n, .string n.s]) :
    Calls Try.prog 40 #[x.val, y.val, .pointer (some ⟨g, 0, none⟩)] w fun e w' => e = .returned (.bool (eqB x n || eqB x y)) ∧ Grow w w' := by
  have heq := run_eqlV
  obtain ⟨c, f⟩ := h.rules
  have hlt := h.lt
  unfold V.val
  go_enter Try.func40, Try.ntmps40
  go_wp2
  all_goals
    go_ret
    refine ret_bool ?_ (by repeat (first | (with_reducible exact Grow.refl _) | (with_reducible assumption) | (with_reducible refine Grow.set ?_ (by first | (simp; done) | (simp; omega)) _) | (with_reducible refine Grow.al ?_ _) | (with_reducible refine Grow.drew ?_) | (with_reducible refine Grow.drewN ?_ _) | (with_reducible refine Grow.trans ?_ (by assumption))))
    simp [*]

theorem not' (v : V) (h : RB v) (w : World) : Calls Try.prog 33 #[v.val] w fun e w' => e = .returned (notV v).val ∧ Grow w w' := not_any v h w

theorem alive_facts : reckonV 43 (numV 2) (numV 3) = numV 5 ∧ cmpV (numV 2) (numV 3) = -1 ∧ notV (truth true) = truth false := by
  refine ⟨?_, ?_, ?_⟩
  · simp [reckonV, numV, intV]
  · simp [cmpV, or3, numV, bare, cmpI]
  · simp [notV, rankV, truth, rankedV]
theorem rv_num (n : Int) (h1 : -1000000000000000 ≤ n) (h2 : n ≤ 1000000000000000) : RV (numV n) := ⟨.inr (.inr (.inl rfl)), fun h => by simp [numV] at h, fun _ => ⟨h1, h2⟩, fun h => by simp [numV] at h⟩
set_option maxRecDepth 100000 in
theorem alive1 (w : World) : Calls Try.prog 28 #[] w fun e w' => e = .returned (.bool true) ∧ Grow w w' := by
  have heq := run_eqlV
  obtain ⟨f1, f2, f3⟩ := alive_facts
  have r2 := rv_num 2 (by omega) (by omega)
  have r3 := rv_num 3 (by omega) (by omega)
  go_enter Try.func28, Try.ntmps28
  have hg := Grow.refl w
  go_wp2_with (first | (go_at_call 29; ((with_reducible refine (num_any _ _).mono ?_); rintro e w2' ⟨rfl, hg2⟩; replace hg := hg.trans hg2; clear hg2)) | (go_at_call 30; ((with_reducible refine (reckon_any _ _ _ r2 r3 _).mono ?_); rintro e w2' ⟨rfl, hg2⟩; replace hg := hg.trans hg2; clear hg2)) | (go_at_call 34; ((with_reducible refine (compare_any _ _ _).mono ?_); rintro e w2' ⟨rfl, hg2⟩; replace hg := hg.trans hg2; clear hg2)) | (go_at_call 97; ((with_reducible refine (bool_any _ _).mono ?_); rintro e w2' ⟨rfl, hg2⟩; replace hg := hg.trans hg2; clear hg2)) | (go_at_call 33; ((with_reducible refine (not' _ (rb_truth _) _).mono ?_); rintro e w2' ⟨rfl, hg2⟩; replace hg := hg.trans hg2; clear hg2)))
  go_ret
  exact ⟨rfl, hg⟩
end Go.Proofs.Ytjhcbehnopmnpaa
