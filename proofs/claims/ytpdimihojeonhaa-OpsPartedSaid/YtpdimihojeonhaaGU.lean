/-
  Joined texts of this claim: FoldP. What each proves its own head says; no condition beside those that each theorem names.
-/
import Derived.Test.YtpdimihojeonhaaGT
import Derived.Test.YtpdimihojeonhaaHLawOLinear
/-
  Sums of many sets, plainly; OpsBilinear's inner function.
-/
namespace Go.Proofs.Ytpdimihojeonhaa
open Go.RowKit Go.Calm
set_option linter.unusedSimpArgs false
set_option linter.unusedVariables false

/-- a set and more sets, added one after another -/
def foldP : List Z → List (List Z) → List Z → Prop
  | s, [], t => s = t
  | s, p :: ps, t => ∃ m, bothZ s p 1 = (m, 0) ∧ foldP m ps t
theorem foldP_snoc : ∀ {ps : List (List Z)} {s t p m : List Z}, foldP s ps t → bothZ t p 1 = (m, 0) → foldP s (ps ++ [p]) m
  | [], s, t, p, m, h, hb => by
    have h : s = t := h
    subst h
    exact ⟨m, hb, rfl⟩
  | q :: ps, s, t, p, m, ⟨r, hr, h⟩, hb => ⟨r, hr, foldP_snoc h hb⟩
/-- a set that came, and whether all is well -/
def GivesB (w w' : World) (e : Ending) (r : List Z × Int) : Prop := ∃ (B : Option Addr) (ys : List I) (cap : Nat), e = .returned (.tuple #[.slice B ys.length cap, .bool (decide (r.2 = 0))]) ∧ In w' ⟨B, ys, cap⟩ ∧ ys.map zOf = r.1 ∧ Grow w w'
set_option maxRecDepth 100000 in
theorem bil1_any (l r : L2 Int) (x : E) (a b : S) (g1 g2 g3 : Nat) (w : World) (hll : l.xs.length ≤ 140737488355328) (hlr : r.xs.length ≤ 140737488355328) (hl : ISl w l.A l.xs) (hr : ISl w r.A r.xs) (hx : EX w x) (ha : In w a) (hb : In w b) (B1 : Blk w g1 22 #[.slice l.A l.xs.length l.cap]) (B2 : Blk w g2 22 #[.slice r.A r.xs.length r.cap]) (B3 : Blk w g3 27 (exCells x)) :
    Calls Try.prog 10 #[.slice a.A a.xs.length a.cap, .slice b.A b.xs.length b.cap, .pointer (some ⟨g1, 0, none⟩), .pointer (some ⟨g2, 0, none⟩), .pointer (some ⟨g3, 0, none⟩)] w fun en w' => GivesB w w' en (joinZ l.xs r.xs x a.z b.z) := by
  have cf := (ojoin_any l r x a b w hll hlr hl hr hx ha hb).mono (fun e w' h => Gives.i h (join_sml l.xs r.xs x a.z b.z))
  obtain ⟨b1, f1⟩ := B1.rules
  obtain ⟨b2, f2⟩ := B2.rules
  obtain ⟨b3, f3⟩ := B3.rules
  generalize joinZ l.xs r.xs x a.z b.z = R at *
  obtain ⟨R, e⟩ := R
  clear hl hr hx ha hb B1 B2 B3
  unfold E.val at cf
  go_enter Try.func10, Try.ntmps10
  by_cases h0 : e = 0
  · have d0 : (e == 0) = true := by simpa using h0
    go_wp2_with (go_at_call 11; ((with_reducible refine cf.mono ?_); rintro en w2 ⟨B, ys, cap, rfl, hi, hm, hg⟩; have Out := Lib.hid (And.intro hi (And.intro hm hg)); clear hi hm))
    refine bodyPost_ret (by simp [results, Try.results10, go_sem] <;> rfl) rfl ?_
    exact ⟨B, ys, cap, by simp [h0], Out.out.1, Out.out.2.1, Out.out.2.2⟩
  · have d0 : (e == 0) = false := by simpa using h0
    go_wp2_with (go_at_call 11; ((with_reducible refine cf.mono ?_); rintro en w2 ⟨B, ys, cap, rfl, hi, hm, hg⟩; have Out := Lib.hid (And.intro hi (And.intro hm hg)); clear hi hm))
    refine bodyPost_ret (by simp [results, Try.results10, go_sem] <;> rfl) rfl ?_
    exact ⟨B, ys, cap, by simp [h0], Out.out.1, Out.out.2.1, Out.out.2.2⟩
/-- like plus_any, the flag told -/
theorem plus_b (a b : S) (w : World) (ha : In w a) (hb : In w b) (p : List Z) (e : Int) (f : Bool) (h : bothZ a.z b.z 1 = (p, e)) (hf : decide (e = 0) = f) :
    Calls Try.prog 9 #[.slice a.A a.xs.length a.cap, .slice b.A b.xs.length b.cap] w fun en w' => ∃ (B : Option Addr) (ys : List I) (cap : Nat), en = .returned (.tuple #[.slice B ys.length cap, .bool f]) ∧ In w' ⟨B, ys, cap⟩ ∧ ys.map zOf = p ∧ Grow w w' := by
  have := plus_any a b w ha hb
  rw [h] at this
  simp only [hf] at this
  exact this
theorem bil1_b (l r : L2 Int) (x : E) (a b : S) (g1 g2 g3 : Nat) (w : World) (hll : l.xs.length ≤ 140737488355328) (hlr : r.xs.length ≤ 140737488355328) (hl : ISl w l.A l.xs) (hr : ISl w r.A r.xs) (hx : EX w x) (ha : In w a) (hb : In w b) (B1 : Blk w g1 22 #[.slice l.A l.xs.length l.cap]) (B2 : Blk w g2 22 #[.slice r.A r.xs.length r.cap]) (B3 : Blk w g3 27 (exCells x)) (p : List Z) (e : Int) (f : Bool) (h : joinZ l.xs r.xs x a.z b.z = (p, e)) (hf : decide (e = 0) = f) :
    Calls Try.prog 10 #[.slice a.A a.xs.length a.cap, .slice b.A b.xs.length b.cap, .pointer (some ⟨g1, 0, none⟩), .pointer (some ⟨g2, 0, none⟩), .pointer (some ⟨g3, 0, none⟩)] w fun en w' => ∃ (B : Option Addr) (ys : List I) (cap : Nat), en = .returned (.tuple #[.slice B ys.length cap, .bool f]) ∧ In w' ⟨B, ys, cap⟩ ∧ ys.map zOf = p ∧ Grow w w' := by
  have := bil1_any l r x a b g1 g2 g3 w hll hlr hl hr hx ha hb B1 B2 B3
  rw [h] at this
  unfold GivesB at this
  simp only [hf] at this
  exact this
theorem flag_zero {e : Int} {f : Bool} (h : decide (e = 0) = f) (hf : f = true) : e = 0 := of_decide_eq_true (h.trans hf)
end Go.Proofs.Ytpdimihojeonhaa
