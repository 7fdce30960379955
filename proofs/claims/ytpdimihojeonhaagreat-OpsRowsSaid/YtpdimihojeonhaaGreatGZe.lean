/-
  Joined texts of this claim: Zs22. What each proves its own head says; no condition beside those that each theorem names.
-/
import Derived.Test.YtpdimihojeonhaaGreatGJ
namespace Go.Proofs.YtpdimihojeonhaaGreat
open Go.RowKit Go.Calm
set_option linter.unusedSimpArgs false
set_option linter.unusedVariables false

def PlB (l : List Z) : Prop := (∀ x ∈ l, x.1.length ≤ 1000 ∧ ∀ v ∈ x.1, RV v) ∧ bdZ 1000000000000 l
theorem PlB.snoc {l : List Z} {x : Z} (h : PlB l) (h1 : x.1.length ≤ 1000) (h2 : ∀ v ∈ x.1, RV v) (h3 : -1000000000000 ≤ x.2 ∧ x.2 ≤ 1000000000000) : PlB (l ++ [x]) := by
  refine ⟨fun y hy => ?_, fun y hy => ?_⟩
  · rcases List.mem_append.1 hy with hy | hy
    · exact h.1 y hy
    · simp at hy; subst hy; exact ⟨h1, h2⟩
  · rcases List.mem_append.1 hy with hy | hy
    · exact h.2 y hy
    · simp at hy; subst hy; exact h3
theorem PlB.nil : PlB [] := ⟨fun x hx => by simp at hx, fun x hx => by simp at hx⟩
structure PutSb (w wr : World) (t : Value) (l : List Z) : Prop where
  sl : ∃ (B : Option Addr) (ys : List I) (cap : Nat), t = .slice B ys.length cap ∧ ZIn wr B ys ∧ ys.map zOf = setZ l ∧ SlOk B ys.length cap
  grow : Grow w wr
  pl : PlB l
theorem PutSb.nil (w wr : World) (hg : Grow w wr) : PutSb w wr (.slice none 0 0) [] := ⟨⟨none, [], 0, rfl, zin_nil _ _, rfl, SlOk.nil⟩, hg, PlB.nil⟩
theorem PutSb.more {w wr wq : World} {t : Value} {l : List Z} (h : PutSb w wr t l) (hg : Grow wr wq) : PutSb w wq t l := by
  obtain ⟨⟨B, ys, cap, h1, h2, h3, h4⟩, h5, h6⟩ := h
  exact ⟨⟨B, ys, cap, h1, h2.grow hg, h3, h4⟩, h5.trans hg, h6⟩
theorem PutSb.slice {w wr : World} {t : Value} {l : List Z} (h : PutSb w wr t l) : ∃ (B : Option Addr) (n cap : Nat), t = .slice B n cap := by
  obtain ⟨⟨B, ys, cap, h1, _⟩, _⟩ := h
  exact ⟨B, _, cap, h1⟩
theorem put_stepb {w wr : World} {t : Value} {l : List Z} (h : PutSb w wr t l) (row : List V) (Ar : Option Addr) (cr : Nat) (n : Int) (hx : VSl wr Ar row) (hl : row.length ≤ 1000) (hr : ∀ v ∈ row, RV v) (hn : -1000000000000 ≤ n ∧ n ≤ 1000000000000) (hlen : l.length ≤ 200000) :
    Calls Tryz.prog 29 #[t, .slice Ar row.length cr, .int .i64 n] wr fun en w' => ∃ v, en = .returned v ∧ PutSb w w' v (l ++ [(row, n)]) ∧ Grow wr w' := by
  obtain ⟨⟨B, ys, cap, rfl, hz, hm, hk⟩, hg, hp⟩ := h
  have hlen2 : ys.length ≤ 200000 := by
    have h1 := congrArg List.length hm
    have h2 := setZ_len l
    simp at h1
    omega
  have hrow : ∀ x ∈ ys, x.row.length ≤ 1000 := fun x hx => by
    have h1 : zOf x ∈ setZ l := by rw [← hm]; exact List.mem_map_of_mem hx
    obtain ⟨u, hu, e⟩ := setZ_mem h1
    have := (hp.1 u hu).1
    have e2 : x.row = bareR u.1 := e
    rw [e2]
    simpa [bareR] using this
  have hw : ∀ x ∈ ys, -2000000000000000000 ≤ x.w ∧ x.w ≤ 2000000000000000000 := fun x hx => by
    have h1 : zOf x ∈ setZ l := by rw [← hm]; exact List.mem_map_of_mem hx
    have h2 := setZ_bd (by omega) hp.2 _ h1
    simp only [zOf] at h2
    omega
  refine (put_any ys B cap row Ar cr n wr hlen2 hk hz hrow hw hl hr hx (by omega)).mono ?_
  rintro en w' ⟨C, zs, cap2, rfl, hz2, hm2, hk2, hg2⟩
  exact ⟨_, rfl, ⟨⟨C, zs, cap2, rfl, hz2, by rw [hm2, hm, setZ_snoc], hk2⟩, hg.trans hg2, hp.snoc hl hr hn⟩, hg2⟩
end Go.Proofs.YtpdimihojeonhaaGreat
