/-
  Joined texts of this claim: Zs7, Zs11, Zs12, Zs13, Zs14, Zs16, Zs15. What each proves its own head says; no condition beside those that each theorem names.
-/
import Derived.Test.YtpgpecdiajmgmaaGH
import Derived.Deep.DeepCutAuto
import Derived.Laws.AppendOwnNone
import Derived.Test.YtpgpecdiajmgmaaGI
import Derived.Lib.AppendZeros
namespace Go.Proofs.Ytpgpecdiajmgmaa
open Go.RowKit Go.Calm
set_option linter.unusedSimpArgs false
set_option linter.unusedVariables false

end Go.Proofs.Ytpgpecdiajmgmaa

namespace Go.Proofs.Ytpgpecdiajmgmaa
open Go.RowKit Go.Calm
set_option linter.unusedSimpArgs false
set_option linter.unusedVariables false

theorem own_types {w : World} {b1 b2 n1 n2 s1 s2 : Nat} {e1 e2 : TypeId} {v1 v2 : Value} {x1 x2 : List Value} (h1 : w.ownsRow b1 e1 s1 v1 n1 x1) (h2 : w.ownsRow b2 e2 s2 v2 n2 x2) (hne : e1 ≠ e2) : v1.ownBlock = none ∨ v1.ownBlock ≠ v2.ownBlock := by
  rcases h1.2 with ⟨rfl, _⟩ | ⟨g, cap, cur, rfl, hB, hgb, _⟩
  · exact .inl rfl
  · right
    rcases h2.2 with ⟨rfl, _⟩ | ⟨g', cap', cur', rfl, hB', hgb', _⟩
    · simp [Value.ownBlock]
    · intro e
      simp [Value.ownBlock] at e
      subst e
      rw [hgb] at hgb'
      simp at hgb'
      exact hne hgb'.2
end Go.Proofs.Ytpgpecdiajmgmaa

namespace Go.Proofs.Ytpgpecdiajmgmaa
open Go.RowKit Go.Calm
set_option linter.unusedSimpArgs false
set_option linter.unusedVariables false

theorem addr_add (g o j : Nat) : (⟨g, o, none⟩ : Addr).add j = ⟨g, o + j, none⟩ := by
  unfold Addr.add
  split
  · rename_i h0; subst h0; rfl
  · rfl
def Src (w : World) (src : Value) (L : List I) : Prop := (src = .slice none 0 0 ∧ L = []) ∨ ∃ ad c, src = .slice (some ad) L.length c ∧ ∀ j u, (flatI L)[j]? = some u → w.cell? (ad.add j) = some u
theorem Src.grow {w w' : World} {src : Value} {L : List I} (h : Src w src L) (hg : Grow w w') : Src w' src L := by
  rcases h with h | ⟨ad, c, e, h⟩
  · exact .inl h
  · exact .inr ⟨ad, c, e, fun j u hj => hg.cell (h j u hj)⟩
theorem grow_own {w wr w' : World} {v : Value} (hg : Grow w wr) (h : wr.grownBy w' v.ownBlock) {e : TypeId} {s n : Nat} {xs : List Value} (hown : wr.ownsRow w.heap.size e s v n xs) : Grow w w' := by
  refine Grow.own hg h (fun i hi => ?_)
  rcases hown.2 with ⟨rfl, _⟩ | ⟨g, cap, cur, rfl, hB, _⟩
  · cases hi
  · simp [Value.ownBlock] at hi; omega
end Go.Proofs.Ytpgpecdiajmgmaa

namespace Go.Proofs.Ytpgpecdiajmgmaa
open Go.RowKit Go.Calm
set_option linter.unusedSimpArgs false
set_option linter.unusedVariables false

end Go.Proofs.Ytpgpecdiajmgmaa

namespace Go.Proofs.Ytpgpecdiajmgmaa
open Go.RowKit Go.Calm
set_option linter.unusedSimpArgs false
set_option linter.unusedVariables false

structure S where
  A : Option Addr
  xs : List I
  cap : Nat
instance : Inhabited S := ⟨⟨none, [], 0⟩⟩
def S.z (s : S) : List Z := s.xs.map zOf
def SIn (w : World) (A : Option Addr) (ss : List S) : Prop := ∀ i s, ss[i]? = some s → ∃ g o, A = some ⟨g, o, none⟩ ∧ w.cell? ⟨g, o + i, none⟩ = some (.slice s.A s.xs.length s.cap) ∧ ZIn w s.A s.xs
theorem SIn.grow {w w' : World} {A : Option Addr} {ss : List S} (h : SIn w A ss) (hg : Grow w w') : SIn w' A ss := fun i s hs => by
  obtain ⟨g, o, hA, a, b⟩ := h i s hs
  exact ⟨g, o, hA, hg.cell a, b.grow hg⟩
def S.ok (s : S) : Prop := s.xs.length ≤ 9223372036854775807 ∧ ∀ x ∈ s.xs, x.row.length ≤ 9223372036854775807

def fl (ss : List S) : List I := ss.flatMap S.xs
end Go.Proofs.Ytpgpecdiajmgmaa

namespace Go.Proofs.Ytpgpecdiajmgmaa
open Go.RowKit Go.Calm
set_option linter.unusedSimpArgs false
set_option linter.unusedVariables false

def Pl (l : List Z) : Prop := (∀ x ∈ l, x.1.length ≤ 1000 ∧ ∀ v ∈ x.1, RV v) ∧ bdZ 1000000 l
theorem Pl.snoc {l : List Z} {x : Z} (h : Pl l) (h1 : x.1.length ≤ 1000) (h2 : ∀ v ∈ x.1, RV v) (h3 : -1000000 ≤ x.2 ∧ x.2 ≤ 1000000) : Pl (l ++ [x]) := by
  refine ⟨fun y hy => ?_, fun y hy => ?_⟩
  · rcases List.mem_append.1 hy with hy | hy
    · exact h.1 y hy
    · simp at hy; subst hy; exact ⟨h1, h2⟩
  · rcases List.mem_append.1 hy with hy | hy
    · exact h.2 y hy
    · simp at hy; subst hy; exact h3
theorem Pl.nil : Pl [] := ⟨fun x hx => by simp at hx, fun x hx => by simp at hx⟩
structure PutSt (w wr : World) (t : Value) (l : List Z) : Prop where
  sl : ∃ (B : Option Addr) (ys : List I) (cap : Nat), t = .slice B ys.length cap ∧ ZIn wr B ys ∧ ys.map zOf = setZ l ∧ SlOk B ys.length cap
  grow : Grow w wr
  pl : Pl l
theorem PutSt.nil (w wr : World) (hg : Grow w wr) : PutSt w wr (.slice none 0 0) [] := ⟨⟨none, [], 0, rfl, zin_nil _ _, rfl, SlOk.nil⟩, hg, Pl.nil⟩
end Go.Proofs.Ytpgpecdiajmgmaa

namespace Go.Proofs.Ytpgpecdiajmgmaa
open Go.RowKit Go.Calm
set_option linter.unusedSimpArgs false
set_option linter.unusedVariables false

structure In (w : World) (s : S) : Prop where
  z : ZIn w s.A s.xs
  sl : SlOk s.A s.xs.length s.cap
  ok : s.ok
theorem In.grow {w w' : World} {s : S} (h : In w s) (hg : Grow w w') : In w' s := ⟨h.z.grow hg, h.sl, h.ok⟩
def S.v (s : S) : Value := .slice s.A s.xs.length s.cap

theorem DV.kept {w w' : World} {base n g : Nat} {v : Value} {xs : List Value} {r : List V} (h : DV w g r) (hown : w.ownsRow base 51 2 v n xs) (hg : w.grownBy w' v.ownBlock) : DV w' g r := by
  have h1 := hg.block g h.lt (fun e => by
    rcases hown.2 with ⟨rfl, _⟩ | ⟨g', cap, cur, rfl, _, hgb, _⟩
    · simp [Value.ownBlock] at e
    · simp [Value.ownBlock] at e
      subst e
      have h2 : w.heap[g]? = some (.cells (flatW r).toArray 24 (0, 0)) := h
      rw [hgb] at h2
      simp at h2)
  exact h1.trans h
end Go.Proofs.Ytpgpecdiajmgmaa
