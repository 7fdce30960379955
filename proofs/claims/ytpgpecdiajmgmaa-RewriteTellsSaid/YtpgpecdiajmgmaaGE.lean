/-
  Joined texts of this claim: Srt, Srt1, Srt2, Srt3, Srt4, Srt5, Srt6. What each proves its own head says; no condition beside those that each theorem names.
-/
import Derived.Test.YtpgpecdiajmgmaaGB
import Derived.Test.YtpgpecdiajmgmaaGA
import Derived.Shelf.SlicesQ.Reverse
import Derived.Deep.DeepCutAuto
namespace Go.Proofs.Ytpgpecdiajmgmaa
open Go.RowKit Go.Calm
set_option linter.unusedSimpArgs false
set_option linter.unusedVariables false

structure I where
  A : Option Addr
  row : List V
  cap : Nat
  w : Int
instance : Inhabited I := ⟨⟨none, [], 0, 0⟩⟩
abbrev I.val (x : I) : Value := .agg #[.slice x.A x.row.length x.cap, .int .i64 x.w]
def flatI : List I → List Value
  | [] => []
  | x :: xs => .slice x.A x.row.length x.cap :: .int .i64 x.w :: flatI xs
theorem flatI_get : ∀ (xs : List I) (i : Nat) (x : I), xs[i]? = some x → (flatI xs)[i * 2]? = some (.slice x.A x.row.length x.cap) ∧ (flatI xs)[i * 2 + 1]? = some (.int .i64 x.w)
  | [], i, x, h => by simp at h
  | y :: ys, 0, x, h => by simp at h; subst h; simp [flatI]
  | y :: ys, i + 1, x, h => by
    have := flatI_get ys i x (by simpa using h)
    rw [show (i + 1) * 2 = i * 2 + 2 by omega]
    simpa [flatI] using this
theorem flatI_set : ∀ (xs : List I) (i : Nat) (y : I), i < xs.length → ((flatI xs).set (i * 2) (.slice y.A y.row.length y.cap)).set (i * 2 + 1) (.int .i64 y.w) = flatI (xs.set i y)
  | [], i, y, h => by simp at h
  | x :: xs, 0, y, h => by simp [flatI]
  | x :: xs, i + 1, y, h => by
    have := flatI_set xs i y (by simpa using h)
    rw [show (i + 1) * 2 = i * 2 + 1 + 1 by omega]
    simp only [flatI, List.set_cons_succ]
    rw [← this]
def DB (w : World) (g : Nat) (xs : List I) : Prop := Blk w g 51 (flatI xs).toArray
theorem DB.lt {w : World} {g : Nat} {xs : List I} (h : DB w g xs) : g < w.heap.size := Blk.lt h
theorem DB.at {w : World} {g : Nat} {xs : List I} (h : DB w g xs) {i : Nat} {x : I} (hx : xs[i]? = some x) : w.cell? ⟨g, i * 2, none⟩ = some (.slice x.A x.row.length x.cap) ∧ w.cell? ⟨g, i * 2 + 1, none⟩ = some (.int .i64 x.w) := by
  obtain ⟨a, b⟩ := flatI_get xs i x hx
  rw [Blk.cell h, Blk.cell h]
  exact ⟨by simpa using a, by simpa using b⟩
theorem DB.frozen {w : World} {g : Nat} {xs : List I} (h : DB w g xs) (i : Nat) : w.frozen? ⟨g, i, none⟩ = false := Blk.frozen h i
theorem DB.grow {w w' : World} {g : Nat} {xs : List I} (h : DB w g xs) (hg : Grow w w') : DB w' g xs := Blk.grow h hg
theorem DB.put {w : World} {g : Nat} {xs : List I} (h : DB w g xs) {i : Nat} (hi : i < xs.length) (y : I) : DB ((w.setCell ⟨g, i * 2, none⟩ (.slice y.A y.row.length y.cap)).setCell ⟨g, i * 2 + 1, none⟩ (.int .i64 y.w)) g (xs.set i y) := by
  have hb := ((Blk.set h (i * 2) (.slice y.A y.row.length y.cap)).set (i * 2 + 1) (.int .i64 y.w))
  unfold DB
  rw [← flatI_set xs i y hi]
  simpa using hb
theorem GX.put {g : Nat} {a b : World} (h : GX g a b) (i : Nat) (u v : Value) (j : Nat) : GX g a ((b.setCell ⟨g, i, none⟩ u).setCell ⟨g, j, none⟩ v) := (h.set _ _).set _ _

end Go.Proofs.Ytpgpecdiajmgmaa

namespace Go.Proofs.Ytpgpecdiajmgmaa
open Go.RowKit Go.Calm
set_option linter.unusedSimpArgs false
set_option linter.unusedVariables false

end Go.Proofs.Ytpgpecdiajmgmaa

namespace Go.Proofs.Ytpgpecdiajmgmaa
open Go.RowKit Go.Calm
set_option linter.unusedSimpArgs false
set_option linter.unusedVariables false

end Go.Proofs.Ytpgpecdiajmgmaa

namespace Go.Proofs.Ytpgpecdiajmgmaa
open Go.RowKit Go.Calm
set_option linter.unusedSimpArgs false
set_option linter.unusedVariables false

def cmpR (x y : I) : Int := rowsG cmpV x.row y.row
structure Good (g : Nat) (w0 : World) (x : I) : Prop where
  sl : ∀ W, GX g w0 W → VSl W x.A x.row
  len : x.row.length ≤ 9223372036854775807
  rv : ∀ v ∈ x.row, RV v
theorem rowsG_trans' : ∀ xs ys zs : List V, rowsG ordV xs ys ≤ 0 → rowsG ordV ys zs ≤ 0 → rowsG ordV xs zs ≤ 0
  | [], ys, [], _, _ => by simp [rowsG]
  | [], ys, z :: zs, _, _ => by simp [rowsG]
  | x :: xs, [], zs, h, _ => by simp [rowsG] at h
  | x :: xs, y :: ys, [], _, h => by simp [rowsG] at h
  | x :: xs, y :: ys, z :: zs, h1, h2 => by
    have r1 := ordV_range x y
    have r2 := ordV_range y z
    have r3 := ordV_range x z
    have t1 := ordV_trans x y z
    have t2 := ordV_trans z x y
    have t3 := ordV_trans y z x
    have s1 := ordV_swap x y
    have s2 := ordV_swap y z
    have s3 := ordV_swap x z
    have ih := rowsG_trans' xs ys zs
    unfold rowsG at h1 h2 ⊢
    split at h1 <;> split at h2 <;> split <;> omega
abbrev Up (L : List I) : Prop := L.Pairwise (fun x y => cmpR x y ≤ 0)

end Go.Proofs.Ytpgpecdiajmgmaa

namespace Go.Proofs.Ytpgpecdiajmgmaa
open Go.RowKit Go.Calm
set_option linter.unusedSimpArgs false
set_option linter.unusedVariables false

theorem DB.drew {w : World} {g : Nat} {xs : List I} (h : DB w g xs) : DB w.drew g xs := h
end Go.Proofs.Ytpgpecdiajmgmaa

namespace Go.Proofs.Ytpgpecdiajmgmaa
open Go.RowKit Go.Calm
set_option linter.unusedSimpArgs false
set_option linter.unusedVariables false

end Go.Proofs.Ytpgpecdiajmgmaa

namespace Go.Proofs.Ytpgpecdiajmgmaa
open Go.RowKit Go.Calm
set_option linter.unusedSimpArgs false
set_option linter.unusedVariables false

end Go.Proofs.Ytpgpecdiajmgmaa
