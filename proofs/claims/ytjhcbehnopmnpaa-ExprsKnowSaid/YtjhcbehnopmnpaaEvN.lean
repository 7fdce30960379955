/-
  exprs.Of: is null.
-/
import Derived.Test.YtjhcbehnopmnpaaEvW
namespace Go.Proofs.Ytjhcbehnopmnpaa
open Go.RowKit Go.Calm
set_option linter.unusedSimpArgs false
set_option linter.unusedVariables false

set_option maxRecDepth 100000 in
set_option maxHeartbeats 4000000 in
theorem of_null (row : List V) (A : Option Addr) (cr : Nat) (gx ox : Nat) (w0 w : World) (hrow : VSl w0 A row) (hg : Grow w0 w) (e : E) (hx : ECells w0 gx ox e) (hk : e.kind = 16) (a : V) (K0 : ∀ W, Vars W w.heap.size gx ox A row.length cr → Grow w W → Calls Try.prog 146 #[.int .i64 0, .pointer (some ⟨w.heap.size, 0, none⟩), .pointer (some ⟨w.heap.size + 1, 0, none⟩)] W fun en w' => en = .returned a.val ∧ Grow W w') :
    Calls Try.prog 111 #[.pointer (some ⟨gx, ox, none⟩), .slice A row.length cr] w fun en w' => en = .returned (truth (a.k == 1)).val ∧ Grow w w' := by
  unfold V.val at K0
  have hfd : ∀ W : World, (Instr.field 29 (.agg #[.int .i64 a.k, .int .i64 a.n, .string a.s]) 0).run Try.prog W = .ok (.int .i64 a.k) W := fun _ => by kernel_rfl
  go_enter Try.func111, Try.ntmps111
  go_upto_region 2 with fail
  refine wp_forget (fun W => Vars W w.heap.size gx ox A row.length cr ∧ Grow w W) ⟨⟨((Blk.new _ _ _).al _).al _, (Blk.new' _ _ _ (by simp)).al _, Blk.new' _ _ _ (by simp)⟩, (by repeat (first | (with_reducible exact Grow.refl _) | (with_reducible assumption) | (with_reducible refine Grow.set ?_ (by first | (simp; done) | (simp; omega)) _) | (with_reducible refine Grow.al ?_ _) | (with_reducible refine Grow.drew ?_) | (with_reducible refine Grow.drewN ?_ _) | (with_reducible refine Grow.trans ?_ (by assumption))))⟩ ?_
  rintro W ⟨X, G⟩
  have hx0 := (hx.grow (hg.trans G)).c0
  rw [hk] at hx0
  clear hx hk
  obtain ⟨x1, y1⟩ := X.b1.rules
  obtain ⟨x2, y2⟩ := X.b2.rules
  obtain ⟨x3, y3⟩ := X.b3.rules
  go_wp2_with (first | (go_at_call 146; ((with_reducible refine (K0 _ X G).mono ?_); rintro en w2 ⟨rfl, hg2⟩; replace X := X.grow hg2; replace G := G.trans hg2; clear hg2 x1 y1 x2 y2 x3 y3; obtain ⟨x1, y1⟩ := X.b1.rules; obtain ⟨x2, y2⟩ := X.b2.rules; obtain ⟨x3, y3⟩ := X.b3.rules)) | (go_at_call 97; ((with_reducible refine (bool_any _ _).mono ?_); rintro en w2 ⟨rfl, hg2⟩; replace X := X.grow hg2; replace G := G.trans hg2; clear hg2 x1 y1 x2 y2 x3 y3; obtain ⟨x1, y1⟩ := X.b1.rules; obtain ⟨x2, y2⟩ := X.b2.rules; obtain ⟨x3, y3⟩ := X.b3.rules; have l3 := X.b3.lt)))
  exact bodyPost_ret (by simp [results, Try.results111, go_sem, x3]) rfl ⟨rfl, (by repeat (first | (with_reducible exact Grow.refl _) | (with_reducible assumption) | (with_reducible refine Grow.set ?_ (by first | (simp; done) | (simp; omega)) _) | (with_reducible refine Grow.al ?_ _) | (with_reducible refine Grow.drew ?_) | (with_reducible refine Grow.drewN ?_ _) | (with_reducible refine Grow.trans ?_ (by assumption))))⟩

end Go.Proofs.Ytjhcbehnopmnpaa
