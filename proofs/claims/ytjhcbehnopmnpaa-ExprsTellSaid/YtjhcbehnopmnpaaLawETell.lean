/-
  The law ExprsTell: its walk.
-/
import Derived.Test.YtjhcbehnopmnpaaEvE
namespace Go.Proofs.Ytjhcbehnopmnpaa
open Go.RowKit Go.Calm
set_option linter.unusedSimpArgs false
set_option linter.unusedVariables false

set_option maxRecDepth 100000 in
set_option maxHeartbeats 4000000 in
theorem law_etell (cols : List Int) (row : List V) (Ac Ar : Option Addr) (cc cr : Nat) (e : E) (w : World) (hlc : cols.length ≤ 9223372036854775807) (hlr : row.length ≤ 9223372036854775807) (hc : ISl w Ac cols) (hr : VSl w Ar row) (hE : EX w e) :
    Calls Try.prog 9 #[.slice Ac cols.length cc, e.val, .slice Ar row.length cr] w fun en w' => en = .returned (.bool true) ∧ Grow w w' := by
  have heq := run_eqlV
  obtain ⟨T, te, hte⟩ : ∃ T te, typeE cols e = (T, te) := ⟨_, _, rfl⟩
  obtain ⟨fe, hfe⟩ : ∃ fe, fitsE cols row = fe := ⟨_, rfl⟩
  obtain ⟨R, ER, hR⟩ : ∃ R ER, evalE cols row e = (R, ER) := ⟨_, _, rfl⟩
  have c1 := fun W (h : Grow w W) => type_any cols Ac cc e W hlc (hc.grow h) (hE.grow h)
  have c2 := fun W (h : Grow w W) => typeof_any cols Ac cc e W hlc (hc.grow h) (hE.grow h)
  have c3 := fun W (h : Grow w W) => fits_any cols row Ac Ar cc cr W hlc hlr (hc.grow h) (hr.grow h) fe hfe
  have c4 := fun W (h : Grow w W) => rfits_any cols row Ac Ar cc cr W hlc hlr (hc.grow h) (hr.grow h) fe hfe
  have c5 := fun W (h : Grow w W) => eval_any cols row Ac Ar cc cr e W hlc hlr (hc.grow h) (hr.grow h) (hE.grow h) R ER hR
  have c6 := fun W (h : Grow w W) => reval_any cols row Ac Ar cc cr e W hlc hlr (hc.grow h) (hr.grow h) (hE.grow h) R ER hR
  rw [hte] at c1 c2
  simp only at c1 c2
  clear hte hfe hR hc hr hE
  unfold E.val
  go_enter Try.func9, Try.ntmps9
  go_upto_region 1 with fail
  refine wp_forget (fun W => Blk W w.heap.size 47 #[.int .i64 e.kind, .int .i64 e.v.k, .int .i64 e.v.n, .string e.v.s, .int .i64 e.col, .slice e.A e.n e.cap] ∧ Grow w W) ⟨Blk.new _ _ _, (by repeat (first | (with_reducible exact Grow.refl _) | (with_reducible assumption) | (with_reducible refine Grow.set ?_ (by first | (simp; done) | (simp; omega)) _) | (with_reducible refine Grow.al ?_ _) | (with_reducible refine Grow.drew ?_) | (with_reducible refine Grow.drewN ?_ _) | (with_reducible refine Grow.trans ?_ (by assumption))))⟩ ?_
  rintro W ⟨B, G⟩
  obtain ⟨cb, fb⟩ := B.rules
  go_upto_region 6 with (first
    | (go_at_call 54; ((with_reducible refine (c1 _ G).mono ?_); rintro en w2 ⟨rfl, hg2⟩; replace B := B.grow hg2; replace G := G.trans hg2; clear hg2 cb fb; obtain ⟨cb, fb⟩ := B.rules))
    | (go_at_call 55; ((with_reducible refine (c2 _ G).mono ?_); rintro en w3 ⟨rfl, hg2⟩; replace B := B.grow hg2; replace G := G.trans hg2; clear hg2 cb fb; obtain ⟨cb, fb⟩ := B.rules))
    | (go_at_call 56; ((with_reducible refine (c3 _ G).mono ?_); rintro en w4 ⟨rfl, hg2⟩; replace B := B.grow hg2; replace G := G.trans hg2; clear hg2 cb fb; obtain ⟨cb, fb⟩ := B.rules))
    | (go_at_call 57; ((with_reducible refine (c4 _ G).mono ?_); rintro en w5 ⟨rfl, hg2⟩; replace B := B.grow hg2; replace G := G.trans hg2; clear hg2 cb fb; obtain ⟨cb, fb⟩ := B.rules))
    | (go_at_call 58; ((with_reducible refine (c5 _ G).mono ?_); rintro en w6 ⟨rfl, hg2⟩; replace B := B.grow hg2; replace G := G.trans hg2; clear hg2 cb fb; obtain ⟨cb, fb⟩ := B.rules)))
  refine wp_forget (fun X => Blk X w.heap.size 47 #[.int .i64 e.kind, .int .i64 e.v.k, .int .i64 e.v.n, .string e.v.s, .int .i64 e.col, .slice e.A e.n e.cap] ∧ Blk X w6.heap.size 29 #[.int .i64 R.k, .int .i64 R.n, .string R.s] ∧ Grow w X) ⟨B.al _, Blk.new _ _ _, G.al _⟩ ?_
  generalize w6.heap.size = ga
  clear B G cb fb
  rintro X ⟨B, Ba, G⟩
  obtain ⟨cb, fb⟩ := B.rules
  go_wp2_with (go_at_call 59; ((with_reducible refine (c6 _ G).mono ?_); rintro en w7 ⟨rfl, hg2⟩; replace Ba := Ba.grow hg2; replace G := G.trans hg2; clear hg2 cb fb B; obtain ⟨ca, fa⟩ := Ba.rules; have la := Ba.lt))
  go_ret
  exact ⟨rfl, (by repeat (first | (with_reducible exact Grow.refl _) | (with_reducible assumption) | (with_reducible refine Grow.set ?_ (by first | (simp; done) | (simp; omega)) _) | (with_reducible refine Grow.al ?_ _) | (with_reducible refine Grow.drew ?_) | (with_reducible refine Grow.drewN ?_ _) | (with_reducible refine Grow.trans ?_ (by assumption))))⟩
end Go.Proofs.Ytjhcbehnopmnpaa
