/-
  exprs.Of: its walk.
-/
import Derived.Test.YtjhcbehnopmnpaaEv
import Derived.Test.YtjhcbehnopmnpaaVals5
import Derived.BigQuiet
import Derived.Deep.QuietTactic
namespace Go.Proofs.Ytjhcbehnopmnpaa
open Go.RowKit Go.Calm
set_option linter.unusedSimpArgs false
set_option linter.unusedVariables false

set_option maxRecDepth 100000 in
set_option maxHeartbeats 4000000 in
theorem compared_any (k : Int) (a b : V) (hk : 6 ≤ k ∧ k ≤ 11) (w : World) : Calls Try.prog 147 #[.int .i64 k, a.val, b.val] w fun e w' => e = .returned (comparedV k a b).val ∧ Grow w w' := by
  have : k = 6 ∨ k = 7 ∨ k = 8 ∨ k = 9 ∨ k = 10 ∨ k = 11 := by omega
  have r1 := (rv_eq a b).rb
  have r2 := (rv_less a b).rb
  have r3 := (rv_less b a).rb
  clear hk
  rcases this with rfl | rfl | rfl | rfl | rfl | rfl
  · rw [show comparedV 6 a b = eqV a b from rfl]
    unfold V.val
    go_enter Try.func147, Try.ntmps147
    go_wp2_with ((go_at_call 36; ((with_reducible refine (eq_any a b _).mono ?_); rintro e w' ⟨rfl, hg⟩; obtain ⟨hc, hf, hz⟩ := hg.rules)))
    exact bodyPost_ret (by simp [results, Try.results147, go_sem, hc]) rfl ⟨rfl, (by repeat (first | (with_reducible exact Grow.refl _) | (with_reducible assumption) | (with_reducible refine Grow.set ?_ (by first | (simp; done) | (simp; omega)) _) | (with_reducible refine Grow.al ?_ _) | (with_reducible refine Grow.drew ?_) | (with_reducible refine Grow.drewN ?_ _) | (with_reducible refine Grow.trans ?_ (by assumption))))⟩
  · rw [show comparedV 7 a b = notV (eqV a b) from rfl]
    unfold V.val
    go_enter Try.func147, Try.ntmps147
    go_wp2_with (first | (go_at_call 36; ((with_reducible refine (eq_any a b _).mono ?_); rintro e w' ⟨rfl, hg⟩; obtain ⟨hc, hf, hz⟩ := hg.rules)) | (go_at_call 33; ((with_reducible refine (not' _ r1 _).mono ?_); rintro e w2' ⟨rfl, hg2⟩; replace hg := hg.trans hg2; clear hg2 hc hf hz; obtain ⟨hc, hf, hz⟩ := hg.rules)))
    exact bodyPost_ret (by simp [results, Try.results147, go_sem, hc]) rfl ⟨rfl, (by repeat (first | (with_reducible exact Grow.refl _) | (with_reducible assumption) | (with_reducible refine Grow.set ?_ (by first | (simp; done) | (simp; omega)) _) | (with_reducible refine Grow.al ?_ _) | (with_reducible refine Grow.drew ?_) | (with_reducible refine Grow.drewN ?_ _) | (with_reducible refine Grow.trans ?_ (by assumption))))⟩
  · rw [show comparedV 8 a b = lessV a b from rfl]
    unfold V.val
    go_enter Try.func147, Try.ntmps147
    go_wp2_with ((go_at_call 37; ((with_reducible refine (less_any a b _).mono ?_); rintro e w' ⟨rfl, hg⟩; obtain ⟨hc, hf, hz⟩ := hg.rules)))
    exact bodyPost_ret (by simp [results, Try.results147, go_sem, hc]) rfl ⟨rfl, (by repeat (first | (with_reducible exact Grow.refl _) | (with_reducible assumption) | (with_reducible refine Grow.set ?_ (by first | (simp; done) | (simp; omega)) _) | (with_reducible refine Grow.al ?_ _) | (with_reducible refine Grow.drew ?_) | (with_reducible refine Grow.drewN ?_ _) | (with_reducible refine Grow.trans ?_ (by assumption))))⟩
  · rw [show comparedV 9 a b = notV (lessV b a) from rfl]
    unfold V.val
    go_enter Try.func147, Try.ntmps147
    go_wp2_with (first | (go_at_call 37; ((with_reducible refine (less_any b a _).mono ?_); rintro e w' ⟨rfl, hg⟩; obtain ⟨hc, hf, hz⟩ := hg.rules)) | (go_at_call 33; ((with_reducible refine (not' _ r3 _).mono ?_); rintro e w2' ⟨rfl, hg2⟩; replace hg := hg.trans hg2; clear hg2 hc hf hz; obtain ⟨hc, hf, hz⟩ := hg.rules)))
    exact bodyPost_ret (by simp [results, Try.results147, go_sem, hc]) rfl ⟨rfl, (by repeat (first | (with_reducible exact Grow.refl _) | (with_reducible assumption) | (with_reducible refine Grow.set ?_ (by first | (simp; done) | (simp; omega)) _) | (with_reducible refine Grow.al ?_ _) | (with_reducible refine Grow.drew ?_) | (with_reducible refine Grow.drewN ?_ _) | (with_reducible refine Grow.trans ?_ (by assumption))))⟩
  · rw [show comparedV 10 a b = lessV b a from rfl]
    unfold V.val
    go_enter Try.func147, Try.ntmps147
    go_wp2_with ((go_at_call 37; ((with_reducible refine (less_any b a _).mono ?_); rintro e w' ⟨rfl, hg⟩; obtain ⟨hc, hf, hz⟩ := hg.rules)))
    exact bodyPost_ret (by simp [results, Try.results147, go_sem, hc]) rfl ⟨rfl, (by repeat (first | (with_reducible exact Grow.refl _) | (with_reducible assumption) | (with_reducible refine Grow.set ?_ (by first | (simp; done) | (simp; omega)) _) | (with_reducible refine Grow.al ?_ _) | (with_reducible refine Grow.drew ?_) | (with_reducible refine Grow.drewN ?_ _) | (with_reducible refine Grow.trans ?_ (by assumption))))⟩
  · rw [show comparedV 11 a b = notV (lessV a b) from rfl]
    unfold V.val
    go_enter Try.func147, Try.ntmps147
    go_wp2_with (first | (go_at_call 37; ((with_reducible refine (less_any a b _).mono ?_); rintro e w' ⟨rfl, hg⟩; obtain ⟨hc, hf, hz⟩ := hg.rules)) | (go_at_call 33; ((with_reducible refine (not' _ r2 _).mono ?_); rintro e w2' ⟨rfl, hg2⟩; replace hg := hg.trans hg2; clear hg2 hc hf hz; obtain ⟨hc, hf, hz⟩ := hg.rules)))
    exact bodyPost_ret (by simp [results, Try.results147, go_sem, hc]) rfl ⟨rfl, (by repeat (first | (with_reducible exact Grow.refl _) | (with_reducible assumption) | (with_reducible refine Grow.set ?_ (by first | (simp; done) | (simp; omega)) _) | (with_reducible refine Grow.al ?_ _) | (with_reducible refine Grow.drew ?_) | (with_reducible refine Grow.drewN ?_ _) | (with_reducible refine Grow.trans ?_ (by assumption))))⟩

/-- what an expression at a place comes to -/
def OfC (row : List V) (A : Option Addr) (cr : Nat) (e : E) : Prop := ∀ (gx ox : Nat) (w0 w : World), EX w0 e → ECells w0 gx ox e → VSl w0 A row → Grow w0 w →
  Calls Try.prog 111 #[.pointer (some ⟨gx, ox, none⟩), .slice A row.length cr] w fun en w' => en = .returned (ofE row e).val ∧ Grow w w'

set_option maxRecDepth 100000 in
set_option maxHeartbeats 4000000 in
theorem kid_fn (row : List V) (A : Option Addr) (cr : Nat) (e : E) (j : Nat) (iv : Int) (hiv : iv = j) (hj : j < e.n) (a : V) (ha : ofE row (e.kid j) = a) (ih : OfC row A cr (e.kid j)) (gx ox b1 b2 : Nat) (w0 w : World) (hE : EX w0 e) (hx : ECells w0 gx ox e) (hrow : VSl w0 A row) (hg : Grow w0 w)
    (B1 : Blk w b1 104 #[.pointer (some ⟨gx, ox, none⟩)]) (B2 : Blk w b2 22 #[.slice A row.length cr]) :
    Calls Try.prog 146 #[.int .i64 iv, .pointer (some ⟨b1, 0, none⟩), .pointer (some ⟨b2, 0, none⟩)] w fun en w' => en = .returned a.val ∧ Grow w w' := by
  subst hiv ha
  obtain ⟨gk, ok, hA, hck, hEk, hl⟩ : ∃ gk ok, e.A = some ⟨gk, ok, none⟩ ∧ ECells w0 gk (ok + j * 6) (e.kid j) ∧ EX w0 (e.kid j) ∧ e.n ≤ maxLen := by
    cases hE with
    | leaf => exact absurd hj (Nat.not_lt_zero _)
    | mk hn' hc hk hv hi =>
      obtain ⟨gk, ok, h1, h2⟩ := hc j hj
      exact ⟨gk, ok, h1, h2, hk j hj, hn'⟩
  have hc5 := hx.c5
  rw [hA] at hc5
  have lt1 := B1.lt
  have lt2 := B2.lt
  have ct := fun W (h : Grow w0 W) => ih gk (ok + j * 6) w0 W hEk hck hrow h
  clear hE hx hck hEk ih
  go_enter Try.func146, Try.ntmps146
  go_wp2
  refine wp_forget (fun W => Blk W w.heap.size 29 #[.int .i64 0, .int .i64 0, .string es] ∧ Grow w W) ⟨Blk.new _ _ _, (Grow.refl _).al _⟩ ?_
  rintro W ⟨B, G⟩
  apply wp_region_calm 8 (by kernel_rfl) (by kernel_rfl)
  case h' =>
    intro Q0 hQ0
    simp only [List.take_succ_cons, List.take_zero]
    repeat (
      first
        | (apply calm_p rfl; case h1 => (intro w1 hw1 hF K hK; obtain ⟨c1, f1⟩ := (Blk.grow B1 (G.trans hw1)).rules; obtain ⟨c2, f2⟩ := (Blk.grow B2 (G.trans hw1)).rules; have c5 := (hg.trans (G.trans hw1)).cell hc5; go_simp; first | exact hK _ (Grow.refl _) | (go_at_call 111; ((with_reducible refine (ct _ (hg.trans (G.trans hw1))).mono ?_); rintro e w' ⟨rfl, hg⟩; exact ⟨_, rfl, hK _ hg⟩))))
        | (apply calm_y rfl rfl rfl; case h1 => (intro w1 hw1 hF K hK; obtain ⟨c1, f1⟩ := (Blk.grow B1 (G.trans hw1)).rules; obtain ⟨c2, f2⟩ := (Blk.grow B2 (G.trans hw1)).rules; have c5 := (hg.trans (G.trans hw1)).cell hc5; go_simp; first | exact hK _ (Grow.refl _) | (go_at_call 111; ((with_reducible refine (ct _ (hg.trans (G.trans hw1))).mono ?_); rintro e w' ⟨rfl, hg⟩; exact ⟨_, rfl, hK _ hg⟩))))
        | apply calm_n rfl rfl rfl rfl
      intro K hK
      go_simp
      apply hK
      clear hK K)
    refine calm_nil ?_
    intro w1 hw1 hF
    apply hQ0
    clear hQ0
    simp only [List.drop_succ_cons, List.drop_zero]
    clear hF
    obtain ⟨cb, fb⟩ := (Blk.grow B hw1).rules
    go_wp2
    exact bodyPost_ret (by simp [results, Try.results146, go_sem, cb]) rfl ⟨rfl, (by repeat (first | (with_reducible exact Grow.refl _) | (with_reducible assumption) | (with_reducible refine Grow.set ?_ (by first | (simp; done) | (simp; omega)) _) | (with_reducible refine Grow.al ?_ _) | (with_reducible refine Grow.drew ?_) | (with_reducible refine Grow.drewN ?_ _) | (with_reducible refine Grow.trans ?_ (by assumption))))⟩
  case hp' => trivial

/-- the three variables of Of's call -/
structure Vars (W : World) (b : Nat) (gx ox : Nat) (A : Option Addr) (n cr : Nat) : Prop where
  b1 : Blk W b 104 #[.pointer (some ⟨gx, ox, none⟩)]
  b2 : Blk W (b + 1) 22 #[.slice A n cr]
  b3 : Blk W (b + 2) 29 #[.int .i64 0, .int .i64 0, .string es]
theorem Vars.grow {W W' : World} {b gx ox : Nat} {A : Option Addr} {n cr : Nat} (h : Vars W b gx ox A n cr) (hg : Grow W W') : Vars W' b gx ox A n cr := ⟨h.b1.grow hg, h.b2.grow hg, h.b3.grow hg⟩

set_option maxRecDepth 100000 in
set_option maxHeartbeats 4000000 in
theorem of_lit (row : List V) (A : Option Addr) (cr : Nat) (gx ox : Nat) (w0 w : World) (hrow : VSl w0 A row) (hg : Grow w0 w) (e : E) (hx : ECells w0 gx ox e) (hk : e.kind = 1) :
    Calls Try.prog 111 #[.pointer (some ⟨gx, ox, none⟩), .slice A row.length cr] w fun en w' => en = .returned (bare e.v).val ∧ Grow w w' := by
  go_enter Try.func111, Try.ntmps111
  go_upto_region 2 with fail
  refine wp_forget (fun W => Vars W w.heap.size gx ox A row.length cr ∧ Grow w W) ⟨⟨((Blk.new _ _ _).al _).al _, (Blk.new' _ _ _ (by simp)).al _, Blk.new' _ _ _ (by simp)⟩, (by repeat (first | (with_reducible exact Grow.refl _) | (with_reducible assumption) | (with_reducible refine Grow.set ?_ (by first | (simp; done) | (simp; omega)) _) | (with_reducible refine Grow.al ?_ _) | (with_reducible refine Grow.drew ?_) | (with_reducible refine Grow.drewN ?_ _) | (with_reducible refine Grow.trans ?_ (by assumption))))⟩ ?_
  rintro W ⟨X, G⟩
  obtain ⟨c0, c1, c2, c3, c4, c5⟩ := hx.grow (hg.trans G)
  rw [hk] at c0
  obtain ⟨x1, y1⟩ := X.b1.rules
  obtain ⟨x3, y3⟩ := X.b3.rules
  have l3 := X.b3.lt
  go_wp2_with ((go_at_call 35; ((with_reducible refine (bare_any e.v _).mono ?_); rintro e w' ⟨rfl, hg⟩; obtain ⟨hc, hf, hz⟩ := hg.rules)))
  exact bodyPost_ret (by simp [results, Try.results111, go_sem, hc, l3, x3]) rfl ⟨rfl, (by repeat (first | (with_reducible exact Grow.refl _) | (with_reducible assumption) | (with_reducible refine Grow.set ?_ (by first | (simp; done) | (simp; omega)) _) | (with_reducible refine Grow.al ?_ _) | (with_reducible refine Grow.drew ?_) | (with_reducible refine Grow.drewN ?_ _) | (with_reducible refine Grow.trans ?_ (by assumption))))⟩

set_option maxRecDepth 100000 in
set_option maxHeartbeats 4000000 in
theorem of_col (row : List V) (A : Option Addr) (cr : Nat) (gx ox : Nat) (w0 w : World) (hrow : VSl w0 A row) (hg : Grow w0 w) (e : E) (hx : ECells w0 gx ox e) (hk : e.kind = 2) (j : Nat) (hj : e.col = j) (v : V) (hv : row[j]? = some v) (hlen : row.length ≤ 9223372036854775807) :
    Calls Try.prog 111 #[.pointer (some ⟨gx, ox, none⟩), .slice A row.length cr] w fun en w' => en = .returned (bare v).val ∧ Grow w w' := by
  have hjl : j < row.length := (List.getElem?_eq_some_iff.1 hv).1
  obtain ⟨ga, oa, rfl, hvc⟩ := hrow j v hv
  go_enter Try.func111, Try.ntmps111
  go_upto_region 2 with fail
  refine wp_forget (fun W => Vars W w.heap.size gx ox (some ⟨ga, oa, none⟩) row.length cr ∧ Grow w W) ⟨⟨((Blk.new _ _ _).al _).al _, (Blk.new' _ _ _ (by simp)).al _, Blk.new' _ _ _ (by simp)⟩, (by repeat (first | (with_reducible exact Grow.refl _) | (with_reducible assumption) | (with_reducible refine Grow.set ?_ (by first | (simp; done) | (simp; omega)) _) | (with_reducible refine Grow.al ?_ _) | (with_reducible refine Grow.drew ?_) | (with_reducible refine Grow.drewN ?_ _) | (with_reducible refine Grow.trans ?_ (by assumption))))⟩ ?_
  rintro W ⟨X, G⟩
  obtain ⟨c0, c1, c2, c3, c4, c5⟩ := hx.grow (hg.trans G)
  rw [hk] at c0
  rw [hj] at c4
  have d4 : decide ((row.length : Int) ≤ (j : Int)) = false := by simp; omega
  have hx4 := hx.c4
  rw [hj] at hx4
  clear hx hj hk
  have l3 := X.b3.lt
  have x1 := X.b1.rules.1
  have x2 := X.b2.rules.1
  go_wp2
  go_quiet (fail)
  go_wp2
  refine wp_forget (fun W => Vars W w.heap.size gx ox (some ⟨ga, oa, none⟩) row.length cr ∧ Grow w W) ⟨X.grow (by repeat (first | (with_reducible exact Grow.refl _) | (with_reducible assumption) | (with_reducible refine Grow.set ?_ (by first | (simp; done) | (simp; omega)) _) | (with_reducible refine Grow.al ?_ _) | (with_reducible refine Grow.drew ?_) | (with_reducible refine Grow.drewN ?_ _) | (with_reducible refine Grow.trans ?_ (by assumption)))), (by repeat (first | (with_reducible exact Grow.refl _) | (with_reducible assumption) | (with_reducible refine Grow.set ?_ (by first | (simp; done) | (simp; omega)) _) | (with_reducible refine Grow.al ?_ _) | (with_reducible refine Grow.drew ?_) | (with_reducible refine Grow.drewN ?_ _) | (with_reducible refine Grow.trans ?_ (by assumption))))⟩ ?_
  clear X G c0 c1 c2 c3 c4 c5 x1 x2 l3
  rintro W ⟨X, G⟩
  apply wp_region_calm 8 (by kernel_rfl) (by kernel_rfl)
  case h' =>
    intro Q0 hQ0
    simp only [List.take_succ_cons, List.take_zero]
    repeat (
      first
        | (apply calm_p rfl; case h1 => (intro w1 hw1 hF K hK; obtain ⟨x1, y1⟩ := (X.grow hw1).b1.rules; obtain ⟨x2, y2⟩ := (X.grow hw1).b2.rules; have c4 := (hg.trans (G.trans hw1)).cell hx4; obtain ⟨v1, v2, v3⟩ := hvc.grow (hg.trans (G.trans hw1)); go_simp; first | exact hK _ (Grow.refl _) | (go_at_call 35; ((with_reducible refine (bare_any v _).mono ?_); rintro e w' ⟨rfl, hg⟩; exact ⟨_, rfl, hK _ hg⟩))))
        | (apply calm_y rfl rfl rfl; case h1 => (intro w1 hw1 hF K hK; obtain ⟨x1, y1⟩ := (X.grow hw1).b1.rules; obtain ⟨x2, y2⟩ := (X.grow hw1).b2.rules; have c4 := (hg.trans (G.trans hw1)).cell hx4; obtain ⟨v1, v2, v3⟩ := hvc.grow (hg.trans (G.trans hw1)); go_simp; first | exact hK _ (Grow.refl _) | (go_at_call 35; ((with_reducible refine (bare_any v _).mono ?_); rintro e w' ⟨rfl, hg⟩; exact ⟨_, rfl, hK _ hg⟩))))
        | apply calm_n rfl rfl rfl rfl
      intro K hK
      go_simp
      apply hK
      clear hK K)
    refine calm_nil ?_
    intro w1 hw1 hF
    apply hQ0
    clear hQ0
    simp only [List.drop_succ_cons, List.drop_zero]
    clear hF
    obtain ⟨x3, y3⟩ := (X.grow hw1).b3.rules
    go_wp2
    exact bodyPost_ret (by simp [results, Try.results111, go_sem, x3]) rfl ⟨rfl, (by repeat (first | (with_reducible exact Grow.refl _) | (with_reducible assumption) | (with_reducible refine Grow.set ?_ (by first | (simp; done) | (simp; omega)) _) | (with_reducible refine Grow.al ?_ _) | (with_reducible refine Grow.drew ?_) | (with_reducible refine Grow.drewN ?_ _) | (with_reducible refine Grow.trans ?_ (by assumption))))⟩
  case hp' => trivial

set_option maxRecDepth 100000 in
set_option maxHeartbeats 4000000 in
theorem of_not (row : List V) (A : Option Addr) (cr : Nat) (gx ox : Nat) (w0 w : World) (hrow : VSl w0 A row) (hg : Grow w0 w) (e : E) (hx : ECells w0 gx ox e) (hk : e.kind = 3) (a : V) (ra : RV a) (K0 : ∀ W, Vars W w.heap.size gx ox A row.length cr → Grow w W → Calls Try.prog 146 #[.int .i64 0, .pointer (some ⟨w.heap.size, 0, none⟩), .pointer (some ⟨w.heap.size + 1, 0, none⟩)] W fun en w' => en = .returned a.val ∧ Grow W w') :
    Calls Try.prog 111 #[.pointer (some ⟨gx, ox, none⟩), .slice A row.length cr] w fun en w' => en = .returned (notV a).val ∧ Grow w w' := by
  go_enter Try.func111, Try.ntmps111
  go_upto_region 2 with fail
  refine wp_forget (fun W => Vars W w.heap.size gx ox A row.length cr ∧ Grow w W) ⟨⟨((Blk.new _ _ _).al _).al _, (Blk.new' _ _ _ (by simp)).al _, Blk.new' _ _ _ (by simp)⟩, (by repeat (first | (with_reducible exact Grow.refl _) | (with_reducible assumption) | (with_reducible refine Grow.set ?_ (by first | (simp; done) | (simp; omega)) _) | (with_reducible refine Grow.al ?_ _) | (with_reducible refine Grow.drew ?_) | (with_reducible refine Grow.drewN ?_ _) | (with_reducible refine Grow.trans ?_ (by assumption))))⟩ ?_
  rintro W ⟨X, G⟩
  have hx0 := (hx.grow (hg.trans G)).c0
  rw [hk] at hx0
  clear hx hk
  obtain ⟨x1, y1⟩ := X.b1.rules
  obtain ⟨x2, y2⟩ := X.b2.rules
  obtain ⟨x3, y3⟩ := X.b3.rules
  go_wp2_with (first | (go_at_call 146; ((with_reducible refine (K0 _ X G).mono ?_); rintro en w2 ⟨rfl, hg2⟩; replace X := X.grow hg2; replace G := G.trans hg2; clear hg2 x1 y1 x2 y2 x3 y3; obtain ⟨x1, y1⟩ := X.b1.rules; obtain ⟨x2, y2⟩ := X.b2.rules; obtain ⟨x3, y3⟩ := X.b3.rules)) | (go_at_call 33; ((with_reducible refine (not' _ ra.rb _).mono ?_); rintro en w2 ⟨rfl, hg2⟩; replace X := X.grow hg2; replace G := G.trans hg2; clear hg2 x1 y1 x2 y2 x3 y3; obtain ⟨x1, y1⟩ := X.b1.rules; obtain ⟨x2, y2⟩ := X.b2.rules; obtain ⟨x3, y3⟩ := X.b3.rules; have l3 := X.b3.lt)))
  exact bodyPost_ret (by simp [results, Try.results111, go_sem, x3]) rfl ⟨rfl, (by repeat (first | (with_reducible exact Grow.refl _) | (with_reducible assumption) | (with_reducible refine Grow.set ?_ (by first | (simp; done) | (simp; omega)) _) | (with_reducible refine Grow.al ?_ _) | (with_reducible refine Grow.drew ?_) | (with_reducible refine Grow.drewN ?_ _) | (with_reducible refine Grow.trans ?_ (by assumption))))⟩

set_option maxRecDepth 100000 in
set_option maxHeartbeats 4000000 in
theorem of_and (row : List V) (A : Option Addr) (cr : Nat) (gx ox : Nat) (w0 w : World) (hrow : VSl w0 A row) (hg : Grow w0 w) (e : E) (hx : ECells w0 gx ox e) (hk : e.kind = 4) (a b : V) (ra : RV a) (rb : RV b) (K0 : ∀ W, Vars W w.heap.size gx ox A row.length cr → Grow w W → Calls Try.prog 146 #[.int .i64 0, .pointer (some ⟨w.heap.size, 0, none⟩), .pointer (some ⟨w.heap.size + 1, 0, none⟩)] W fun en w' => en = .returned a.val ∧ Grow W w') (K1 : ∀ W, Vars W w.heap.size gx ox A row.length cr → Grow w W → Calls Try.prog 146 #[.int .i64 1, .pointer (some ⟨w.heap.size, 0, none⟩), .pointer (some ⟨w.heap.size + 1, 0, none⟩)] W fun en w' => en = .returned b.val ∧ Grow W w') :
    Calls Try.prog 111 #[.pointer (some ⟨gx, ox, none⟩), .slice A row.length cr] w fun en w' => en = .returned (andV a b).val ∧ Grow w w' := by
  go_enter Try.func111, Try.ntmps111
  go_upto_region 2 with fail
  refine wp_forget (fun W => Vars W w.heap.size gx ox A row.length cr ∧ Grow w W) ⟨⟨((Blk.new _ _ _).al _).al _, (Blk.new' _ _ _ (by simp)).al _, Blk.new' _ _ _ (by simp)⟩, (by repeat (first | (with_reducible exact Grow.refl _) | (with_reducible assumption) | (with_reducible refine Grow.set ?_ (by first | (simp; done) | (simp; omega)) _) | (with_reducible refine Grow.al ?_ _) | (with_reducible refine Grow.drew ?_) | (with_reducible refine Grow.drewN ?_ _) | (with_reducible refine Grow.trans ?_ (by assumption))))⟩ ?_
  rintro W ⟨X, G⟩
  have hx0 := (hx.grow (hg.trans G)).c0
  rw [hk] at hx0
  clear hx hk
  obtain ⟨x1, y1⟩ := X.b1.rules
  obtain ⟨x2, y2⟩ := X.b2.rules
  obtain ⟨x3, y3⟩ := X.b3.rules
  go_wp2_with (first | (go_at_call 146; ((with_reducible refine (K0 _ X G).mono ?_); rintro en w2 ⟨rfl, hg2⟩; replace X := X.grow hg2; replace G := G.trans hg2; clear hg2 x1 y1 x2 y2 x3 y3; obtain ⟨x1, y1⟩ := X.b1.rules; obtain ⟨x2, y2⟩ := X.b2.rules; obtain ⟨x3, y3⟩ := X.b3.rules)) | (go_at_call 146; ((with_reducible refine (K1 _ X G).mono ?_); rintro en w2 ⟨rfl, hg2⟩; replace X := X.grow hg2; replace G := G.trans hg2; clear hg2 x1 y1 x2 y2 x3 y3; obtain ⟨x1, y1⟩ := X.b1.rules; obtain ⟨x2, y2⟩ := X.b2.rules; obtain ⟨x3, y3⟩ := X.b3.rules)) | (go_at_call 31; ((with_reducible refine (and_any _ _ ra.rb rb.rb _).mono ?_); rintro en w2 ⟨rfl, hg2⟩; replace X := X.grow hg2; replace G := G.trans hg2; clear hg2 x1 y1 x2 y2 x3 y3; obtain ⟨x1, y1⟩ := X.b1.rules; obtain ⟨x2, y2⟩ := X.b2.rules; obtain ⟨x3, y3⟩ := X.b3.rules; have l3 := X.b3.lt)))
  exact bodyPost_ret (by simp [results, Try.results111, go_sem, x3]) rfl ⟨rfl, (by repeat (first | (with_reducible exact Grow.refl _) | (with_reducible assumption) | (with_reducible refine Grow.set ?_ (by first | (simp; done) | (simp; omega)) _) | (with_reducible refine Grow.al ?_ _) | (with_reducible refine Grow.drew ?_) | (with_reducible refine Grow.drewN ?_ _) | (with_reducible refine Grow.trans ?_ (by assumption))))⟩

set_option maxRecDepth 100000 in
set_option maxHeartbeats 4000000 in
theorem of_or (row : List V) (A : Option Addr) (cr : Nat) (gx ox : Nat) (w0 w : World) (hrow : VSl w0 A row) (hg : Grow w0 w) (e : E) (hx : ECells w0 gx ox e) (hk : e.kind = 5) (a b : V) (ra : RV a) (rb : RV b) (K0 : ∀ W, Vars W w.heap.size gx ox A row.length cr → Grow w W → Calls Try.prog 146 #[.int .i64 0, .pointer (some ⟨w.heap.size, 0, none⟩), .pointer (some ⟨w.heap.size + 1, 0, none⟩)] W fun en w' => en = .returned a.val ∧ Grow W w') (K1 : ∀ W, Vars W w.heap.size gx ox A row.length cr → Grow w W → Calls Try.prog 146 #[.int .i64 1, .pointer (some ⟨w.heap.size, 0, none⟩), .pointer (some ⟨w.heap.size + 1, 0, none⟩)] W fun en w' => en = .returned b.val ∧ Grow W w') :
    Calls Try.prog 111 #[.pointer (some ⟨gx, ox, none⟩), .slice A row.length cr] w fun en w' => en = .returned (orV a b).val ∧ Grow w w' := by
  go_enter Try.func111, Try.ntmps111
  go_upto_region 2 with fail
  refine wp_forget (fun W => Vars W w.heap.size gx ox A row.length cr ∧ Grow w W) ⟨⟨((Blk.new _ _ _).al _).al _, (Blk.new' _ _ _ (by simp)).al _, Blk.new' _ _ _ (by simp)⟩, (by repeat (first | (with_reducible exact Grow.refl _) | (with_reducible assumption) | (with_reducible refine Grow.set ?_ (by first | (simp; done) | (simp; omega)) _) | (with_reducible refine Grow.al ?_ _) | (with_reducible refine Grow.drew ?_) | (with_reducible refine Grow.drewN ?_ _) | (with_reducible refine Grow.trans ?_ (by assumption))))⟩ ?_
  rintro W ⟨X, G⟩
  have hx0 := (hx.grow (hg.trans G)).c0
  rw [hk] at hx0
  clear hx hk
  obtain ⟨x1, y1⟩ := X.b1.rules
  obtain ⟨x2, y2⟩ := X.b2.rules
  obtain ⟨x3, y3⟩ := X.b3.rules
  go_wp2_with (first | (go_at_call 146; ((with_reducible refine (K0 _ X G).mono ?_); rintro en w2 ⟨rfl, hg2⟩; replace X := X.grow hg2; replace G := G.trans hg2; clear hg2 x1 y1 x2 y2 x3 y3; obtain ⟨x1, y1⟩ := X.b1.rules; obtain ⟨x2, y2⟩ := X.b2.rules; obtain ⟨x3, y3⟩ := X.b3.rules)) | (go_at_call 146; ((with_reducible refine (K1 _ X G).mono ?_); rintro en w2 ⟨rfl, hg2⟩; replace X := X.grow hg2; replace G := G.trans hg2; clear hg2 x1 y1 x2 y2 x3 y3; obtain ⟨x1, y1⟩ := X.b1.rules; obtain ⟨x2, y2⟩ := X.b2.rules; obtain ⟨x3, y3⟩ := X.b3.rules)) | (go_at_call 32; ((with_reducible refine (or_any _ _ ra.rb rb.rb _).mono ?_); rintro en w2 ⟨rfl, hg2⟩; replace X := X.grow hg2; replace G := G.trans hg2; clear hg2 x1 y1 x2 y2 x3 y3; obtain ⟨x1, y1⟩ := X.b1.rules; obtain ⟨x2, y2⟩ := X.b2.rules; obtain ⟨x3, y3⟩ := X.b3.rules; have l3 := X.b3.lt)))
  exact bodyPost_ret (by simp [results, Try.results111, go_sem, x3]) rfl ⟨rfl, (by repeat (first | (with_reducible exact Grow.refl _) | (with_reducible assumption) | (with_reducible refine Grow.set ?_ (by first | (simp; done) | (simp; omega)) _) | (with_reducible refine Grow.al ?_ _) | (with_reducible refine Grow.drew ?_) | (with_reducible refine Grow.drewN ?_ _) | (with_reducible refine Grow.trans ?_ (by assumption))))⟩

set_option maxRecDepth 100000 in
set_option maxHeartbeats 4000000 in
theorem of_cat (row : List V) (A : Option Addr) (cr : Nat) (gx ox : Nat) (w0 w : World) (hrow : VSl w0 A row) (hg : Grow w0 w) (e : E) (hx : ECells w0 gx ox e) (hk : e.kind = 15) (a b : V) (ra : RV a) (rb : RV b) (K0 : ∀ W, Vars W w.heap.size gx ox A row.length cr → Grow w W → Calls Try.prog 146 #[.int .i64 0, .pointer (some ⟨w.heap.size, 0, none⟩), .pointer (some ⟨w.heap.size + 1, 0, none⟩)] W fun en w' => en = .returned a.val ∧ Grow W w') (K1 : ∀ W, Vars W w.heap.size gx ox A row.length cr → Grow w W → Calls Try.prog 146 #[.int .i64 1, .pointer (some ⟨w.heap.size, 0, none⟩), .pointer (some ⟨w.heap.size + 1, 0, none⟩)] W fun en w' => en = .returned b.val ∧ Grow W w') :
    Calls Try.prog 111 #[.pointer (some ⟨gx, ox, none⟩), .slice A row.length cr] w fun en w' => en = .returned (joinV a b).val ∧ Grow w w' := by
  go_enter Try.func111, Try.ntmps111
  go_upto_region 2 with fail
  refine wp_forget (fun W => Vars W w.heap.size gx ox A row.length cr ∧ Grow w W) ⟨⟨((Blk.new _ _ _).al _).al _, (Blk.new' _ _ _ (by simp)).al _, Blk.new' _ _ _ (by simp)⟩, (by repeat (first | (with_reducible exact Grow.refl _) | (with_reducible assumption) | (with_reducible refine Grow.set ?_ (by first | (simp; done) | (simp; omega)) _) | (with_reducible refine Grow.al ?_ _) | (with_reducible refine Grow.drew ?_) | (with_reducible refine Grow.drewN ?_ _) | (with_reducible refine Grow.trans ?_ (by assumption))))⟩ ?_
  rintro W ⟨X, G⟩
  have hx0 := (hx.grow (hg.trans G)).c0
  rw [hk] at hx0
  clear hx hk
  obtain ⟨x1, y1⟩ := X.b1.rules
  obtain ⟨x2, y2⟩ := X.b2.rules
  obtain ⟨x3, y3⟩ := X.b3.rules
  go_wp2_with (first | (go_at_call 146; ((with_reducible refine (K0 _ X G).mono ?_); rintro en w2 ⟨rfl, hg2⟩; replace X := X.grow hg2; replace G := G.trans hg2; clear hg2 x1 y1 x2 y2 x3 y3; obtain ⟨x1, y1⟩ := X.b1.rules; obtain ⟨x2, y2⟩ := X.b2.rules; obtain ⟨x3, y3⟩ := X.b3.rules)) | (go_at_call 146; ((with_reducible refine (K1 _ X G).mono ?_); rintro en w2 ⟨rfl, hg2⟩; replace X := X.grow hg2; replace G := G.trans hg2; clear hg2 x1 y1 x2 y2 x3 y3; obtain ⟨x1, y1⟩ := X.b1.rules; obtain ⟨x2, y2⟩ := X.b2.rules; obtain ⟨x3, y3⟩ := X.b3.rules)) | (go_at_call 52; ((with_reducible refine (join_any _ _ ra rb _).mono ?_); rintro en w2 ⟨rfl, hg2⟩; replace X := X.grow hg2; replace G := G.trans hg2; clear hg2 x1 y1 x2 y2 x3 y3; obtain ⟨x1, y1⟩ := X.b1.rules; obtain ⟨x2, y2⟩ := X.b2.rules; obtain ⟨x3, y3⟩ := X.b3.rules; have l3 := X.b3.lt)))
  exact bodyPost_ret (by simp [results, Try.results111, go_sem, x3]) rfl ⟨rfl, (by repeat (first | (with_reducible exact Grow.refl _) | (with_reducible assumption) | (with_reducible refine Grow.set ?_ (by first | (simp; done) | (simp; omega)) _) | (with_reducible refine Grow.al ?_ _) | (with_reducible refine Grow.drew ?_) | (with_reducible refine Grow.drewN ?_ _) | (with_reducible refine Grow.trans ?_ (by assumption))))⟩

end Go.Proofs.Ytjhcbehnopmnpaa
