/-
  Joined texts of this claim: EvW, EvX, EvN, EvY, EvF, EvC. What each proves its own head says; no condition beside those that each theorem names.
-/
import Derived.Test.YtamfpppbjaelaaaGG
import Derived.Test.YtamfpppbjaelaaaGC
import Derived.BigQuiet
import Derived.Deep.QuietTactic
set_option maxRecDepth 100000
set_option maxHeartbeats 4000000
namespace Go.Proofs.Ytamfpppbjaelaaa
open Go.RowKit Go.Calm
set_option linter.unusedSimpArgs false
set_option linter.unusedVariables false
theorem compared_any (k : Int) (a b : V) (hk : 6 ≤ k ∧ k ≤ 11) (w : World) : Calls Try.prog 59 #[.int .i64 k, a.val, b.val] w fun e w' => e = .returned (comparedV k a b).val ∧ Grow w w' := by
  have : k = 6 ∨ k = 7 ∨ k = 8 ∨ k = 9 ∨ k = 10 ∨ k = 11 := by omega
  have r1 := (rv_eq a b).rb
  have r2 := (rv_less a b).rb
  have r3 := (rv_less b a).rb
  clear hk
  rcases this with rfl | rfl | rfl | rfl | rfl | rfl
  · rw [show comparedV 6 a b = eqV a b from rfl]
    unfold V.val
    go_enter Try.func59, Try.ntmps59
    go_wp2_with ((go_at_call 80; ((with_reducible refine (eq_any a b _).mono ?_); rintro e w' ⟨rfl, hg⟩; obtain ⟨hc, hf, hz⟩ := hg.rules)))
    exact bodyPost_ret (by simp [results, Try.results59, go_sem, hc]) rfl ⟨rfl, growW⟩
  · rw [show comparedV 7 a b = notV (eqV a b) from rfl]
    unfold V.val
    go_enter Try.func59, Try.ntmps59
    go_wp2_with (first | (go_at_call 80; ((with_reducible refine (eq_any a b _).mono ?_); rintro e w' ⟨rfl, hg⟩; obtain ⟨hc, hf, hz⟩ := hg.rules)) | (go_at_call 53; ((with_reducible refine (not' _ r1 _).mono ?_); rintro e w2' ⟨rfl, hg2⟩; replace hg := hg.trans hg2; clear hg2 hc hf hz; obtain ⟨hc, hf, hz⟩ := hg.rules)))
    exact bodyPost_ret (by simp [results, Try.results59, go_sem, hc]) rfl ⟨rfl, growW⟩
  · rw [show comparedV 8 a b = lessV a b from rfl]
    unfold V.val
    go_enter Try.func59, Try.ntmps59
    go_wp2_with ((go_at_call 81; ((with_reducible refine (less_any a b _).mono ?_); rintro e w' ⟨rfl, hg⟩; obtain ⟨hc, hf, hz⟩ := hg.rules)))
    exact bodyPost_ret (by simp [results, Try.results59, go_sem, hc]) rfl ⟨rfl, growW⟩
  · rw [show comparedV 9 a b = notV (lessV b a) from rfl]
    unfold V.val
    go_enter Try.func59, Try.ntmps59
    go_wp2_with (first | (go_at_call 81; ((with_reducible refine (less_any b a _).mono ?_); rintro e w' ⟨rfl, hg⟩; obtain ⟨hc, hf, hz⟩ := hg.rules)) | (go_at_call 53; ((with_reducible refine (not' _ r3 _).mono ?_); rintro e w2' ⟨rfl, hg2⟩; replace hg := hg.trans hg2; clear hg2 hc hf hz; obtain ⟨hc, hf, hz⟩ := hg.rules)))
    exact bodyPost_ret (by simp [results, Try.results59, go_sem, hc]) rfl ⟨rfl, growW⟩
  · rw [show comparedV 10 a b = lessV b a from rfl]
    unfold V.val
    go_enter Try.func59, Try.ntmps59
    go_wp2_with ((go_at_call 81; ((with_reducible refine (less_any b a _).mono ?_); rintro e w' ⟨rfl, hg⟩; obtain ⟨hc, hf, hz⟩ := hg.rules)))
    exact bodyPost_ret (by simp [results, Try.results59, go_sem, hc]) rfl ⟨rfl, growW⟩
  · rw [show comparedV 11 a b = notV (lessV a b) from rfl]
    unfold V.val
    go_enter Try.func59, Try.ntmps59
    go_wp2_with (first | (go_at_call 81; ((with_reducible refine (less_any a b _).mono ?_); rintro e w' ⟨rfl, hg⟩; obtain ⟨hc, hf, hz⟩ := hg.rules)) | (go_at_call 53; ((with_reducible refine (not' _ r2 _).mono ?_); rintro e w2' ⟨rfl, hg2⟩; replace hg := hg.trans hg2; clear hg2 hc hf hz; obtain ⟨hc, hf, hz⟩ := hg.rules)))
    exact bodyPost_ret (by simp [results, Try.results59, go_sem, hc]) rfl ⟨rfl, growW⟩

def OfC (row : List V) (A : Option Addr) (cr : Nat) (e : E) : Prop := ∀ (gx ox : Nat) (w0 w : World), EX w0 e → ECells w0 gx ox e → VSl w0 A row → Grow w0 w →
  Calls Try.prog 30 #[.pointer (some ⟨gx, ox, none⟩), .slice A row.length cr] w fun en w' => en = .returned (ofE row e).val ∧ Grow w w'

theorem kid_fn (row : List V) (A : Option Addr) (cr : Nat) (e : E) (j : Nat) (iv : Int) (hiv : iv = j) (hj : j < e.n) (a : V) (ha : ofE row (e.kid j) = a) (ih : OfC row A cr (e.kid j)) (gx ox b1 b2 : Nat) (w0 w : World) (hE : EX w0 e) (hx : ECells w0 gx ox e) (hrow : VSl w0 A row) (hg : Grow w0 w)
    (B1 : Blk w b1 78 #[.pointer (some ⟨gx, ox, none⟩)]) (B2 : Blk w b2 37 #[.slice A row.length cr]) :
    Calls Try.prog 51 #[.int .i64 iv, .pointer (some ⟨b1, 0, none⟩), .pointer (some ⟨b2, 0, none⟩)] w fun en w' => en = .returned a.val ∧ Grow w w' := by
  subst hiv ha
  obtain ⟨gk, ok, hA, hck, hEk, hl⟩ : ∃ gk ok, e.A = some ⟨gk, ok, none⟩ ∧ ECells w0 gk (ok + j * 6) (e.kid j) ∧ EX w0 (e.kid j) ∧ e.n ≤ maxLen := by
    cases hE with
    | leaf => exact absurd hj (Nat.not_lt_zero _)
    | mk hn' hc hk hv hi =>
      obtain ⟨gk, ok, h1, h2⟩ := hc j hj
      exact ⟨gk, ok, h1, h2, hk j hj, hn'⟩
  have hc5 := hx.c5
  rw [hA] at hc5
  have lt1 := B1.lt
  have lt2 := B2.lt
  have ct := fun W (h : Grow w0 W) => ih gk (ok + j * 6) w0 W hEk hck hrow h
  clear hE hx hck hEk ih
  go_enter Try.func51, Try.ntmps51
  go_wp2
  refine wp_forget (fun W => Blk W w.heap.size 30 #[.int .i64 0, .int .i64 0, .string es] ∧ Grow w W) ⟨Blk.new _ _ _, (Grow.refl _).al _⟩ ?_
  rintro W ⟨B, G⟩
  apply wp_region_calm 8 (by kernel_rfl) (by kernel_rfl)
  case h' =>
    intro Q0 hQ0
    simp only [List.take_succ_cons, List.take_zero]
    repeat ((first | ((first | apply calm_p rfl | apply calm_y rfl rfl rfl); case h1 => (intro w1 hw1 hF K hK; obtain ⟨c1, f1⟩ := (Blk.grow B1 (G.trans hw1)).rules; obtain ⟨c2, f2⟩ := (Blk.grow B2 (G.trans hw1)).rules; have c5 := (hg.trans (G.trans hw1)).cell hc5; go_simp; first | exact hK _ (Grow.refl _) | (go_at_call 30; ((with_reducible refine (ct _ (hg.trans (G.trans hw1))).mono ?_); rintro e w' ⟨rfl, hg⟩; exact ⟨_, rfl, hK _ hg⟩)))) | apply calm_n rfl rfl rfl rfl); intro K hK; go_simp; apply hK; clear hK K)
    refine calm_nil ?_
    intro w1 hw1 hF
    apply hQ0
    clear hQ0
    simp only [List.drop_succ_cons, List.drop_zero]
    clear hF
    obtain ⟨cb, fb⟩ := (Blk.grow B hw1).rules
    go_wp2
    exact bodyPost_ret (by simp [results, Try.results51, go_sem, cb]) rfl ⟨rfl, growW⟩
  case hp' => trivial

structure Vars (W : World) (b : Nat) (gx ox : Nat) (A : Option Addr) (n cr : Nat) : Prop where
  b1 : Blk W b 78 #[.pointer (some ⟨gx, ox, none⟩)]
  b2 : Blk W (b + 1) 37 #[.slice A n cr]
  b3 : Blk W (b + 2) 30 #[.int .i64 0, .int .i64 0, .string es]
abbrev KC (row : List V) (A : Option Addr) (cr gx ox : Nat) (w : World) (i : Int) (v : V) : Prop := ∀ W, Vars W w.heap.size gx ox A row.length cr → Grow w W → Calls Try.prog 51 #[.int .i64 i, .pointer (some ⟨w.heap.size, 0, none⟩), .pointer (some ⟨w.heap.size + 1, 0, none⟩)] W fun en w' => en = .returned v.val ∧ Grow W w'
theorem Vars.grow {W W' : World} {b gx ox : Nat} {A : Option Addr} {n cr : Nat} (h : Vars W b gx ox A n cr) (hg : Grow W W') : Vars W' b gx ox A n cr := ⟨h.b1.grow hg, h.b2.grow hg, h.b3.grow hg⟩

theorem of_lit (row : List V) (A : Option Addr) (cr : Nat) (gx ox : Nat) (w0 w : World) (hrow : VSl w0 A row) (hg : Grow w0 w) (e : E) (hx : ECells w0 gx ox e) (hk : e.kind = 1) :
    Calls Try.prog 30 #[.pointer (some ⟨gx, ox, none⟩), .slice A row.length cr] w fun en w' => en = .returned (bare e.v).val ∧ Grow w w' := by
  go_enter Try.func30, Try.ntmps30
  go_upto_region 2 with fail
  refine wp_forget (fun W => Vars W w.heap.size gx ox A row.length cr ∧ Grow w W) ⟨⟨((Blk.new _ _ _).al _).al _, (Blk.new' _ _ _ (by simp)).al _, Blk.new' _ _ _ (by simp)⟩, growW⟩ ?_
  rintro W ⟨X, G⟩
  obtain ⟨c0, c1, c2, c3, c4, c5⟩ := hx.grow (hg.trans G)
  rw [hk] at c0
  obtain ⟨x1, y1⟩ := X.b1.rules
  obtain ⟨x3, y3⟩ := X.b3.rules
  have l3 := X.b3.lt
  go_wp2_with ((go_at_call 52; ((with_reducible refine (bare_any e.v _).mono ?_); rintro e w' ⟨rfl, hg⟩; obtain ⟨hc, hf, hz⟩ := hg.rules)))
  exact bodyPost_ret (by simp [results, Try.results30, go_sem, hc, l3, x3]) rfl ⟨rfl, growW⟩

theorem of_col (row : List V) (A : Option Addr) (cr : Nat) (gx ox : Nat) (w0 w : World) (hrow : VSl w0 A row) (hg : Grow w0 w) (e : E) (hx : ECells w0 gx ox e) (hk : e.kind = 2) (j : Nat) (hj : e.col = j) (v : V) (hv : row[j]? = some v) (hlen : row.length ≤ 9223372036854775807) :
    Calls Try.prog 30 #[.pointer (some ⟨gx, ox, none⟩), .slice A row.length cr] w fun en w' => en = .returned (bare v).val ∧ Grow w w' := by
  have hjl : j < row.length := (List.getElem?_eq_some_iff.1 hv).1
  obtain ⟨ga, oa, rfl, hvc⟩ := hrow j v hv
  go_enter Try.func30, Try.ntmps30
  go_upto_region 2 with fail
  refine wp_forget (fun W => Vars W w.heap.size gx ox (some ⟨ga, oa, none⟩) row.length cr ∧ Grow w W) ⟨⟨((Blk.new _ _ _).al _).al _, (Blk.new' _ _ _ (by simp)).al _, Blk.new' _ _ _ (by simp)⟩, growW⟩ ?_
  rintro W ⟨X, G⟩
  obtain ⟨c0, c1, c2, c3, c4, c5⟩ := hx.grow (hg.trans G)
  rw [hk] at c0
  rw [hj] at c4
  have d4 : decide ((row.length : Int) ≤ (j : Int)) = false := by simp; omega
  have hx4 := hx.c4
  rw [hj] at hx4
  clear hx hj hk
  have l3 := X.b3.lt
  have x1 := X.b1.rules.1
  have x2 := X.b2.rules.1
  go_wp2
  go_quiet (fail)
  go_wp2
  refine wp_forget (fun W => Vars W w.heap.size gx ox (some ⟨ga, oa, none⟩) row.length cr ∧ Grow w W) ⟨X.grow growW, growW⟩ ?_
  clear X G c0 c1 c2 c3 c4 c5 x1 x2 l3
  rintro W ⟨X, G⟩
  apply wp_region_calm 8 (by kernel_rfl) (by kernel_rfl)
  case h' =>
    intro Q0 hQ0
    simp only [List.take_succ_cons, List.take_zero]
    repeat ((first | ((first | apply calm_p rfl | apply calm_y rfl rfl rfl); case h1 => (intro w1 hw1 hF K hK; obtain ⟨x1, y1⟩ := (X.grow hw1).b1.rules; obtain ⟨x2, y2⟩ := (X.grow hw1).b2.rules; have c4 := (hg.trans (G.trans hw1)).cell hx4; obtain ⟨v1, v2, v3⟩ := hvc.grow (hg.trans (G.trans hw1)); go_simp; first | exact hK _ (Grow.refl _) | (go_at_call 52; ((with_reducible refine (bare_any v _).mono ?_); rintro e w' ⟨rfl, hg⟩; exact ⟨_, rfl, hK _ hg⟩)))) | apply calm_n rfl rfl rfl rfl); intro K hK; go_simp; apply hK; clear hK K)
    refine calm_nil ?_
    intro w1 hw1 hF
    apply hQ0
    clear hQ0
    simp only [List.drop_succ_cons, List.drop_zero]
    clear hF
    obtain ⟨x3, y3⟩ := (X.grow hw1).b3.rules
    go_wp2
    exact bodyPost_ret (by simp [results, Try.results30, go_sem, x3]) rfl ⟨rfl, growW⟩
  case hp' => trivial

theorem of_not (row : List V) (A : Option Addr) (cr : Nat) (gx ox : Nat) (w0 w : World) (hrow : VSl w0 A row) (hg : Grow w0 w) (e : E) (hx : ECells w0 gx ox e) (hk : e.kind = 3) (a : V) (ra : RV a) (K0 : KC row A cr gx ox w 0 a) :
    Calls Try.prog 30 #[.pointer (some ⟨gx, ox, none⟩), .slice A row.length cr] w fun en w' => en = .returned (notV a).val ∧ Grow w w' := by
  go_enter Try.func30, Try.ntmps30
  go_upto_region 2 with fail
  refine wp_forget (fun W => Vars W w.heap.size gx ox A row.length cr ∧ Grow w W) ⟨⟨((Blk.new _ _ _).al _).al _, (Blk.new' _ _ _ (by simp)).al _, Blk.new' _ _ _ (by simp)⟩, growW⟩ ?_
  rintro W ⟨X, G⟩
  have hx0 := (hx.grow (hg.trans G)).c0
  rw [hk] at hx0
  clear hx hk
  obtain ⟨x1, y1⟩ := X.b1.rules
  obtain ⟨x2, y2⟩ := X.b2.rules
  obtain ⟨x3, y3⟩ := X.b3.rules
  go_wp2_with (first | (go_at_call 51; ((with_reducible refine (K0 _ X G).mono ?_); rintro en w2 ⟨rfl, hg2⟩; replace X := X.grow hg2; replace G := G.trans hg2; clear hg2 x1 y1 x2 y2 x3 y3; obtain ⟨x1, y1⟩ := X.b1.rules; obtain ⟨x2, y2⟩ := X.b2.rules; obtain ⟨x3, y3⟩ := X.b3.rules)) | (go_at_call 53; ((with_reducible refine (not' _ ra.rb _).mono ?_); rintro en w2 ⟨rfl, hg2⟩; replace X := X.grow hg2; replace G := G.trans hg2; clear hg2 x1 y1 x2 y2 x3 y3; obtain ⟨x1, y1⟩ := X.b1.rules; obtain ⟨x2, y2⟩ := X.b2.rules; obtain ⟨x3, y3⟩ := X.b3.rules; have l3 := X.b3.lt)))
  exact bodyPost_ret (by simp [results, Try.results30, go_sem, x3]) rfl ⟨rfl, growW⟩

theorem of_and (row : List V) (A : Option Addr) (cr : Nat) (gx ox : Nat) (w0 w : World) (hrow : VSl w0 A row) (hg : Grow w0 w) (e : E) (hx : ECells w0 gx ox e) (hk : e.kind = 4) (a b : V) (ra : RV a) (rb : RV b) (K0 : KC row A cr gx ox w 0 a) (K1 : KC row A cr gx ox w 1 b) :
    Calls Try.prog 30 #[.pointer (some ⟨gx, ox, none⟩), .slice A row.length cr] w fun en w' => en = .returned (andV a b).val ∧ Grow w w' := by
  go_enter Try.func30, Try.ntmps30
  go_upto_region 2 with fail
  refine wp_forget (fun W => Vars W w.heap.size gx ox A row.length cr ∧ Grow w W) ⟨⟨((Blk.new _ _ _).al _).al _, (Blk.new' _ _ _ (by simp)).al _, Blk.new' _ _ _ (by simp)⟩, growW⟩ ?_
  rintro W ⟨X, G⟩
  have hx0 := (hx.grow (hg.trans G)).c0
  rw [hk] at hx0
  clear hx hk
  obtain ⟨x1, y1⟩ := X.b1.rules
  obtain ⟨x2, y2⟩ := X.b2.rules
  obtain ⟨x3, y3⟩ := X.b3.rules
  go_wp2_with (first | (go_at_call 51; ((with_reducible refine (K0 _ X G).mono ?_); rintro en w2 ⟨rfl, hg2⟩; replace X := X.grow hg2; replace G := G.trans hg2; clear hg2 x1 y1 x2 y2 x3 y3; obtain ⟨x1, y1⟩ := X.b1.rules; obtain ⟨x2, y2⟩ := X.b2.rules; obtain ⟨x3, y3⟩ := X.b3.rules)) | (go_at_call 51; ((with_reducible refine (K1 _ X G).mono ?_); rintro en w2 ⟨rfl, hg2⟩; replace X := X.grow hg2; replace G := G.trans hg2; clear hg2 x1 y1 x2 y2 x3 y3; obtain ⟨x1, y1⟩ := X.b1.rules; obtain ⟨x2, y2⟩ := X.b2.rules; obtain ⟨x3, y3⟩ := X.b3.rules)) | (go_at_call 54; ((with_reducible refine (and_any _ _ ra.rb rb.rb _).mono ?_); rintro en w2 ⟨rfl, hg2⟩; replace X := X.grow hg2; replace G := G.trans hg2; clear hg2 x1 y1 x2 y2 x3 y3; obtain ⟨x1, y1⟩ := X.b1.rules; obtain ⟨x2, y2⟩ := X.b2.rules; obtain ⟨x3, y3⟩ := X.b3.rules; have l3 := X.b3.lt)))
  exact bodyPost_ret (by simp [results, Try.results30, go_sem, x3]) rfl ⟨rfl, growW⟩

theorem of_or (row : List V) (A : Option Addr) (cr : Nat) (gx ox : Nat) (w0 w : World) (hrow : VSl w0 A row) (hg : Grow w0 w) (e : E) (hx : ECells w0 gx ox e) (hk : e.kind = 5) (a b : V) (ra : RV a) (rb : RV b) (K0 : KC row A cr gx ox w 0 a) (K1 : KC row A cr gx ox w 1 b) :
    Calls Try.prog 30 #[.pointer (some ⟨gx, ox, none⟩), .slice A row.length cr] w fun en w' => en = .returned (orV a b).val ∧ Grow w w' := by
  go_enter Try.func30, Try.ntmps30
  go_upto_region 2 with fail
  refine wp_forget (fun W => Vars W w.heap.size gx ox A row.length cr ∧ Grow w W) ⟨⟨((Blk.new _ _ _).al _).al _, (Blk.new' _ _ _ (by simp)).al _, Blk.new' _ _ _ (by simp)⟩, growW⟩ ?_
  rintro W ⟨X, G⟩
  have hx0 := (hx.grow (hg.trans G)).c0
  rw [hk] at hx0
  clear hx hk
  obtain ⟨x1, y1⟩ := X.b1.rules
  obtain ⟨x2, y2⟩ := X.b2.rules
  obtain ⟨x3, y3⟩ := X.b3.rules
  go_wp2_with (first | (go_at_call 51; ((with_reducible refine (K0 _ X G).mono ?_); rintro en w2 ⟨rfl, hg2⟩; replace X := X.grow hg2; replace G := G.trans hg2; clear hg2 x1 y1 x2 y2 x3 y3; obtain ⟨x1, y1⟩ := X.b1.rules; obtain ⟨x2, y2⟩ := X.b2.rules; obtain ⟨x3, y3⟩ := X.b3.rules)) | (go_at_call 51; ((with_reducible refine (K1 _ X G).mono ?_); rintro en w2 ⟨rfl, hg2⟩; replace X := X.grow hg2; replace G := G.trans hg2; clear hg2 x1 y1 x2 y2 x3 y3; obtain ⟨x1, y1⟩ := X.b1.rules; obtain ⟨x2, y2⟩ := X.b2.rules; obtain ⟨x3, y3⟩ := X.b3.rules)) | (go_at_call 55; ((with_reducible refine (or_any _ _ ra.rb rb.rb _).mono ?_); rintro en w2 ⟨rfl, hg2⟩; replace X := X.grow hg2; replace G := G.trans hg2; clear hg2 x1 y1 x2 y2 x3 y3; obtain ⟨x1, y1⟩ := X.b1.rules; obtain ⟨x2, y2⟩ := X.b2.rules; obtain ⟨x3, y3⟩ := X.b3.rules; have l3 := X.b3.lt)))
  exact bodyPost_ret (by simp [results, Try.results30, go_sem, x3]) rfl ⟨rfl, growW⟩

theorem of_cat (row : List V) (A : Option Addr) (cr : Nat) (gx ox : Nat) (w0 w : World) (hrow : VSl w0 A row) (hg : Grow w0 w) (e : E) (hx : ECells w0 gx ox e) (hk : e.kind = 15) (a b : V) (ra : RV a) (rb : RV b) (K0 : KC row A cr gx ox w 0 a) (K1 : KC row A cr gx ox w 1 b) :
    Calls Try.prog 30 #[.pointer (some ⟨gx, ox, none⟩), .slice A row.length cr] w fun en w' => en = .returned (joinV a b).val ∧ Grow w w' := by
  go_enter Try.func30, Try.ntmps30
  go_upto_region 2 with fail
  refine wp_forget (fun W => Vars W w.heap.size gx ox A row.length cr ∧ Grow w W) ⟨⟨((Blk.new _ _ _).al _).al _, (Blk.new' _ _ _ (by simp)).al _, Blk.new' _ _ _ (by simp)⟩, growW⟩ ?_
  rintro W ⟨X, G⟩
  have hx0 := (hx.grow (hg.trans G)).c0
  rw [hk] at hx0
  clear hx hk
  obtain ⟨x1, y1⟩ := X.b1.rules
  obtain ⟨x2, y2⟩ := X.b2.rules
  obtain ⟨x3, y3⟩ := X.b3.rules
  go_wp2_with (first | (go_at_call 51; ((with_reducible refine (K0 _ X G).mono ?_); rintro en w2 ⟨rfl, hg2⟩; replace X := X.grow hg2; replace G := G.trans hg2; clear hg2 x1 y1 x2 y2 x3 y3; obtain ⟨x1, y1⟩ := X.b1.rules; obtain ⟨x2, y2⟩ := X.b2.rules; obtain ⟨x3, y3⟩ := X.b3.rules)) | (go_at_call 51; ((with_reducible refine (K1 _ X G).mono ?_); rintro en w2 ⟨rfl, hg2⟩; replace X := X.grow hg2; replace G := G.trans hg2; clear hg2 x1 y1 x2 y2 x3 y3; obtain ⟨x1, y1⟩ := X.b1.rules; obtain ⟨x2, y2⟩ := X.b2.rules; obtain ⟨x3, y3⟩ := X.b3.rules)) | (go_at_call 57; ((with_reducible refine (join_any _ _ ra rb _).mono ?_); rintro en w2 ⟨rfl, hg2⟩; replace X := X.grow hg2; replace G := G.trans hg2; clear hg2 x1 y1 x2 y2 x3 y3; obtain ⟨x1, y1⟩ := X.b1.rules; obtain ⟨x2, y2⟩ := X.b2.rules; obtain ⟨x3, y3⟩ := X.b3.rules; have l3 := X.b3.lt)))
  exact bodyPost_ret (by simp [results, Try.results30, go_sem, x3]) rfl ⟨rfl, growW⟩

theorem of_case_t (row : List V) (A : Option Addr) (cr : Nat) (gx ox : Nat) (w0 w : World) (hrow : VSl w0 A row) (hg : Grow w0 w) (e : E) (hx : ECells w0 gx ox e) (hk : e.kind = 17) (a b : V) (ra : RV a) (hr : (rankV a == 2) = true) (K0 : KC row A cr gx ox w 0 a) (K1 : KC row A cr gx ox w 1 b) :
    Calls Try.prog 30 #[.pointer (some ⟨gx, ox, none⟩), .slice A row.length cr] w fun en w' => en = .returned b.val ∧ Grow w w' := by
  go_enter Try.func30, Try.ntmps30
  go_upto_region 2 with fail
  refine wp_forget (fun W => Vars W w.heap.size gx ox A row.length cr ∧ Grow w W) ⟨⟨((Blk.new _ _ _).al _).al _, (Blk.new' _ _ _ (by simp)).al _, Blk.new' _ _ _ (by simp)⟩, growW⟩ ?_
  rintro W ⟨X, G⟩
  have hx0 := (hx.grow (hg.trans G)).c0
  rw [hk] at hx0
  clear hx hk
  obtain ⟨x1, y1⟩ := X.b1.rules
  obtain ⟨x2, y2⟩ := X.b2.rules
  obtain ⟨x3, y3⟩ := X.b3.rules
  have ct := fun W => true_any a ra.rb W
  rw [hr] at ct
  go_wp2_with (first | (go_at_call 51; ((with_reducible refine (K0 _ X G).mono ?_); rintro en w2 ⟨rfl, hg2⟩; replace X := X.grow hg2; replace G := G.trans hg2; clear hg2 x1 y1 x2 y2 x3 y3; obtain ⟨x1, y1⟩ := X.b1.rules; obtain ⟨x2, y2⟩ := X.b2.rules; obtain ⟨x3, y3⟩ := X.b3.rules; have l3 := X.b3.lt)) | (go_at_call 51; ((with_reducible refine (K1 _ X G).mono ?_); rintro en w2 ⟨rfl, hg2⟩; replace X := X.grow hg2; replace G := G.trans hg2; clear hg2 x1 y1 x2 y2 x3 y3; obtain ⟨x1, y1⟩ := X.b1.rules; obtain ⟨x2, y2⟩ := X.b2.rules; obtain ⟨x3, y3⟩ := X.b3.rules; have l3 := X.b3.lt)) | (go_at_call 29; ((with_reducible refine (ct _).mono ?_); rintro en w2 ⟨rfl, hg2⟩; replace X := X.grow hg2; replace G := G.trans hg2; clear hg2 x1 y1 x2 y2 x3 y3; obtain ⟨x1, y1⟩ := X.b1.rules; obtain ⟨x2, y2⟩ := X.b2.rules; obtain ⟨x3, y3⟩ := X.b3.rules; have l3 := X.b3.lt)))
  have l3 := X.b3.lt
  exact bodyPost_ret (by simp [results, Try.results30, go_sem, x3]) rfl ⟨rfl, growW⟩

theorem of_case_f (row : List V) (A : Option Addr) (cr : Nat) (gx ox : Nat) (w0 w : World) (hrow : VSl w0 A row) (hg : Grow w0 w) (e : E) (hx : ECells w0 gx ox e) (hk : e.kind = 17) (a d : V) (ra : RV a) (hr : (rankV a == 2) = false) (K0 : KC row A cr gx ox w 0 a) (K2 : KC row A cr gx ox w 2 d) :
    Calls Try.prog 30 #[.pointer (some ⟨gx, ox, none⟩), .slice A row.length cr] w fun en w' => en = .returned d.val ∧ Grow w w' := by
  go_enter Try.func30, Try.ntmps30
  go_upto_region 2 with fail
  refine wp_forget (fun W => Vars W w.heap.size gx ox A row.length cr ∧ Grow w W) ⟨⟨((Blk.new _ _ _).al _).al _, (Blk.new' _ _ _ (by simp)).al _, Blk.new' _ _ _ (by simp)⟩, growW⟩ ?_
  rintro W ⟨X, G⟩
  have hx0 := (hx.grow (hg.trans G)).c0
  rw [hk] at hx0
  clear hx hk
  obtain ⟨x1, y1⟩ := X.b1.rules
  obtain ⟨x2, y2⟩ := X.b2.rules
  obtain ⟨x3, y3⟩ := X.b3.rules
  have ct := fun W => true_any a ra.rb W
  rw [hr] at ct
  go_wp2_with (first | (go_at_call 51; ((with_reducible refine (K0 _ X G).mono ?_); rintro en w2 ⟨rfl, hg2⟩; replace X := X.grow hg2; replace G := G.trans hg2; clear hg2 x1 y1 x2 y2 x3 y3; obtain ⟨x1, y1⟩ := X.b1.rules; obtain ⟨x2, y2⟩ := X.b2.rules; obtain ⟨x3, y3⟩ := X.b3.rules; have l3 := X.b3.lt)) | (go_at_call 51; ((with_reducible refine (K2 _ X G).mono ?_); rintro en w2 ⟨rfl, hg2⟩; replace X := X.grow hg2; replace G := G.trans hg2; clear hg2 x1 y1 x2 y2 x3 y3; obtain ⟨x1, y1⟩ := X.b1.rules; obtain ⟨x2, y2⟩ := X.b2.rules; obtain ⟨x3, y3⟩ := X.b3.rules; have l3 := X.b3.lt)) | (go_at_call 29; ((with_reducible refine (ct _).mono ?_); rintro en w2 ⟨rfl, hg2⟩; replace X := X.grow hg2; replace G := G.trans hg2; clear hg2 x1 y1 x2 y2 x3 y3; obtain ⟨x1, y1⟩ := X.b1.rules; obtain ⟨x2, y2⟩ := X.b2.rules; obtain ⟨x3, y3⟩ := X.b3.rules; have l3 := X.b3.lt)))
  have l3 := X.b3.lt
  exact bodyPost_ret (by simp [results, Try.results30, go_sem, x3]) rfl ⟨rfl, growW⟩

theorem of_coal_a (row : List V) (A : Option Addr) (cr : Nat) (gx ox : Nat) (w0 w : World) (hrow : VSl w0 A row) (hg : Grow w0 w) (e : E) (hx : ECells w0 gx ox e) (hk : e.kind = 18) (a : V) (ha : (a.k != 1) = true) (K0 : KC row A cr gx ox w 0 a) :
    Calls Try.prog 30 #[.pointer (some ⟨gx, ox, none⟩), .slice A row.length cr] w fun en w' => en = .returned a.val ∧ Grow w w' := by
  go_enter Try.func30, Try.ntmps30
  go_upto_region 2 with fail
  refine wp_forget (fun W => Vars W w.heap.size gx ox A row.length cr ∧ Grow w W) ⟨⟨((Blk.new _ _ _).al _).al _, (Blk.new' _ _ _ (by simp)).al _, Blk.new' _ _ _ (by simp)⟩, growW⟩ ?_
  rintro W ⟨X, G⟩
  have hx0 := (hx.grow (hg.trans G)).c0
  rw [hk] at hx0
  clear hx hk
  obtain ⟨x1, y1⟩ := X.b1.rules
  obtain ⟨x2, y2⟩ := X.b2.rules
  obtain ⟨x3, y3⟩ := X.b3.rules
  have l3 := X.b3.lt
  go_wp2_with (first | (go_at_call 51; ((with_reducible refine (K0 _ X G).mono ?_); rintro en w2 ⟨rfl, hg2⟩; replace X := X.grow hg2; replace G := G.trans hg2; clear hg2 x1 y1 x2 y2 x3 y3; obtain ⟨x1, y1⟩ := X.b1.rules; obtain ⟨x2, y2⟩ := X.b2.rules; obtain ⟨x3, y3⟩ := X.b3.rules; have l3 := X.b3.lt)))
  have l4 : w.heap.size + 1 + 1 < w2.heap.size := l3
  have l5 : ¬ (w.heap.size + 1 + 1 = w2.heap.size) := Nat.ne_of_lt l4
  exact bodyPost_ret (by simp [results, Try.results30, go_sem, x3, l4, l5]) rfl ⟨rfl, growW⟩

theorem of_coal_b (row : List V) (A : Option Addr) (cr : Nat) (gx ox : Nat) (w0 w : World) (hrow : VSl w0 A row) (hg : Grow w0 w) (e : E) (hx : ECells w0 gx ox e) (hk : e.kind = 18) (a b : V) (ha : (a.k != 1) = false) (K0 : KC row A cr gx ox w 0 a) (K1 : KC row A cr gx ox w 1 b) :
    Calls Try.prog 30 #[.pointer (some ⟨gx, ox, none⟩), .slice A row.length cr] w fun en w' => en = .returned b.val ∧ Grow w w' := by
  go_enter Try.func30, Try.ntmps30
  go_upto_region 2 with fail
  refine wp_forget (fun W => Vars W w.heap.size gx ox A row.length cr ∧ Grow w W) ⟨⟨((Blk.new _ _ _).al _).al _, (Blk.new' _ _ _ (by simp)).al _, Blk.new' _ _ _ (by simp)⟩, growW⟩ ?_
  rintro W ⟨X, G⟩
  have hx0 := (hx.grow (hg.trans G)).c0
  rw [hk] at hx0
  clear hx hk
  obtain ⟨x1, y1⟩ := X.b1.rules
  obtain ⟨x2, y2⟩ := X.b2.rules
  obtain ⟨x3, y3⟩ := X.b3.rules
  have l3 := X.b3.lt
  go_wp2_with (first | (go_at_call 51; ((with_reducible refine (K0 _ X G).mono ?_); rintro en w2 ⟨rfl, hg2⟩; replace X := X.grow hg2; replace G := G.trans hg2; clear hg2 x1 y1 x2 y2 x3 y3; obtain ⟨x1, y1⟩ := X.b1.rules; obtain ⟨x2, y2⟩ := X.b2.rules; obtain ⟨x3, y3⟩ := X.b3.rules; have l3 := X.b3.lt)) | (go_at_call 51; ((with_reducible refine (K1 _ (X.grow growW) (G.trans growW)).mono ?_); rintro en w3 ⟨rfl, hg3⟩; have X3 := (X.grow growW).grow hg3; clear x1 y1 x2 y2 x3 y3; obtain ⟨x3, y3⟩ := X3.b3.rules)))
  exact bodyPost_ret (by simp [results, Try.results30, go_sem, x3]) rfl ⟨rfl, growW⟩

theorem of_cmp (row : List V) (A : Option Addr) (cr : Nat) (gx ox : Nat) (w0 w : World) (hrow : VSl w0 A row) (hg : Grow w0 w) (e : E) (k : Int) (hx : ECells w0 gx ox e) (hk : e.kind = k) (h6 : 6 ≤ k ∧ k ≤ 11) (a b : V) (K0 : KC row A cr gx ox w 0 a) (K1 : KC row A cr gx ox w 1 b) :
    Calls Try.prog 30 #[.pointer (some ⟨gx, ox, none⟩), .slice A row.length cr] w fun en w' => en = .returned (comparedV k a b).val ∧ Grow w w' := by
  go_enter Try.func30, Try.ntmps30
  go_upto_region 2 with fail
  refine wp_forget (fun W => Vars W w.heap.size gx ox A row.length cr ∧ Grow w W) ⟨⟨((Blk.new _ _ _).al _).al _, (Blk.new' _ _ _ (by simp)).al _, Blk.new' _ _ _ (by simp)⟩, growW⟩ ?_
  rintro W ⟨X, G⟩
  have c0 := hx.c0
  rw [hk] at c0
  have hx0 := (hg.trans G).cell c0
  clear hx hk
  have x1 := X.b1.rules.1
  have e1 : (k == 1) = false := by simp; omega
  have e2 : (k == 2) = false := by simp; omega
  have e3 : (k == 3) = false := by simp; omega
  have e4 : (k == 4) = false := by simp; omega
  have e5 : (k == 5) = false := by simp; omega
  have e12 : (k == 12) = false := by simp; omega
  have e13 : (k == 13) = false := by simp; omega
  have e14 : (k == 14) = false := by simp; omega
  have e15 : (k == 15) = false := by simp; omega
  have e16 : (k == 16) = false := by simp; omega
  have e17 : (k == 17) = false := by simp; omega
  have e18 : (k == 18) = false := by simp; omega
  go_wp2
  refine wp_forget (fun W => Vars W w.heap.size gx ox A row.length cr ∧ Grow w W) ⟨X, G⟩ ?_
  clear X G hx0 x1
  rintro W ⟨X, G⟩
  apply wp_region_calm 9 (by kernel_rfl) (by kernel_rfl)
  case h' =>
    intro Q0 hQ0
    simp only [List.take_succ_cons, List.take_zero]
    repeat ((first | ((first | apply calm_p rfl | apply calm_y rfl rfl rfl); case h1 => (intro w1 hw1 hF K hK; obtain ⟨x1, y1⟩ := (X.grow hw1).b1.rules; obtain ⟨x2, y2⟩ := (X.grow hw1).b2.rules; have hx0 := (hg.trans (G.trans hw1)).cell c0; go_simp; first | exact hK _ (Grow.refl _) | (go_at_call 51; ((with_reducible refine (K0 _ (X.grow hw1) (G.trans hw1)).mono ?_); rintro e w' ⟨rfl, hg⟩; exact ⟨_, rfl, hK _ hg⟩)) | (go_at_call 51; ((with_reducible refine (K1 _ (X.grow hw1) (G.trans hw1)).mono ?_); rintro e w' ⟨rfl, hg⟩; exact ⟨_, rfl, hK _ hg⟩)) | (go_at_call 59; ((with_reducible refine (compared_any k a b h6 _).mono ?_); rintro e w' ⟨rfl, hg⟩; exact ⟨_, rfl, hK _ hg⟩)))) | apply calm_n rfl rfl rfl rfl); intro K hK; go_simp; apply hK; clear hK K)
    refine calm_nil ?_
    intro w1 hw1 hF
    apply hQ0
    clear hQ0
    simp only [List.drop_succ_cons, List.drop_zero]
    clear hF
    obtain ⟨x3, y3⟩ := (X.grow hw1).b3.rules
    go_wp2
    exact bodyPost_ret (by simp [results, Try.results30, go_sem, x3]) rfl ⟨rfl, growW⟩
  case hp' => trivial

theorem of_add (row : List V) (A : Option Addr) (cr : Nat) (gx ox : Nat) (w0 w : World) (hrow : VSl w0 A row) (hg : Grow w0 w) (e : E) (hx : ECells w0 gx ox e) (hk : e.kind = 12) (a b : V) (ra : RV a) (rb : RV b) (K0 : KC row A cr gx ox w 0 a) (K1 : KC row A cr gx ox w 1 b) :
    Calls Try.prog 30 #[.pointer (some ⟨gx, ox, none⟩), .slice A row.length cr] w fun en w' => en = .returned (reckonV 43 a b).val ∧ Grow w w' := by
  go_enter Try.func30, Try.ntmps30
  go_upto_region 2 with fail
  refine wp_forget (fun W => Vars W w.heap.size gx ox A row.length cr ∧ Grow w W) ⟨⟨((Blk.new _ _ _).al _).al _, (Blk.new' _ _ _ (by simp)).al _, Blk.new' _ _ _ (by simp)⟩, growW⟩ ?_
  rintro W ⟨X, G⟩
  have c0 := hx.c0
  rw [hk] at c0
  have hx0 := (hg.trans G).cell c0
  clear hx hk
  have x1 := X.b1.rules.1
  go_wp2
  refine wp_forget (fun W => Vars W w.heap.size gx ox A row.length cr ∧ Grow w W) ⟨X, G⟩ ?_
  clear X G hx0 x1
  rintro W ⟨X, G⟩
  apply wp_region_calm 13 (by kernel_rfl) (by kernel_rfl)
  case h' =>
    intro Q0 hQ0
    simp only [List.take_succ_cons, List.take_zero]
    apply calm_fp (fun v W => ∃ g, v = .slice (some ⟨g, 0, none⟩) 3 3 ∧ Blk W g 21 #[.int .i32 43, .int .i32 45, .int .i32 42]) rfl
    case h1 =>
      intro w1 hw1 hF K hK
      go_simp
      exact hK _ _ ((Grow.refl _).al _) ⟨_, rfl, Blk.new _ _ _⟩
    intro sl K hK
    go_simp
    apply hK
    clear hK K
    repeat ((first | ((first | apply calm_p rfl | apply calm_y rfl rfl rfl); case h1 => (intro w1 hw1 hF K hK; obtain ⟨x1, y1⟩ := (X.grow hw1).b1.rules; obtain ⟨x2, y2⟩ := (X.grow hw1).b2.rules; have hx0 := (hg.trans (G.trans hw1)).cell c0; go_simp; first | exact hK _ (Grow.refl _))) | apply calm_n rfl rfl rfl rfl); intro K hK; go_simp; apply hK; clear hK K)
    apply calm_fp (fun v W => ∃ g, v = .pointer (some ⟨g, 0, none⟩) ∧ Blk W g 21 #[.int .i32 43, .int .i32 45, .int .i32 42]) rfl
    case h1 =>
      intro w1 hw1 hF K hK
      obtain ⟨g, hsl, B⟩ := hF _ (List.mem_cons_self ..) ⟨_, rfl, by decide⟩
      subst hsl
      go_simp
      exact hK _ _ (Grow.refl _) ⟨_, rfl, B⟩
    intro pt K hK
    go_simp
    apply hK
    clear hK K
    apply calm_p rfl
    case h1 =>
      intro w1 hw1 hF K hK
      obtain ⟨g, hpt, B⟩ := hF _ (List.mem_cons_self ..) ⟨_, rfl, by decide⟩
      subst hpt
      obtain ⟨z1, z2⟩ := B.rules
      go_simp
      exact hK _ (Grow.refl _)
    intro K hK
    go_simp
    apply hK
    clear hK K
    repeat ((first | ((first | apply calm_p rfl | apply calm_y rfl rfl rfl); case h1 => (intro w1 hw1 hF K hK; obtain ⟨x1, y1⟩ := (X.grow hw1).b1.rules; obtain ⟨x2, y2⟩ := (X.grow hw1).b2.rules; have hx0 := (hg.trans (G.trans hw1)).cell c0; go_simp; first | exact hK _ (Grow.refl _) | (go_at_call 51; ((with_reducible refine (K0 _ (X.grow hw1) (G.trans hw1)).mono ?_); rintro e w' ⟨rfl, hg⟩; exact ⟨_, rfl, hK _ hg⟩)) | (go_at_call 51; ((with_reducible refine (K1 _ (X.grow hw1) (G.trans hw1)).mono ?_); rintro e w' ⟨rfl, hg⟩; exact ⟨_, rfl, hK _ hg⟩)) | (go_at_call 56; ((with_reducible refine (reckon_any 43 a b ra rb _).mono ?_); rintro e w' ⟨rfl, hg⟩; exact ⟨_, rfl, hK _ hg⟩)))) | apply calm_n rfl rfl rfl rfl); intro K hK; go_simp; apply hK; clear hK K)
    refine calm_nil ?_
    intro w1 hw1 hF
    apply hQ0
    clear hQ0
    simp only [List.drop_succ_cons, List.drop_zero]
    clear hF
    obtain ⟨x3, y3⟩ := (X.grow hw1).b3.rules
    go_wp2
    exact bodyPost_ret (by simp [results, Try.results30, go_sem, x3]) rfl ⟨rfl, growW⟩
  case hp' => exact ⟨fun v w w' hg ⟨g, e, hb⟩ => ⟨g, e, hb.grow hg⟩, fun v w w' hg ⟨g, e, hb⟩ => ⟨g, e, hb.grow hg⟩, trivial⟩

theorem of_sub (row : List V) (A : Option Addr) (cr : Nat) (gx ox : Nat) (w0 w : World) (hrow : VSl w0 A row) (hg : Grow w0 w) (e : E) (hx : ECells w0 gx ox e) (hk : e.kind = 13) (a b : V) (ra : RV a) (rb : RV b) (K0 : KC row A cr gx ox w 0 a) (K1 : KC row A cr gx ox w 1 b) :
    Calls Try.prog 30 #[.pointer (some ⟨gx, ox, none⟩), .slice A row.length cr] w fun en w' => en = .returned (reckonV 45 a b).val ∧ Grow w w' := by
  go_enter Try.func30, Try.ntmps30
  go_upto_region 2 with fail
  refine wp_forget (fun W => Vars W w.heap.size gx ox A row.length cr ∧ Grow w W) ⟨⟨((Blk.new _ _ _).al _).al _, (Blk.new' _ _ _ (by simp)).al _, Blk.new' _ _ _ (by simp)⟩, growW⟩ ?_
  rintro W ⟨X, G⟩
  have c0 := hx.c0
  rw [hk] at c0
  have hx0 := (hg.trans G).cell c0
  clear hx hk
  have x1 := X.b1.rules.1
  go_wp2
  refine wp_forget (fun W => Vars W w.heap.size gx ox A row.length cr ∧ Grow w W) ⟨X, G⟩ ?_
  clear X G hx0 x1
  rintro W ⟨X, G⟩
  apply wp_region_calm 13 (by kernel_rfl) (by kernel_rfl)
  case h' =>
    intro Q0 hQ0
    simp only [List.take_succ_cons, List.take_zero]
    apply calm_fp (fun v W => ∃ g, v = .slice (some ⟨g, 0, none⟩) 3 3 ∧ Blk W g 21 #[.int .i32 43, .int .i32 45, .int .i32 42]) rfl
    case h1 =>
      intro w1 hw1 hF K hK
      go_simp
      exact hK _ _ ((Grow.refl _).al _) ⟨_, rfl, Blk.new _ _ _⟩
    intro sl K hK
    go_simp
    apply hK
    clear hK K
    repeat ((first | ((first | apply calm_p rfl | apply calm_y rfl rfl rfl); case h1 => (intro w1 hw1 hF K hK; obtain ⟨x1, y1⟩ := (X.grow hw1).b1.rules; obtain ⟨x2, y2⟩ := (X.grow hw1).b2.rules; have hx0 := (hg.trans (G.trans hw1)).cell c0; go_simp; first | exact hK _ (Grow.refl _))) | apply calm_n rfl rfl rfl rfl); intro K hK; go_simp; apply hK; clear hK K)
    apply calm_fp (fun v W => ∃ g, v = .pointer (some ⟨g, 1, none⟩) ∧ Blk W g 21 #[.int .i32 43, .int .i32 45, .int .i32 42]) rfl
    case h1 =>
      intro w1 hw1 hF K hK
      obtain ⟨g, hsl, B⟩ := hF _ (List.mem_cons_self ..) ⟨_, rfl, by decide⟩
      subst hsl
      go_simp
      exact hK _ _ (Grow.refl _) ⟨_, rfl, B⟩
    intro pt K hK
    go_simp
    apply hK
    clear hK K
    apply calm_p rfl
    case h1 =>
      intro w1 hw1 hF K hK
      obtain ⟨g, hpt, B⟩ := hF _ (List.mem_cons_self ..) ⟨_, rfl, by decide⟩
      subst hpt
      obtain ⟨z1, z2⟩ := B.rules
      go_simp
      exact hK _ (Grow.refl _)
    intro K hK
    go_simp
    apply hK
    clear hK K
    repeat ((first | ((first | apply calm_p rfl | apply calm_y rfl rfl rfl); case h1 => (intro w1 hw1 hF K hK; obtain ⟨x1, y1⟩ := (X.grow hw1).b1.rules; obtain ⟨x2, y2⟩ := (X.grow hw1).b2.rules; have hx0 := (hg.trans (G.trans hw1)).cell c0; go_simp; first | exact hK _ (Grow.refl _) | (go_at_call 51; ((with_reducible refine (K0 _ (X.grow hw1) (G.trans hw1)).mono ?_); rintro e w' ⟨rfl, hg⟩; exact ⟨_, rfl, hK _ hg⟩)) | (go_at_call 51; ((with_reducible refine (K1 _ (X.grow hw1) (G.trans hw1)).mono ?_); rintro e w' ⟨rfl, hg⟩; exact ⟨_, rfl, hK _ hg⟩)) | (go_at_call 56; ((with_reducible refine (reckon_any 45 a b ra rb _).mono ?_); rintro e w' ⟨rfl, hg⟩; exact ⟨_, rfl, hK _ hg⟩)))) | apply calm_n rfl rfl rfl rfl); intro K hK; go_simp; apply hK; clear hK K)
    refine calm_nil ?_
    intro w1 hw1 hF
    apply hQ0
    clear hQ0
    simp only [List.drop_succ_cons, List.drop_zero]
    clear hF
    obtain ⟨x3, y3⟩ := (X.grow hw1).b3.rules
    go_wp2
    exact bodyPost_ret (by simp [results, Try.results30, go_sem, x3]) rfl ⟨rfl, growW⟩
  case hp' => exact ⟨fun v w w' hg ⟨g, e, hb⟩ => ⟨g, e, hb.grow hg⟩, fun v w w' hg ⟨g, e, hb⟩ => ⟨g, e, hb.grow hg⟩, trivial⟩

theorem of_mul (row : List V) (A : Option Addr) (cr : Nat) (gx ox : Nat) (w0 w : World) (hrow : VSl w0 A row) (hg : Grow w0 w) (e : E) (hx : ECells w0 gx ox e) (hk : e.kind = 14) (a b : V) (ra : RV a) (rb : RV b) (K0 : KC row A cr gx ox w 0 a) (K1 : KC row A cr gx ox w 1 b) :
    Calls Try.prog 30 #[.pointer (some ⟨gx, ox, none⟩), .slice A row.length cr] w fun en w' => en = .returned (reckonV 42 a b).val ∧ Grow w w' := by
  go_enter Try.func30, Try.ntmps30
  go_upto_region 2 with fail
  refine wp_forget (fun W => Vars W w.heap.size gx ox A row.length cr ∧ Grow w W) ⟨⟨((Blk.new _ _ _).al _).al _, (Blk.new' _ _ _ (by simp)).al _, Blk.new' _ _ _ (by simp)⟩, growW⟩ ?_
  rintro W ⟨X, G⟩
  have c0 := hx.c0
  rw [hk] at c0
  have hx0 := (hg.trans G).cell c0
  clear hx hk
  have x1 := X.b1.rules.1
  go_wp2
  refine wp_forget (fun W => Vars W w.heap.size gx ox A row.length cr ∧ Grow w W) ⟨X, G⟩ ?_
  clear X G hx0 x1
  rintro W ⟨X, G⟩
  apply wp_region_calm 13 (by kernel_rfl) (by kernel_rfl)
  case h' =>
    intro Q0 hQ0
    simp only [List.take_succ_cons, List.take_zero]
    apply calm_fp (fun v W => ∃ g, v = .slice (some ⟨g, 0, none⟩) 3 3 ∧ Blk W g 21 #[.int .i32 43, .int .i32 45, .int .i32 42]) rfl
    case h1 =>
      intro w1 hw1 hF K hK
      go_simp
      exact hK _ _ ((Grow.refl _).al _) ⟨_, rfl, Blk.new _ _ _⟩
    intro sl K hK
    go_simp
    apply hK
    clear hK K
    repeat ((first | ((first | apply calm_p rfl | apply calm_y rfl rfl rfl); case h1 => (intro w1 hw1 hF K hK; obtain ⟨x1, y1⟩ := (X.grow hw1).b1.rules; obtain ⟨x2, y2⟩ := (X.grow hw1).b2.rules; have hx0 := (hg.trans (G.trans hw1)).cell c0; go_simp; first | exact hK _ (Grow.refl _))) | apply calm_n rfl rfl rfl rfl); intro K hK; go_simp; apply hK; clear hK K)
    apply calm_fp (fun v W => ∃ g, v = .pointer (some ⟨g, 2, none⟩) ∧ Blk W g 21 #[.int .i32 43, .int .i32 45, .int .i32 42]) rfl
    case h1 =>
      intro w1 hw1 hF K hK
      obtain ⟨g, hsl, B⟩ := hF _ (List.mem_cons_self ..) ⟨_, rfl, by decide⟩
      subst hsl
      go_simp
      exact hK _ _ (Grow.refl _) ⟨_, rfl, B⟩
    intro pt K hK
    go_simp
    apply hK
    clear hK K
    apply calm_p rfl
    case h1 =>
      intro w1 hw1 hF K hK
      obtain ⟨g, hpt, B⟩ := hF _ (List.mem_cons_self ..) ⟨_, rfl, by decide⟩
      subst hpt
      obtain ⟨z1, z2⟩ := B.rules
      go_simp
      exact hK _ (Grow.refl _)
    intro K hK
    go_simp
    apply hK
    clear hK K
    repeat ((first | ((first | apply calm_p rfl | apply calm_y rfl rfl rfl); case h1 => (intro w1 hw1 hF K hK; obtain ⟨x1, y1⟩ := (X.grow hw1).b1.rules; obtain ⟨x2, y2⟩ := (X.grow hw1).b2.rules; have hx0 := (hg.trans (G.trans hw1)).cell c0; go_simp; first | exact hK _ (Grow.refl _) | (go_at_call 51; ((with_reducible refine (K0 _ (X.grow hw1) (G.trans hw1)).mono ?_); rintro e w' ⟨rfl, hg⟩; exact ⟨_, rfl, hK _ hg⟩)) | (go_at_call 51; ((with_reducible refine (K1 _ (X.grow hw1) (G.trans hw1)).mono ?_); rintro e w' ⟨rfl, hg⟩; exact ⟨_, rfl, hK _ hg⟩)) | (go_at_call 56; ((with_reducible refine (reckon_any 42 a b ra rb _).mono ?_); rintro e w' ⟨rfl, hg⟩; exact ⟨_, rfl, hK _ hg⟩)))) | apply calm_n rfl rfl rfl rfl); intro K hK; go_simp; apply hK; clear hK K)
    refine calm_nil ?_
    intro w1 hw1 hF
    apply hQ0
    clear hQ0
    simp only [List.drop_succ_cons, List.drop_zero]
    clear hF
    obtain ⟨x3, y3⟩ := (X.grow hw1).b3.rules
    go_wp2
    exact bodyPost_ret (by simp [results, Try.results30, go_sem, x3]) rfl ⟨rfl, growW⟩
  case hp' => exact ⟨fun v w w' hg ⟨g, e, hb⟩ => ⟨g, e, hb.grow hg⟩, fun v w w' hg ⟨g, e, hb⟩ => ⟨g, e, hb.grow hg⟩, trivial⟩

theorem of_null (row : List V) (A : Option Addr) (cr : Nat) (gx ox : Nat) (w0 w : World) (hrow : VSl w0 A row) (hg : Grow w0 w) (e : E) (hx : ECells w0 gx ox e) (hk : e.kind = 16) (a : V) (K0 : KC row A cr gx ox w 0 a) :
    Calls Try.prog 30 #[.pointer (some ⟨gx, ox, none⟩), .slice A row.length cr] w fun en w' => en = .returned (truth (a.k == 1)).val ∧ Grow w w' := by
  unfold KC V.val at K0
  have hfd : ∀ W : World, (Instr.field 30 (.agg #[.int .i64 a.k, .int .i64 a.n, .string a.s]) 0).run Try.prog W = .ok (.int .i64 a.k) W := fun _ => by kernel_rfl
  go_enter Try.func30, Try.ntmps30
  go_upto_region 2 with fail
  refine wp_forget (fun W => Vars W w.heap.size gx ox A row.length cr ∧ Grow w W) ⟨⟨((Blk.new _ _ _).al _).al _, (Blk.new' _ _ _ (by simp)).al _, Blk.new' _ _ _ (by simp)⟩, growW⟩ ?_
  rintro W ⟨X, G⟩
  have hx0 := (hx.grow (hg.trans G)).c0
  rw [hk] at hx0
  clear hx hk
  obtain ⟨x1, y1⟩ := X.b1.rules
  obtain ⟨x2, y2⟩ := X.b2.rules
  obtain ⟨x3, y3⟩ := X.b3.rules
  go_wp2_with (first | (go_at_call 51; ((with_reducible refine (K0 _ X G).mono ?_); rintro en w2 ⟨rfl, hg2⟩; replace X := X.grow hg2; replace G := G.trans hg2; clear hg2 x1 y1 x2 y2 x3 y3; obtain ⟨x1, y1⟩ := X.b1.rules; obtain ⟨x2, y2⟩ := X.b2.rules; obtain ⟨x3, y3⟩ := X.b3.rules)) | (go_at_call 58; ((with_reducible refine (bool_any _ _).mono ?_); rintro en w2 ⟨rfl, hg2⟩; replace X := X.grow hg2; replace G := G.trans hg2; clear hg2 x1 y1 x2 y2 x3 y3; obtain ⟨x1, y1⟩ := X.b1.rules; obtain ⟨x2, y2⟩ := X.b2.rules; obtain ⟨x3, y3⟩ := X.b3.rules; have l3 := X.b3.lt)))
  exact bodyPost_ret (by simp [results, Try.results30, go_sem, x3]) rfl ⟨rfl, growW⟩

theorem of_any (row : List V) (A : Option Addr) (cr : Nat) (hlen : row.length ≤ 9223372036854775807) (hr : ∀ x ∈ row, RV x) (e : E) (hre : RE row.length e) : OfC row A cr e := by
  induction hre with
  | @mk k v c Ak n cap kid h0 hn hv hc hk ih =>
    intro gx ox w0 w hE hx hrow hg
    have rv : ∀ i, i < n → RV (ofE row (kid i)) := fun i hi => rv_of row hr _ (hk i hi)
    have K : ∀ (j : Nat) (iv : Int), iv = j → j < n → ∀ W, Vars W w.heap.size gx ox A row.length cr → Grow w W → Calls Try.prog 51 #[.int .i64 iv, .pointer (some ⟨w.heap.size, 0, none⟩), .pointer (some ⟨w.heap.size + 1, 0, none⟩)] W fun en w' => en = .returned (ofE row (kid j)).val ∧ Grow W w' :=
      fun j iv hiv hj W X G => kid_fn row A cr (.mk k v c Ak n cap kid) j iv hiv hj _ rfl (ih j hj) gx ox w.heap.size (w.heap.size + 1) w0 W hE hx hrow (hg.trans G) X.b1 X.b2
    have e0 : ofE row (.mk k v c Ak n cap kid) = if k = 1 then bare v else if k = 2 then bare (row.getD c.toNat nullV') else opV k (ofE row (kid 0)) (ofE row (kid 1)) (ofE row (kid 2)) := rfl
    rw [e0]; clear e0
    rcases kinds h0 with h | h | h | h | h | h | h | h | h | h | h | h | h
    · subst h
      exact of_lit row A cr gx ox w0 w hrow hg (.mk 1 v c Ak n cap kid) hx rfl
    · subst h
      obtain ⟨c0, c1⟩ := hc rfl
      have hl : c.toNat < row.length := by omega
      rw [if_neg (by decide), if_pos rfl, List.getD_eq_getElem?_getD, List.getElem?_eq_getElem hl]
      exact of_col row A cr gx ox w0 w hrow hg (.mk 2 v c Ak n cap kid) hx rfl c.toNat (by show c = _; omega) _ (List.getElem?_eq_getElem hl) hlen
    · subst h
      have kn : kidsN 3 = 1 := rfl
      exact of_not row A cr gx ox w0 w hrow hg (.mk 3 v c Ak n cap kid) hx rfl _ (rv 0 (by omega)) (K 0 0 rfl (by omega))
    · subst h
      have kn : kidsN 4 = 2 := rfl
      exact of_and row A cr gx ox w0 w hrow hg (.mk 4 v c Ak n cap kid) hx rfl _ _ (rv 0 (by omega)) (rv 1 (by omega)) (K 0 0 rfl (by omega)) (K 1 1 rfl (by omega))
    · subst h
      have kn : kidsN 5 = 2 := rfl
      exact of_or row A cr gx ox w0 w hrow hg (.mk 5 v c Ak n cap kid) hx rfl _ _ (rv 0 (by omega)) (rv 1 (by omega)) (K 0 0 rfl (by omega)) (K 1 1 rfl (by omega))
    · have kn : kidsN k = 2 := by
        unfold kidsN
        rw [if_neg (by omega), if_neg (by omega), if_pos (by omega)]
      rw [if_neg (by omega), if_neg (by omega), op_cmp h]
      exact of_cmp row A cr gx ox w0 w hrow hg (.mk k v c Ak n cap kid) k hx rfl h _ _ (K 0 0 rfl (by omega)) (K 1 1 rfl (by omega))
    · subst h
      have kn : kidsN 12 = 2 := rfl
      exact of_add row A cr gx ox w0 w hrow hg (.mk 12 v c Ak n cap kid) hx rfl _ _ (rv 0 (by omega)) (rv 1 (by omega)) (K 0 0 rfl (by omega)) (K 1 1 rfl (by omega))
    · subst h
      have kn : kidsN 13 = 2 := rfl
      exact of_sub row A cr gx ox w0 w hrow hg (.mk 13 v c Ak n cap kid) hx rfl _ _ (rv 0 (by omega)) (rv 1 (by omega)) (K 0 0 rfl (by omega)) (K 1 1 rfl (by omega))
    · subst h
      have kn : kidsN 14 = 2 := rfl
      exact of_mul row A cr gx ox w0 w hrow hg (.mk 14 v c Ak n cap kid) hx rfl _ _ (rv 0 (by omega)) (rv 1 (by omega)) (K 0 0 rfl (by omega)) (K 1 1 rfl (by omega))
    · subst h
      have kn : kidsN 15 = 2 := rfl
      exact of_cat row A cr gx ox w0 w hrow hg (.mk 15 v c Ak n cap kid) hx rfl _ _ (rv 0 (by omega)) (rv 1 (by omega)) (K 0 0 rfl (by omega)) (K 1 1 rfl (by omega))
    · subst h
      have kn : kidsN 16 = 1 := rfl
      exact of_null row A cr gx ox w0 w hrow hg (.mk 16 v c Ak n cap kid) hx rfl _ (K 0 0 rfl (by omega))
    · subst h
      have kn : kidsN 17 = 3 := rfl
      rw [if_neg (by decide), if_neg (by decide), show opV 17 (ofE row (kid 0)) (ofE row (kid 1)) (ofE row (kid 2)) = (if rankV (ofE row (kid 0)) = 2 then ofE row (kid 1) else ofE row (kid 2)) from rfl]
      by_cases h2 : rankV (ofE row (kid 0)) = 2
      · rw [if_pos h2]
        exact of_case_t row A cr gx ox w0 w hrow hg (.mk 17 v c Ak n cap kid) hx rfl _ _ (rv 0 (by omega)) (by simpa using h2) (K 0 0 rfl (by omega)) (K 1 1 rfl (by omega))
      · rw [if_neg h2]
        exact of_case_f row A cr gx ox w0 w hrow hg (.mk 17 v c Ak n cap kid) hx rfl _ _ (rv 0 (by omega)) (by simpa using h2) (K 0 0 rfl (by omega)) (K 2 2 rfl (by omega))
    · subst h
      have kn : kidsN 18 = 2 := rfl
      rw [if_neg (by decide), if_neg (by decide), show opV 18 (ofE row (kid 0)) (ofE row (kid 1)) (ofE row (kid 2)) = (if (ofE row (kid 0)).k = 1 then ofE row (kid 1) else ofE row (kid 0)) from rfl]
      by_cases h2 : (ofE row (kid 0)).k = 1
      · rw [if_pos h2]
        exact of_coal_b row A cr gx ox w0 w hrow hg (.mk 18 v c Ak n cap kid) hx rfl _ _ (by simpa using h2) (K 0 0 rfl (by omega)) (K 1 1 rfl (by omega))
      · rw [if_neg h2]
        exact of_coal_a row A cr gx ox w0 w hrow hg (.mk 18 v c Ak n cap kid) hx rfl _ (by simpa using h2) (K 0 0 rfl (by omega))
theorem fitG_at {row : List V} {cols : List Int} {k : Nat} {x : V} {t : Int} (hx : row[k]? = some x) (ht : cols[k]? = some t) :
    fitG (row.drop k) (cols.drop k) = if wrongV x ≠ 0 then wrongV x else if x.k ≠ 1 ∧ x.k ≠ t then 9 else fitG (row.drop (k + 1)) (cols.drop (k + 1)) := by
  obtain ⟨h1, e1⟩ := List.getElem?_eq_some_iff.1 hx
  obtain ⟨h2, e2⟩ := List.getElem?_eq_some_iff.1 ht
  rw [List.drop_eq_getElem_cons h1, List.drop_eq_getElem_cons h2, e1, e2]
  conv => lhs; unfold fitG
  simp

theorem fits_any (cols : List Int) (row : List V) (Ac Ar : Option Addr) (cc cr : Nat) (w : World) (hlc : cols.length ≤ 9223372036854775807) (hlr : row.length ≤ 9223372036854775807) (hc : ISl w Ac cols) (hr : VSl w Ar row) (R : Int) (hR : fitsE cols row = R) :
    Calls Try.prog 41 #[.slice Ac cols.length cc, .slice Ar row.length cr] w fun en w' => en = .returned (.int .i64 R) ∧ Grow w w' := by
  by_cases hlen : row.length = cols.length
  · have hR' : fitG (row.drop 0) (cols.drop 0) = R := by
      rw [List.drop_zero, List.drop_zero, ← hR]; unfold fitsE; rw [if_neg (by simpa using hlen)]
    have HR := Lib.hid hR'
    have Hc := Lib.hid hc
    have Hr := Lib.hid hr
    have d1 : ((row.length : Int) != (cols.length : Int)) = false := by simp; omega
    have Hlen := Lib.hid hlen
    clear hR hR' hc hr hlen
    go_enter Try.func41, Try.ntmps41
    go_wp2
    go_loopw [15] (fun i wr => ∃ k : Nat, k ≤ row.length ∧ i = .int .i64 k ∧ fitG (row.drop k) (cols.drop k) = R ∧ Grow w wr) (fun i _ => row.length - (intOf i).toNat)
    case atStart => exact ⟨0, Nat.zero_le _, rfl, HR.out, Grow.refl _⟩
    case round =>
      obtain ⟨k, hk, rfl, hinv, hg⟩ := hrel
      have Inv := Lib.hid hinv
      clear hinv
      by_cases hlt : k < row.length
      · obtain ⟨x, hxk⟩ : ∃ x, row[k]? = some x := ⟨_, List.getElem?_eq_getElem hlt⟩
        obtain ⟨t, htk⟩ : ∃ t, cols[k]? = some t := ⟨_, List.getElem?_eq_getElem (by have := Hlen.out; omega)⟩
        obtain ⟨gx, ox, rfl, hx1, hx2, hx3⟩ := Hr.out k x hxk
        obtain ⟨gc, oc, rfl, ht1⟩ := Hc.out k t htk
        have c1 := hg.cell hx1
        have c2 := hg.cell hx2
        have c3 := hg.cell hx3
        have ct := hg.cell ht1
        have inv2 := (fitG_at hxk htk).symm.trans Inv.out
        have hlt2 : k < cols.length := by have := Hlen.out; omega
        clear hxk htk
        by_cases hw : wrongV x = 0
        · have dw : (wrongV x != 0) = false := by simpa using hw
          rw [if_neg (by simpa using hw)] at inv2
          have Inv2 := Lib.hid inv2
          clear inv2 hw
          by_cases hb : x.k ≠ 1 ∧ x.k ≠ t
          · have e : R = 9 := by
              have := Inv2.out
              rw [if_pos hb] at this
              exact this.symm
            subst e
            have b1 : (x.k != 1) = true := by simpa using hb.1
            have b2 : (x.k != t) = true := by simpa using hb.2
            clear hb Inv2 Inv
            go_wp2_with ((go_at_call 68; ((with_reducible refine (wrong_any x _).mono ?_); rintro en w2 ⟨rfl, hg2⟩; have Bx := Blk.grow (Blk.new wr 30 #[.int .i64 x.k, .int .i64 x.n, .string x.s]) hg2; have G2 := (hg.al _).trans hg2; obtain ⟨cx, fx⟩ := Bx.rules; clear c1 c2 c3 ct; have ct := G2.cell ht1)))
            go_quiet (fail)
            go_wp2
            go_ret
            exact ⟨rfl, G2.drewN _⟩
          · have Inv3 := Lib.hid (show fitG (row.drop (k + 1)) (cols.drop (k + 1)) = R by
              have := Inv2.out
              rwa [if_neg hb] at this)
            clear Inv2 Inv
            have hb' : (x.k != 1) = false ∨ (x.k != 1) = true ∧ (x.k != t) = false := by
              by_cases h1 : x.k = 1
              · left; simpa using h1
              · have h2 : x.k = t := Classical.byContradiction fun h => hb ⟨h1, h⟩
                right; exact ⟨by simpa using h1, by simpa using h2⟩
            clear hb
            rcases hb' with b1 | ⟨b1, b2⟩
            · go_wp2_with ((go_at_call 68; ((with_reducible refine (wrong_any x _).mono ?_); rintro en w2 ⟨rfl, hg2⟩; have Bx := Blk.grow (Blk.new wr 30 #[.int .i64 x.k, .int .i64 x.n, .string x.s]) hg2; have G2 := (hg.al _).trans hg2; obtain ⟨cx, fx⟩ := Bx.rules; clear c1 c2 c3 ct; have ct := G2.cell ht1)))
              go_quiet (fail)
              go_wp2
              go_roundw
              case rel => exact ⟨k + 1, by omega, by go_num, Inv3.out, G2.drewN _⟩
              case measure => simp [intOf]; omega
            · go_wp2_with ((go_at_call 68; ((with_reducible refine (wrong_any x _).mono ?_); rintro en w2 ⟨rfl, hg2⟩; have Bx := Blk.grow (Blk.new wr 30 #[.int .i64 x.k, .int .i64 x.n, .string x.s]) hg2; have G2 := (hg.al _).trans hg2; obtain ⟨cx, fx⟩ := Bx.rules; clear c1 c2 c3 ct; have ct := G2.cell ht1)))
              go_quiet (fail)
              go_wp2
              go_roundw
              case rel => exact ⟨k + 1, by omega, by go_num, Inv3.out, G2.drewN _⟩
              case measure => simp [intOf]; omega
        · have dw : (wrongV x != 0) = true := by simpa using hw
          have e : R = wrongV x := by rw [if_pos (by simpa using hw)] at inv2; exact inv2.symm
          subst e
          clear hw inv2 Inv
          go_wp2_with ((go_at_call 68; ((with_reducible refine (wrong_any x _).mono ?_); rintro en w2 ⟨rfl, hg2⟩; have Bx := Blk.grow (Blk.new wr 30 #[.int .i64 x.k, .int .i64 x.n, .string x.s]) hg2; have G2 := (hg.al _).trans hg2; obtain ⟨cx, fx⟩ := Bx.rules; clear c1 c2 c3 ct; have ct := G2.cell ht1)))
          go_ret
          exact ⟨rfl, G2⟩
      · have e : R = 0 := by
          have := Inv.out
          rw [List.drop_eq_nil_of_le (by omega)] at this
          exact this.symm
        subst e
        clear Inv
        go_wp2
        go_ret
        exact ⟨rfl, hg⟩
  · have e : R = 8 := by rw [← hR]; unfold fitsE; rw [if_pos hlen]
    subst e
    have d1 : ((row.length : Int) != (cols.length : Int)) = true := by simp; omega
    clear hR hlen
    go_enter Try.func41, Try.ntmps41
    go_wp2
    go_ret
    exact ⟨rfl, Grow.refl _⟩

theorem vb_z : VB zV := ⟨⟨by decide, by decide⟩, ⟨by decide, by decide⟩, Nat.zero_le _⟩
theorem ex_two {w : World} {g : Nat} {k : Int} {t : TypeId} (a b : E) (hb : Blk w g t #[.int .i64 a.kind, .int .i64 a.v.k, .int .i64 a.v.n, .string a.v.s, .int .i64 a.col, .slice a.A a.n a.cap, .int .i64 b.kind, .int .i64 b.v.k, .int .i64 b.v.n, .string b.v.s, .int .i64 b.col, .slice b.A b.n b.cap]) (ha : EX w a) (hb' : EX w b) (hk : inI64 k) : EX w (twoK k a b (some ⟨g, 0, none⟩)) := by
  refine .mk (by decide) (fun i hi => ⟨g, 0, rfl, ?_⟩) (fun i hi => ?_) vb_z ⟨hk, ⟨by decide, by decide⟩⟩
  · match i, hi with
    | 0, _ => exact ⟨hb.cells rfl, hb.cells rfl, hb.cells rfl, hb.cells rfl, hb.cells rfl, hb.cells rfl⟩
    | 1, _ => exact ⟨hb.cells rfl, hb.cells rfl, hb.cells rfl, hb.cells rfl, hb.cells rfl, hb.cells rfl⟩
  · split
    · exact ha
    · exact hb'
def colK (j : Int) : E := .mk 2 zV j none 0 0 (fun _ => .leaf)
theorem ex_col (w : World) (j : Int) (hj : inI64 j) : EX w (colK j) := .mk (Nat.zero_le _) (fun i hi => absurd hi (Nat.not_lt_zero _)) (fun i hi => absurd hi (Nat.not_lt_zero _)) vb_z ⟨⟨by decide, by decide⟩, hj⟩
end Go.Proofs.Ytamfpppbjaelaaa
