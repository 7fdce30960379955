/-
  exprs.Of: case, coalesce, reckoning, comparisons.
-/
import Derived.Test.YtjhcbehnopmnpaaEvW
namespace Go.Proofs.Ytjhcbehnopmnpaa
open Go.RowKit Go.Calm
set_option linter.unusedSimpArgs false
set_option linter.unusedVariables false

set_option maxRecDepth 100000 in
set_option maxHeartbeats 4000000 in
theorem of_case_t (row : List V) (A : Option Addr) (cr : Nat) (gx ox : Nat) (w0 w : World) (hrow : VSl w0 A row) (hg : Grow w0 w) (e : E) (hx : ECells w0 gx ox e) (hk : e.kind = 17) (a b : V) (ra : RV a) (hr : (rankV a == 2) = true) (K0 : ∀ W, Vars W w.heap.size gx ox A row.length cr → Grow w W → Calls Try.prog 146 #[.int .i64 0, .pointer (some ⟨w.heap.size, 0, none⟩), .pointer (some ⟨w.heap.size + 1, 0, none⟩)] W fun en w' => en = .returned a.val ∧ Grow W w') (K1 : ∀ W, Vars W w.heap.size gx ox A row.length cr → Grow w W → Calls Try.prog 146 #[.int .i64 1, .pointer (some ⟨w.heap.size, 0, none⟩), .pointer (some ⟨w.heap.size + 1, 0, none⟩)] W fun en w' => en = .returned b.val ∧ Grow W w') :
    Calls Try.prog 111 #[.pointer (some ⟨gx, ox, none⟩), .slice A row.length cr] w fun en w' => en = .returned b.val ∧ Grow w w' := by
  go_enter Try.func111, Try.ntmps111
  go_upto_region 2 with fail
  refine wp_forget (fun W => Vars W w.heap.size gx ox A row.length cr ∧ Grow w W) ⟨⟨((Blk.new _ _ _).al _).al _, (Blk.new' _ _ _ (by simp)).al _, Blk.new' _ _ _ (by simp)⟩, (by repeat (first | (with_reducible exact Grow.refl _) | (with_reducible assumption) | (with_reducible refine Grow.set ?_ (by first | (simp; done) | (simp; omega)) _) | (with_reducible refine Grow.al ?_ _) | (with_reducible refine Grow.drew ?_) | (with_reducible refine Grow.drewN ?_ _) | (with_reducible refine Grow.trans ?_ (by assumption))))⟩ ?_
  rintro W ⟨X, G⟩
  have hx0 := (hx.grow (hg.trans G)).c0
  rw [hk] at hx0
  clear hx hk
  obtain ⟨x1, y1⟩ := X.b1.rules
  obtain ⟨x2, y2⟩ := X.b2.rules
  obtain ⟨x3, y3⟩ := X.b3.rules
  have ct := fun W => true_any a ra.rb W
  rw [hr] at ct
  go_wp2_with (first | (go_at_call 146; ((with_reducible refine (K0 _ X G).mono ?_); rintro en w2 ⟨rfl, hg2⟩; replace X := X.grow hg2; replace G := G.trans hg2; clear hg2 x1 y1 x2 y2 x3 y3; obtain ⟨x1, y1⟩ := X.b1.rules; obtain ⟨x2, y2⟩ := X.b2.rules; obtain ⟨x3, y3⟩ := X.b3.rules; have l3 := X.b3.lt)) | (go_at_call 146; ((with_reducible refine (K1 _ X G).mono ?_); rintro en w2 ⟨rfl, hg2⟩; replace X := X.grow hg2; replace G := G.trans hg2; clear hg2 x1 y1 x2 y2 x3 y3; obtain ⟨x1, y1⟩ := X.b1.rules; obtain ⟨x2, y2⟩ := X.b2.rules; obtain ⟨x3, y3⟩ := X.b3.rules; have l3 := X.b3.lt)) | (go_at_call 39; ((with_reducible refine (ct _).mono ?_); rintro en w2 ⟨rfl, hg2⟩; replace X := X.grow hg2; replace G := G.trans hg2; clear hg2 x1 y1 x2 y2 x3 y3; obtain ⟨x1, y1⟩ := X.b1.rules; obtain ⟨x2, y2⟩ := X.b2.rules; obtain ⟨x3, y3⟩ := X.b3.rules; have l3 := X.b3.lt)))
  have l3 := X.b3.lt
  exact bodyPost_ret (by simp [results, Try.results111, go_sem, x3]) rfl ⟨rfl, (by repeat (first | (with_reducible exact Grow.refl _) | (with_reducible assumption) | (with_reducible refine Grow.set ?_ (by first | (simp; done) | (simp; omega)) _) | (with_reducible refine Grow.al ?_ _) | (with_reducible refine Grow.drew ?_) | (with_reducible refine Grow.drewN ?_ _) | (with_reducible refine Grow.trans ?_ (by assumption))))⟩

set_option maxRecDepth 100000 in
set_option maxHeartbeats 4000000 in
theorem of_case_f (row : List V) (A : Option Addr) (cr : Nat) (gx ox : Nat) (w0 w : World) (hrow : VSl w0 A row) (hg : Grow w0 w) (e : E) (hx : ECells w0 gx ox e) (hk : e.kind = 17) (a d : V) (ra : RV a) (hr : (rankV a == 2) = false) (K0 : ∀ W, Vars W w.heap.size gx ox A row.length cr → Grow w W → Calls Try.prog 146 #[.int .i64 0, .pointer (some ⟨w.heap.size, 0, none⟩), .pointer (some ⟨w.heap.size + 1, 0, none⟩)] W fun en w' => en = .returned a.val ∧ Grow W w') (K2 : ∀ W, Vars W w.heap.size gx ox A row.length cr → Grow w W → Calls Try.prog 146 #[.int .i64 2, .pointer (some ⟨w.heap.size, 0, none⟩), .pointer (some ⟨w.heap.size + 1, 0, none⟩)] W fun en w' => en = .returned d.val ∧ Grow W w') :
    Calls Try.prog 111 #[.pointer (some ⟨gx, ox, none⟩), .slice A row.length cr] w fun en w' => en = .returned d.val ∧ Grow w w' := by
  go_enter Try.func111, Try.ntmps111
  go_upto_region 2 with fail
  refine wp_forget (fun W => Vars W w.heap.size gx ox A row.length cr ∧ Grow w W) ⟨⟨((Blk.new _ _ _).al _).al _, (Blk.new' _ _ _ (by simp)).al _, Blk.new' _ _ _ (by simp)⟩, (by repeat (first | (with_reducible exact Grow.refl _) | (with_reducible assumption) | (with_reducible refine Grow.set ?_ (by first | (simp; done) | (simp; omega)) _) | (with_reducible refine Grow.al ?_ _) | (with_reducible refine Grow.drew ?_) | (with_reducible refine Grow.drewN ?_ _) | (with_reducible refine Grow.trans ?_ (by assumption))))⟩ ?_
  rintro W ⟨X, G⟩
  have hx0 := (hx.grow (hg.trans G)).c0
  rw [hk] at hx0
  clear hx hk
  obtain ⟨x1, y1⟩ := X.b1.rules
  obtain ⟨x2, y2⟩ := X.b2.rules
  obtain ⟨x3, y3⟩ := X.b3.rules
  have ct := fun W => true_any a ra.rb W
  rw [hr] at ct
  go_wp2_with (first | (go_at_call 146; ((with_reducible refine (K0 _ X G).mono ?_); rintro en w2 ⟨rfl, hg2⟩; replace X := X.grow hg2; replace G := G.trans hg2; clear hg2 x1 y1 x2 y2 x3 y3; obtain ⟨x1, y1⟩ := X.b1.rules; obtain ⟨x2, y2⟩ := X.b2.rules; obtain ⟨x3, y3⟩ := X.b3.rules; have l3 := X.b3.lt)) | (go_at_call 146; ((with_reducible refine (K2 _ X G).mono ?_); rintro en w2 ⟨rfl, hg2⟩; replace X := X.grow hg2; replace G := G.trans hg2; clear hg2 x1 y1 x2 y2 x3 y3; obtain ⟨x1, y1⟩ := X.b1.rules; obtain ⟨x2, y2⟩ := X.b2.rules; obtain ⟨x3, y3⟩ := X.b3.rules; have l3 := X.b3.lt)) | (go_at_call 39; ((with_reducible refine (ct _).mono ?_); rintro en w2 ⟨rfl, hg2⟩; replace X := X.grow hg2; replace G := G.trans hg2; clear hg2 x1 y1 x2 y2 x3 y3; obtain ⟨x1, y1⟩ := X.b1.rules; obtain ⟨x2, y2⟩ := X.b2.rules; obtain ⟨x3, y3⟩ := X.b3.rules; have l3 := X.b3.lt)))
  have l3 := X.b3.lt
  exact bodyPost_ret (by simp [results, Try.results111, go_sem, x3]) rfl ⟨rfl, (by repeat (first | (with_reducible exact Grow.refl _) | (with_reducible assumption) | (with_reducible refine Grow.set ?_ (by first | (simp; done) | (simp; omega)) _) | (with_reducible refine Grow.al ?_ _) | (with_reducible refine Grow.drew ?_) | (with_reducible refine Grow.drewN ?_ _) | (with_reducible refine Grow.trans ?_ (by assumption))))⟩

set_option maxRecDepth 100000 in
set_option maxHeartbeats 4000000 in
theorem of_coal_a (row : List V) (A : Option Addr) (cr : Nat) (gx ox : Nat) (w0 w : World) (hrow : VSl w0 A row) (hg : Grow w0 w) (e : E) (hx : ECells w0 gx ox e) (hk : e.kind = 18) (a : V) (ha : (a.k != 1) = true) (K0 : ∀ W, Vars W w.heap.size gx ox A row.length cr → Grow w W → Calls Try.prog 146 #[.int .i64 0, .pointer (some ⟨w.heap.size, 0, none⟩), .pointer (some ⟨w.heap.size + 1, 0, none⟩)] W fun en w' => en = .returned a.val ∧ Grow W w') :
    Calls Try.prog 111 #[.pointer (some ⟨gx, ox, none⟩), .slice A row.length cr] w fun en w' => en = .returned a.val ∧ Grow w w' := by
  go_enter Try.func111, Try.ntmps111
  go_upto_region 2 with fail
  refine wp_forget (fun W => Vars W w.heap.size gx ox A row.length cr ∧ Grow w W) ⟨⟨((Blk.new _ _ _).al _).al _, (Blk.new' _ _ _ (by simp)).al _, Blk.new' _ _ _ (by simp)⟩, (by repeat (first | (with_reducible exact Grow.refl _) | (with_reducible assumption) | (with_reducible refine Grow.set ?_ (by first | (simp; done) | (simp; omega)) _) | (with_reducible refine Grow.al ?_ _) | (with_reducible refine Grow.drew ?_) | (with_reducible refine Grow.drewN ?_ _) | (with_reducible refine Grow.trans ?_ (by assumption))))⟩ ?_
  rintro W ⟨X, G⟩
  have hx0 := (hx.grow (hg.trans G)).c0
  rw [hk] at hx0
  clear hx hk
  obtain ⟨x1, y1⟩ := X.b1.rules
  obtain ⟨x2, y2⟩ := X.b2.rules
  obtain ⟨x3, y3⟩ := X.b3.rules
  have l3 := X.b3.lt
  go_wp2_with (first | (go_at_call 146; ((with_reducible refine (K0 _ X G).mono ?_); rintro en w2 ⟨rfl, hg2⟩; replace X := X.grow hg2; replace G := G.trans hg2; clear hg2 x1 y1 x2 y2 x3 y3; obtain ⟨x1, y1⟩ := X.b1.rules; obtain ⟨x2, y2⟩ := X.b2.rules; obtain ⟨x3, y3⟩ := X.b3.rules; have l3 := X.b3.lt)))
  have l4 : w.heap.size + 1 + 1 < w2.heap.size := l3
  have l5 : ¬ (w.heap.size + 1 + 1 = w2.heap.size) := Nat.ne_of_lt l4
  exact bodyPost_ret (by simp [results, Try.results111, go_sem, x3, l4, l5]) rfl ⟨rfl, (by repeat (first | (with_reducible exact Grow.refl _) | (with_reducible assumption) | (with_reducible refine Grow.set ?_ (by first | (simp; done) | (simp; omega)) _) | (with_reducible refine Grow.al ?_ _) | (with_reducible refine Grow.drew ?_) | (with_reducible refine Grow.drewN ?_ _) | (with_reducible refine Grow.trans ?_ (by assumption))))⟩

set_option maxRecDepth 100000 in
set_option maxHeartbeats 4000000 in
theorem of_coal_b (row : List V) (A : Option Addr) (cr : Nat) (gx ox : Nat) (w0 w : World) (hrow : VSl w0 A row) (hg : Grow w0 w) (e : E) (hx : ECells w0 gx ox e) (hk : e.kind = 18) (a b : V) (ha : (a.k != 1) = false) (K0 : ∀ W, Vars W w.heap.size gx ox A row.length cr → Grow w W → Calls Try.prog 146 #[.int .i64 0, .pointer (some ⟨w.heap.size, 0, none⟩), .pointer (some ⟨w.heap.size + 1, 0, none⟩)] W fun en w' => en = .returned a.val ∧ Grow W w') (K1 : ∀ W, Vars W w.heap.size gx ox A row.length cr → Grow w W → Calls Try.prog 146 #[.int .i64 1, .pointer (some ⟨w.heap.size, 0, none⟩), .pointer (some ⟨w.heap.size + 1, 0, none⟩)] W fun en w' => en = .returned b.val ∧ Grow W w') :
    Calls Try.prog 111 #[.pointer (some ⟨gx, ox, none⟩), .slice A row.length cr] w fun en w' => en = .returned b.val ∧ Grow w w' := by
  go_enter Try.func111, Try.ntmps111
  go_upto_region 2 with fail
  refine wp_forget (fun W => Vars W w.heap.size gx ox A row.length cr ∧ Grow w W) ⟨⟨((Blk.new _ _ _).al _).al _, (Blk.new' _ _ _ (by simp)).al _, Blk.new' _ _ _ (by simp)⟩, (by repeat (first | (with_reducible exact Grow.refl _) | (with_reducible assumption) | (with_reducible refine Grow.set ?_ (by first | (simp; done) | (simp; omega)) _) | (with_reducible refine Grow.al ?_ _) | (with_reducible refine Grow.drew ?_) | (with_reducible refine Grow.drewN ?_ _) | (with_reducible refine Grow.trans ?_ (by assumption))))⟩ ?_
  rintro W ⟨X, G⟩
  have hx0 := (hx.grow (hg.trans G)).c0
  rw [hk] at hx0
  clear hx hk
  obtain ⟨x1, y1⟩ := X.b1.rules
  obtain ⟨x2, y2⟩ := X.b2.rules
  obtain ⟨x3, y3⟩ := X.b3.rules
  have l3 := X.b3.lt
  go_wp2_with (first | (go_at_call 146; ((with_reducible refine (K0 _ X G).mono ?_); rintro en w2 ⟨rfl, hg2⟩; replace X := X.grow hg2; replace G := G.trans hg2; clear hg2 x1 y1 x2 y2 x3 y3; obtain ⟨x1, y1⟩ := X.b1.rules; obtain ⟨x2, y2⟩ := X.b2.rules; obtain ⟨x3, y3⟩ := X.b3.rules; have l3 := X.b3.lt)) | (go_at_call 146; ((with_reducible refine (K1 _ (X.grow (by repeat (first | (with_reducible exact Grow.refl _) | (with_reducible assumption) | (with_reducible refine Grow.set ?_ (by first | (simp; done) | (simp; omega)) _) | (with_reducible refine Grow.al ?_ _) | (with_reducible refine Grow.drew ?_) | (with_reducible refine Grow.drewN ?_ _) | (with_reducible refine Grow.trans ?_ (by assumption))))) (G.trans (by repeat (first | (with_reducible exact Grow.refl _) | (with_reducible assumption) | (with_reducible refine Grow.set ?_ (by first | (simp; done) | (simp; omega)) _) | (with_reducible refine Grow.al ?_ _) | (with_reducible refine Grow.drew ?_) | (with_reducible refine Grow.drewN ?_ _) | (with_reducible refine Grow.trans ?_ (by assumption)))))).mono ?_); rintro en w3 ⟨rfl, hg3⟩; have X3 := (X.grow (by repeat (first | (with_reducible exact Grow.refl _) | (with_reducible assumption) | (with_reducible refine Grow.set ?_ (by first | (simp; done) | (simp; omega)) _) | (with_reducible refine Grow.al ?_ _) | (with_reducible refine Grow.drew ?_) | (with_reducible refine Grow.drewN ?_ _) | (with_reducible refine Grow.trans ?_ (by assumption))))).grow hg3; clear x1 y1 x2 y2 x3 y3; obtain ⟨x3, y3⟩ := X3.b3.rules)))
  exact bodyPost_ret (by simp [results, Try.results111, go_sem, x3]) rfl ⟨rfl, (by repeat (first | (with_reducible exact Grow.refl _) | (with_reducible assumption) | (with_reducible refine Grow.set ?_ (by first | (simp; done) | (simp; omega)) _) | (with_reducible refine Grow.al ?_ _) | (with_reducible refine Grow.drew ?_) | (with_reducible refine Grow.drewN ?_ _) | (with_reducible refine Grow.trans ?_ (by assumption))))⟩

set_option maxRecDepth 100000 in
set_option maxHeartbeats 4000000 in
theorem of_cmp (row : List V) (A : Option Addr) (cr : Nat) (gx ox : Nat) (w0 w : World) (hrow : VSl w0 A row) (hg : Grow w0 w) (e : E) (k : Int) (hx : ECells w0 gx ox e) (hk : e.kind = k) (h6 : 6 ≤ k ∧ k ≤ 11) (a b : V) (K0 : ∀ W, Vars W w.heap.size gx ox A row.length cr → Grow w W → Calls Try.prog 146 #[.int .i64 0, .pointer (some ⟨w.heap.size, 0, none⟩), .pointer (some ⟨w.heap.size + 1, 0, none⟩)] W fun en w' => en = .returned a.val ∧ Grow W w') (K1 : ∀ W, Vars W w.heap.size gx ox A row.length cr → Grow w W → Calls Try.prog 146 #[.int .i64 1, .pointer (some ⟨w.heap.size, 0, none⟩), .pointer (some ⟨w.heap.size + 1, 0, none⟩)] W fun en w' => en = .returned b.val ∧ Grow W w') :
    Calls Try.prog 111 #[.pointer (some ⟨gx, ox, none⟩), .slice A row.length cr] w fun en w' => en = .returned (comparedV k a b).val ∧ Grow w w' := by
  go_enter Try.func111, Try.ntmps111
  go_upto_region 2 with fail
  refine wp_forget (fun W => Vars W w.heap.size gx ox A row.length cr ∧ Grow w W) ⟨⟨((Blk.new _ _ _).al _).al _, (Blk.new' _ _ _ (by simp)).al _, Blk.new' _ _ _ (by simp)⟩, (by repeat (first | (with_reducible exact Grow.refl _) | (with_reducible assumption) | (with_reducible refine Grow.set ?_ (by first | (simp; done) | (simp; omega)) _) | (with_reducible refine Grow.al ?_ _) | (with_reducible refine Grow.drew ?_) | (with_reducible refine Grow.drewN ?_ _) | (with_reducible refine Grow.trans ?_ (by assumption))))⟩ ?_
  rintro W ⟨X, G⟩
  have c0 := hx.c0
  rw [hk] at c0
  have hx0 := (hg.trans G).cell c0
  clear hx hk
  have x1 := X.b1.rules.1
  have e1 : (k == 1) = false := by simp; omega
  have e2 : (k == 2) = false := by simp; omega
  have e3 : (k == 3) = false := by simp; omega
  have e4 : (k == 4) = false := by simp; omega
  have e5 : (k == 5) = false := by simp; omega
  have e12 : (k == 12) = false := by simp; omega
  have e13 : (k == 13) = false := by simp; omega
  have e14 : (k == 14) = false := by simp; omega
  have e15 : (k == 15) = false := by simp; omega
  have e16 : (k == 16) = false := by simp; omega
  have e17 : (k == 17) = false := by simp; omega
  have e18 : (k == 18) = false := by simp; omega
  go_wp2
  refine wp_forget (fun W => Vars W w.heap.size gx ox A row.length cr ∧ Grow w W) ⟨X, G⟩ ?_
  clear X G hx0 x1
  rintro W ⟨X, G⟩
  apply wp_region_calm 9 (by kernel_rfl) (by kernel_rfl)
  case h' =>
    intro Q0 hQ0
    simp only [List.take_succ_cons, List.take_zero]
    repeat (
      first
        | (apply calm_p rfl; case h1 => (intro w1 hw1 hF K hK; obtain ⟨x1, y1⟩ := (X.grow hw1).b1.rules; obtain ⟨x2, y2⟩ := (X.grow hw1).b2.rules; have hx0 := (hg.trans (G.trans hw1)).cell c0; go_simp; first | exact hK _ (Grow.refl _) | (go_at_call 146; ((with_reducible refine (K0 _ (X.grow hw1) (G.trans hw1)).mono ?_); rintro e w' ⟨rfl, hg⟩; exact ⟨_, rfl, hK _ hg⟩)) | (go_at_call 146; ((with_reducible refine (K1 _ (X.grow hw1) (G.trans hw1)).mono ?_); rintro e w' ⟨rfl, hg⟩; exact ⟨_, rfl, hK _ hg⟩)) | (go_at_call 147; ((with_reducible refine (compared_any k a b h6 _).mono ?_); rintro e w' ⟨rfl, hg⟩; exact ⟨_, rfl, hK _ hg⟩))))
        | (apply calm_y rfl rfl rfl; case h1 => (intro w1 hw1 hF K hK; obtain ⟨x1, y1⟩ := (X.grow hw1).b1.rules; obtain ⟨x2, y2⟩ := (X.grow hw1).b2.rules; have hx0 := (hg.trans (G.trans hw1)).cell c0; go_simp; first | exact hK _ (Grow.refl _) | (go_at_call 146; ((with_reducible refine (K0 _ (X.grow hw1) (G.trans hw1)).mono ?_); rintro e w' ⟨rfl, hg⟩; exact ⟨_, rfl, hK _ hg⟩)) | (go_at_call 146; ((with_reducible refine (K1 _ (X.grow hw1) (G.trans hw1)).mono ?_); rintro e w' ⟨rfl, hg⟩; exact ⟨_, rfl, hK _ hg⟩)) | (go_at_call 147; ((with_reducible refine (compared_any k a b h6 _).mono ?_); rintro e w' ⟨rfl, hg⟩; exact ⟨_, rfl, hK _ hg⟩))))
        | apply calm_n rfl rfl rfl rfl
      intro K hK
      go_simp
      apply hK
      clear hK K)
    refine calm_nil ?_
    intro w1 hw1 hF
    apply hQ0
    clear hQ0
    simp only [List.drop_succ_cons, List.drop_zero]
    clear hF
    obtain ⟨x3, y3⟩ := (X.grow hw1).b3.rules
    go_wp2
    exact bodyPost_ret (by simp [results, Try.results111, go_sem, x3]) rfl ⟨rfl, (by repeat (first | (with_reducible exact Grow.refl _) | (with_reducible assumption) | (with_reducible refine Grow.set ?_ (by first | (simp; done) | (simp; omega)) _) | (with_reducible refine Grow.al ?_ _) | (with_reducible refine Grow.drew ?_) | (with_reducible refine Grow.drewN ?_ _) | (with_reducible refine Grow.trans ?_ (by assumption))))⟩
  case hp' => trivial

set_option maxRecDepth 100000 in
set_option maxHeartbeats 4000000 in
theorem of_add (row : List V) (A : Option Addr) (cr : Nat) (gx ox : Nat) (w0 w : World) (hrow : VSl w0 A row) (hg : Grow w0 w) (e : E) (hx : ECells w0 gx ox e) (hk : e.kind = 12) (a b : V) (ra : RV a) (rb : RV b) (K0 : ∀ W, Vars W w.heap.size gx ox A row.length cr → Grow w W → Calls Try.prog 146 #[.int .i64 0, .pointer (some ⟨w.heap.size, 0, none⟩), .pointer (some ⟨w.heap.size + 1, 0, none⟩)] W fun en w' => en = .returned a.val ∧ Grow W w') (K1 : ∀ W, Vars W w.heap.size gx ox A row.length cr → Grow w W → Calls Try.prog 146 #[.int .i64 1, .pointer (some ⟨w.heap.size, 0, none⟩), .pointer (some ⟨w.heap.size + 1, 0, none⟩)] W fun en w' => en = .returned b.val ∧ Grow W w') :
    Calls Try.prog 111 #[.pointer (some ⟨gx, ox, none⟩), .slice A row.length cr] w fun en w' => en = .returned (reckonV 43 a b).val ∧ Grow w w' := by
  go_enter Try.func111, Try.ntmps111
  go_upto_region 2 with fail
  refine wp_forget (fun W => Vars W w.heap.size gx ox A row.length cr ∧ Grow w W) ⟨⟨((Blk.new _ _ _).al _).al _, (Blk.new' _ _ _ (by simp)).al _, Blk.new' _ _ _ (by simp)⟩, (by repeat (first | (with_reducible exact Grow.refl _) | (with_reducible assumption) | (with_reducible refine Grow.set ?_ (by first | (simp; done) | (simp; omega)) _) | (with_reducible refine Grow.al ?_ _) | (with_reducible refine Grow.drew ?_) | (with_reducible refine Grow.drewN ?_ _) | (with_reducible refine Grow.trans ?_ (by assumption))))⟩ ?_
  rintro W ⟨X, G⟩
  have c0 := hx.c0
  rw [hk] at c0
  have hx0 := (hg.trans G).cell c0
  clear hx hk
  have x1 := X.b1.rules.1
  go_wp2
  refine wp_forget (fun W => Vars W w.heap.size gx ox A row.length cr ∧ Grow w W) ⟨X, G⟩ ?_
  clear X G hx0 x1
  rintro W ⟨X, G⟩
  apply wp_region_calm 13 (by kernel_rfl) (by kernel_rfl)
  case h' =>
    intro Q0 hQ0
    simp only [List.take_succ_cons, List.take_zero]
    apply calm_fp (fun v W => ∃ g, v = .slice (some ⟨g, 0, none⟩) 3 3 ∧ Blk W g 21 #[.int .i32 43, .int .i32 45, .int .i32 42]) rfl
    case h1 =>
      intro w1 hw1 hF K hK
      go_simp
      exact hK _ _ ((Grow.refl _).al _) ⟨_, rfl, Blk.new _ _ _⟩
    intro sl K hK
    go_simp
    apply hK
    clear hK K
    repeat (
      first
        | (apply calm_p rfl; case h1 => (intro w1 hw1 hF K hK; obtain ⟨x1, y1⟩ := (X.grow hw1).b1.rules; obtain ⟨x2, y2⟩ := (X.grow hw1).b2.rules; have hx0 := (hg.trans (G.trans hw1)).cell c0; go_simp; first | exact hK _ (Grow.refl _) | fail))
        | (apply calm_y rfl rfl rfl; case h1 => (intro w1 hw1 hF K hK; obtain ⟨x1, y1⟩ := (X.grow hw1).b1.rules; obtain ⟨x2, y2⟩ := (X.grow hw1).b2.rules; have hx0 := (hg.trans (G.trans hw1)).cell c0; go_simp; first | exact hK _ (Grow.refl _) | fail))
        | apply calm_n rfl rfl rfl rfl
      intro K hK
      go_simp
      apply hK
      clear hK K)
    apply calm_fp (fun v W => ∃ g, v = .pointer (some ⟨g, 0, none⟩) ∧ Blk W g 21 #[.int .i32 43, .int .i32 45, .int .i32 42]) rfl
    case h1 =>
      intro w1 hw1 hF K hK
      obtain ⟨g, hsl, B⟩ := hF _ (List.mem_cons_self ..) ⟨_, rfl, by decide⟩
      subst hsl
      go_simp
      exact hK _ _ (Grow.refl _) ⟨_, rfl, B⟩
    intro pt K hK
    go_simp
    apply hK
    clear hK K
    apply calm_p rfl
    case h1 =>
      intro w1 hw1 hF K hK
      obtain ⟨g, hpt, B⟩ := hF _ (List.mem_cons_self ..) ⟨_, rfl, by decide⟩
      subst hpt
      obtain ⟨z1, z2⟩ := B.rules
      go_simp
      exact hK _ (Grow.refl _)
    intro K hK
    go_simp
    apply hK
    clear hK K
    repeat (
      first
        | (apply calm_p rfl; case h1 => (intro w1 hw1 hF K hK; obtain ⟨x1, y1⟩ := (X.grow hw1).b1.rules; obtain ⟨x2, y2⟩ := (X.grow hw1).b2.rules; have hx0 := (hg.trans (G.trans hw1)).cell c0; go_simp; first | exact hK _ (Grow.refl _) | (go_at_call 146; ((with_reducible refine (K0 _ (X.grow hw1) (G.trans hw1)).mono ?_); rintro e w' ⟨rfl, hg⟩; exact ⟨_, rfl, hK _ hg⟩)) | (go_at_call 146; ((with_reducible refine (K1 _ (X.grow hw1) (G.trans hw1)).mono ?_); rintro e w' ⟨rfl, hg⟩; exact ⟨_, rfl, hK _ hg⟩)) | (go_at_call 30; ((with_reducible refine (reckon_any 43 a b ra rb _).mono ?_); rintro e w' ⟨rfl, hg⟩; exact ⟨_, rfl, hK _ hg⟩))))
        | (apply calm_y rfl rfl rfl; case h1 => (intro w1 hw1 hF K hK; obtain ⟨x1, y1⟩ := (X.grow hw1).b1.rules; obtain ⟨x2, y2⟩ := (X.grow hw1).b2.rules; have hx0 := (hg.trans (G.trans hw1)).cell c0; go_simp; first | exact hK _ (Grow.refl _) | (go_at_call 146; ((with_reducible refine (K0 _ (X.grow hw1) (G.trans hw1)).mono ?_); rintro e w' ⟨rfl, hg⟩; exact ⟨_, rfl, hK _ hg⟩)) | (go_at_call 146; ((with_reducible refine (K1 _ (X.grow hw1) (G.trans hw1)).mono ?_); rintro e w' ⟨rfl, hg⟩; exact ⟨_, rfl, hK _ hg⟩)) | (go_at_call 30; ((with_reducible refine (reckon_any 43 a b ra rb _).mono ?_); rintro e w' ⟨rfl, hg⟩; exact ⟨_, rfl, hK _ hg⟩))))
        | apply calm_n rfl rfl rfl rfl
      intro K hK
      go_simp
      apply hK
      clear hK K)
    refine calm_nil ?_
    intro w1 hw1 hF
    apply hQ0
    clear hQ0
    simp only [List.drop_succ_cons, List.drop_zero]
    clear hF
    obtain ⟨x3, y3⟩ := (X.grow hw1).b3.rules
    go_wp2
    exact bodyPost_ret (by simp [results, Try.results111, go_sem, x3]) rfl ⟨rfl, (by repeat (first | (with_reducible exact Grow.refl _) | (with_reducible assumption) | (with_reducible refine Grow.set ?_ (by first | (simp; done) | (simp; omega)) _) | (with_reducible refine Grow.al ?_ _) | (with_reducible refine Grow.drew ?_) | (with_reducible refine Grow.drewN ?_ _) | (with_reducible refine Grow.trans ?_ (by assumption))))⟩
  case hp' => exact ⟨fun v w w' hg ⟨g, e, hb⟩ => ⟨g, e, hb.grow hg⟩, fun v w w' hg ⟨g, e, hb⟩ => ⟨g, e, hb.grow hg⟩, trivial⟩

set_option maxRecDepth 100000 in
set_option maxHeartbeats 4000000 in
theorem of_sub (row : List V) (A : Option Addr) (cr : Nat) (gx ox : Nat) (w0 w : World) (hrow : VSl w0 A row) (hg : Grow w0 w) (e : E) (hx : ECells w0 gx ox e) (hk : e.kind = 13) (a b : V) (ra : RV a) (rb : RV b) (K0 : ∀ W, Vars W w.heap.size gx ox A row.length cr → Grow w W → Calls Try.prog 146 #[.int .i64 0, .pointer (some ⟨w.heap.size, 0, none⟩), .pointer (some ⟨w.heap.size + 1, 0, none⟩)] W fun en w' => en = .returned a.val ∧ Grow W w') (K1 : ∀ W, Vars W w.heap.size gx ox A row.length cr → Grow w W → Calls Try.prog 146 #[.int .i64 1, .pointer (some ⟨w.heap.size, 0, none⟩), .pointer (some ⟨w.heap.size + 1, 0, none⟩)] W fun en w' => en = .returned b.val ∧ Grow W w') :
    Calls Try.prog 111 #[.pointer (some ⟨gx, ox, none⟩), .slice A row.length cr] w fun en w' => en = .returned (reckonV 45 a b).val ∧ Grow w w' := by
  go_enter Try.func111, Try.ntmps111
  go_upto_region 2 with fail
  refine wp_forget (fun W => Vars W w.heap.size gx ox A row.length cr ∧ Grow w W) ⟨⟨((Blk.new _ _ _).al _).al _, (Blk.new' _ _ _ (by simp)).al _, Blk.new' _ _ _ (by simp)⟩, (by repeat (first | (with_reducible exact Grow.refl _) | (with_reducible assumption) | (with_reducible refine Grow.set ?_ (by first | (simp; done) | (simp; omega)) _) | (with_reducible refine Grow.al ?_ _) | (with_reducible refine Grow.drew ?_) | (with_reducible refine Grow.drewN ?_ _) | (with_reducible refine Grow.trans ?_ (by assumption))))⟩ ?_
  rintro W ⟨X, G⟩
  have c0 := hx.c0
  rw [hk] at c0
  have hx0 := (hg.trans G).cell c0
  clear hx hk
  have x1 := X.b1.rules.1
  go_wp2
  refine wp_forget (fun W => Vars W w.heap.size gx ox A row.length cr ∧ Grow w W) ⟨X, G⟩ ?_
  clear X G hx0 x1
  rintro W ⟨X, G⟩
  apply wp_region_calm 13 (by kernel_rfl) (by kernel_rfl)
  case h' =>
    intro Q0 hQ0
    simp only [List.take_succ_cons, List.take_zero]
    apply calm_fp (fun v W => ∃ g, v = .slice (some ⟨g, 0, none⟩) 3 3 ∧ Blk W g 21 #[.int .i32 43, .int .i32 45, .int .i32 42]) rfl
    case h1 =>
      intro w1 hw1 hF K hK
      go_simp
      exact hK _ _ ((Grow.refl _).al _) ⟨_, rfl, Blk.new _ _ _⟩
    intro sl K hK
    go_simp
    apply hK
    clear hK K
    repeat (
      first
        | (apply calm_p rfl; case h1 => (intro w1 hw1 hF K hK; obtain ⟨x1, y1⟩ := (X.grow hw1).b1.rules; obtain ⟨x2, y2⟩ := (X.grow hw1).b2.rules; have hx0 := (hg.trans (G.trans hw1)).cell c0; go_simp; first | exact hK _ (Grow.refl _) | fail))
        | (apply calm_y rfl rfl rfl; case h1 => (intro w1 hw1 hF K hK; obtain ⟨x1, y1⟩ := (X.grow hw1).b1.rules; obtain ⟨x2, y2⟩ := (X.grow hw1).b2.rules; have hx0 := (hg.trans (G.trans hw1)).cell c0; go_simp; first | exact hK _ (Grow.refl _) | fail))
        | apply calm_n rfl rfl rfl rfl
      intro K hK
      go_simp
      apply hK
      clear hK K)
    apply calm_fp (fun v W => ∃ g, v = .pointer (some ⟨g, 1, none⟩) ∧ Blk W g 21 #[.int .i32 43, .int .i32 45, .int .i32 42]) rfl
    case h1 =>
      intro w1 hw1 hF K hK
      obtain ⟨g, hsl, B⟩ := hF _ (List.mem_cons_self ..) ⟨_, rfl, by decide⟩
      subst hsl
      go_simp
      exact hK _ _ (Grow.refl _) ⟨_, rfl, B⟩
    intro pt K hK
    go_simp
    apply hK
    clear hK K
    apply calm_p rfl
    case h1 =>
      intro w1 hw1 hF K hK
      obtain ⟨g, hpt, B⟩ := hF _ (List.mem_cons_self ..) ⟨_, rfl, by decide⟩
      subst hpt
      obtain ⟨z1, z2⟩ := B.rules
      go_simp
      exact hK _ (Grow.refl _)
    intro K hK
    go_simp
    apply hK
    clear hK K
    repeat (
      first
        | (apply calm_p rfl; case h1 => (intro w1 hw1 hF K hK; obtain ⟨x1, y1⟩ := (X.grow hw1).b1.rules; obtain ⟨x2, y2⟩ := (X.grow hw1).b2.rules; have hx0 := (hg.trans (G.trans hw1)).cell c0; go_simp; first | exact hK _ (Grow.refl _) | (go_at_call 146; ((with_reducible refine (K0 _ (X.grow hw1) (G.trans hw1)).mono ?_); rintro e w' ⟨rfl, hg⟩; exact ⟨_, rfl, hK _ hg⟩)) | (go_at_call 146; ((with_reducible refine (K1 _ (X.grow hw1) (G.trans hw1)).mono ?_); rintro e w' ⟨rfl, hg⟩; exact ⟨_, rfl, hK _ hg⟩)) | (go_at_call 30; ((with_reducible refine (reckon_any 45 a b ra rb _).mono ?_); rintro e w' ⟨rfl, hg⟩; exact ⟨_, rfl, hK _ hg⟩))))
        | (apply calm_y rfl rfl rfl; case h1 => (intro w1 hw1 hF K hK; obtain ⟨x1, y1⟩ := (X.grow hw1).b1.rules; obtain ⟨x2, y2⟩ := (X.grow hw1).b2.rules; have hx0 := (hg.trans (G.trans hw1)).cell c0; go_simp; first | exact hK _ (Grow.refl _) | (go_at_call 146; ((with_reducible refine (K0 _ (X.grow hw1) (G.trans hw1)).mono ?_); rintro e w' ⟨rfl, hg⟩; exact ⟨_, rfl, hK _ hg⟩)) | (go_at_call 146; ((with_reducible refine (K1 _ (X.grow hw1) (G.trans hw1)).mono ?_); rintro e w' ⟨rfl, hg⟩; exact ⟨_, rfl, hK _ hg⟩)) | (go_at_call 30; ((with_reducible refine (reckon_any 45 a b ra rb _).mono ?_); rintro e w' ⟨rfl, hg⟩; exact ⟨_, rfl, hK _ hg⟩))))
        | apply calm_n rfl rfl rfl rfl
      intro K hK
      go_simp
      apply hK
      clear hK K)
    refine calm_nil ?_
    intro w1 hw1 hF
    apply hQ0
    clear hQ0
    simp only [List.drop_succ_cons, List.drop_zero]
    clear hF
    obtain ⟨x3, y3⟩ := (X.grow hw1).b3.rules
    go_wp2
    exact bodyPost_ret (by simp [results, Try.results111, go_sem, x3]) rfl ⟨rfl, (by repeat (first | (with_reducible exact Grow.refl _) | (with_reducible assumption) | (with_reducible refine Grow.set ?_ (by first | (simp; done) | (simp; omega)) _) | (with_reducible refine Grow.al ?_ _) | (with_reducible refine Grow.drew ?_) | (with_reducible refine Grow.drewN ?_ _) | (with_reducible refine Grow.trans ?_ (by assumption))))⟩
  case hp' => exact ⟨fun v w w' hg ⟨g, e, hb⟩ => ⟨g, e, hb.grow hg⟩, fun v w w' hg ⟨g, e, hb⟩ => ⟨g, e, hb.grow hg⟩, trivial⟩

set_option maxRecDepth 100000 in
set_option maxHeartbeats 4000000 in
theorem of_mul (row : List V) (A : Option Addr) (cr : Nat) (gx ox : Nat) (w0 w : World) (hrow : VSl w0 A row) (hg : Grow w0 w) (e : E) (hx : ECells w0 gx ox e) (hk : e.kind = 14) (a b : V) (ra : RV a) (rb : RV b) (K0 : ∀ W, Vars W w.heap.size gx ox A row.length cr → Grow w W → Calls Try.prog 146 #[.int .i64 0, .pointer (some ⟨w.heap.size, 0, none⟩), .pointer (some ⟨w.heap.size + 1, 0, none⟩)] W fun en w' => en = .returned a.val ∧ Grow W w') (K1 : ∀ W, Vars W w.heap.size gx ox A row.length cr → Grow w W → Calls Try.prog 146 #[.int .i64 1, .pointer (some ⟨w.heap.size, 0, none⟩), .pointer (some ⟨w.heap.size + 1, 0, none⟩)] W fun en w' => en = .returned b.val ∧ Grow W w') :
    Calls Try.prog 111 #[.pointer (some ⟨gx, ox, none⟩), .slice A row.length cr] w fun en w' => en = .returned (reckonV 42 a b).val ∧ Grow w w' := by
  go_enter Try.func111, Try.ntmps111
  go_upto_region 2 with fail
  refine wp_forget (fun W => Vars W w.heap.size gx ox A row.length cr ∧ Grow w W) ⟨⟨((Blk.new _ _ _).al _).al _, (Blk.new' _ _ _ (by simp)).al _, Blk.new' _ _ _ (by simp)⟩, (by repeat (first | (with_reducible exact Grow.refl _) | (with_reducible assumption) | (with_reducible refine Grow.set ?_ (by first | (simp; done) | (simp; omega)) _) | (with_reducible refine Grow.al ?_ _) | (with_reducible refine Grow.drew ?_) | (with_reducible refine Grow.drewN ?_ _) | (with_reducible refine Grow.trans ?_ (by assumption))))⟩ ?_
  rintro W ⟨X, G⟩
  have c0 := hx.c0
  rw [hk] at c0
  have hx0 := (hg.trans G).cell c0
  clear hx hk
  have x1 := X.b1.rules.1
  go_wp2
  refine wp_forget (fun W => Vars W w.heap.size gx ox A row.length cr ∧ Grow w W) ⟨X, G⟩ ?_
  clear X G hx0 x1
  rintro W ⟨X, G⟩
  apply wp_region_calm 13 (by kernel_rfl) (by kernel_rfl)
  case h' =>
    intro Q0 hQ0
    simp only [List.take_succ_cons, List.take_zero]
    apply calm_fp (fun v W => ∃ g, v = .slice (some ⟨g, 0, none⟩) 3 3 ∧ Blk W g 21 #[.int .i32 43, .int .i32 45, .int .i32 42]) rfl
    case h1 =>
      intro w1 hw1 hF K hK
      go_simp
      exact hK _ _ ((Grow.refl _).al _) ⟨_, rfl, Blk.new _ _ _⟩
    intro sl K hK
    go_simp
    apply hK
    clear hK K
    repeat (
      first
        | (apply calm_p rfl; case h1 => (intro w1 hw1 hF K hK; obtain ⟨x1, y1⟩ := (X.grow hw1).b1.rules; obtain ⟨x2, y2⟩ := (X.grow hw1).b2.rules; have hx0 := (hg.trans (G.trans hw1)).cell c0; go_simp; first | exact hK _ (Grow.refl _) | fail))
        | (apply calm_y rfl rfl rfl; case h1 => (intro w1 hw1 hF K hK; obtain ⟨x1, y1⟩ := (X.grow hw1).b1.rules; obtain ⟨x2, y2⟩ := (X.grow hw1).b2.rules; have hx0 := (hg.trans (G.trans hw1)).cell c0; go_simp; first | exact hK _ (Grow.refl _) | fail))
        | apply calm_n rfl rfl rfl rfl
      intro K hK
      go_simp
      apply hK
      clear hK K)
    apply calm_fp (fun v W => ∃ g, v = .pointer (some ⟨g, 2, none⟩) ∧ Blk W g 21 #[.int .i32 43, .int .i32 45, .int .i32 42]) rfl
    case h1 =>
      intro w1 hw1 hF K hK
      obtain ⟨g, hsl, B⟩ := hF _ (List.mem_cons_self ..) ⟨_, rfl, by decide⟩
      subst hsl
      go_simp
      exact hK _ _ (Grow.refl _) ⟨_, rfl, B⟩
    intro pt K hK
    go_simp
    apply hK
    clear hK K
    apply calm_p rfl
    case h1 =>
      intro w1 hw1 hF K hK
      obtain ⟨g, hpt, B⟩ := hF _ (List.mem_cons_self ..) ⟨_, rfl, by decide⟩
      subst hpt
      obtain ⟨z1, z2⟩ := B.rules
      go_simp
      exact hK _ (Grow.refl _)
    intro K hK
    go_simp
    apply hK
    clear hK K
    repeat (
      first
        | (apply calm_p rfl; case h1 => (intro w1 hw1 hF K hK; obtain ⟨x1, y1⟩ := (X.grow hw1).b1.rules; obtain ⟨x2, y2⟩ := (X.grow hw1).b2.rules; have hx0 := (hg.trans (G.trans hw1)).cell c0; go_simp; first | exact hK _ (Grow.refl _) | (go_at_call 146; ((with_reducible refine (K0 _ (X.grow hw1) (G.trans hw1)).mono ?_); rintro e w' ⟨rfl, hg⟩; exact ⟨_, rfl, hK _ hg⟩)) | (go_at_call 146; ((with_reducible refine (K1 _ (X.grow hw1) (G.trans hw1)).mono ?_); rintro e w' ⟨rfl, hg⟩; exact ⟨_, rfl, hK _ hg⟩)) | (go_at_call 30; ((with_reducible refine (reckon_any 42 a b ra rb _).mono ?_); rintro e w' ⟨rfl, hg⟩; exact ⟨_, rfl, hK _ hg⟩))))
        | (apply calm_y rfl rfl rfl; case h1 => (intro w1 hw1 hF K hK; obtain ⟨x1, y1⟩ := (X.grow hw1).b1.rules; obtain ⟨x2, y2⟩ := (X.grow hw1).b2.rules; have hx0 := (hg.trans (G.trans hw1)).cell c0; go_simp; first | exact hK _ (Grow.refl _) | (go_at_call 146; ((with_reducible refine (K0 _ (X.grow hw1) (G.trans hw1)).mono ?_); rintro e w' ⟨rfl, hg⟩; exact ⟨_, rfl, hK _ hg⟩)) | (go_at_call 146; ((with_reducible refine (K1 _ (X.grow hw1) (G.trans hw1)).mono ?_); rintro e w' ⟨rfl, hg⟩; exact ⟨_, rfl, hK _ hg⟩)) | (go_at_call 30; ((with_reducible refine (reckon_any 42 a b ra rb _).mono ?_); rintro e w' ⟨rfl, hg⟩; exact ⟨_, rfl, hK _ hg⟩))))
        | apply calm_n rfl rfl rfl rfl
      intro K hK
      go_simp
      apply hK
      clear hK K)
    refine calm_nil ?_
    intro w1 hw1 hF
    apply hQ0
    clear hQ0
    simp only [List.drop_succ_cons, List.drop_zero]
    clear hF
    obtain ⟨x3, y3⟩ := (X.grow hw1).b3.rules
    go_wp2
    exact bodyPost_ret (by simp [results, Try.results111, go_sem, x3]) rfl ⟨rfl, (by repeat (first | (with_reducible exact Grow.refl _) | (with_reducible assumption) | (with_reducible refine Grow.set ?_ (by first | (simp; done) | (simp; omega)) _) | (with_reducible refine Grow.al ?_ _) | (with_reducible refine Grow.drew ?_) | (with_reducible refine Grow.drewN ?_ _) | (with_reducible refine Grow.trans ?_ (by assumption))))⟩
  case hp' => exact ⟨fun v w w' hg ⟨g, e, hb⟩ => ⟨g, e, hb.grow hg⟩, fun v w w' hg ⟨g, e, hb⟩ => ⟨g, e, hb.grow hg⟩, trivial⟩

end Go.Proofs.Ytjhcbehnopmnpaa
