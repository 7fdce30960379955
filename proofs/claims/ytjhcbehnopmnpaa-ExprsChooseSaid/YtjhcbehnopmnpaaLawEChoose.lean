/-
  The law ExprsChoose: its walk.
-/
import Derived.Test.YtjhcbehnopmnpaaEvV
namespace Go.Proofs.Ytjhcbehnopmnpaa
open Go.RowKit Go.Calm
set_option linter.unusedSimpArgs false
set_option linter.unusedVariables false

theorem VB3.far3 {X : World} {g h : Nat} {v : V} (hv : VB3 X g v) (hne : g ≠ h) {a b c : Value} : VB3 (((X.setCell ⟨h, 0, none⟩ a).setCell ⟨h, 1, none⟩ b).setCell ⟨h, 2, none⟩ c) g v := ((Blk.far hv hne _).far hne _).far hne _
theorem VB3.set3 {X : World} {g : Nat} {v u : V} (hv : VB3 X g v) : VB3 (((X.setCell ⟨g, 0, none⟩ (.int .i64 u.k)).setCell ⟨g, 1, none⟩ (.int .i64 u.n)).setCell ⟨g, 2, none⟩ (.string u.s)) g u := ((Blk.set hv 0 _).set 1 _).set 2 _
set_option maxRecDepth 100000 in
set_option maxHeartbeats 8000000 in
theorem law_echoose (cols : List Int) (row : List V) (Ac Ar : Option Addr) (cc cr : Nat) (c x y : E) (w : World) (hlc : cols.length ≤ 9223372036854775807) (hlr : row.length ≤ 9223372036854775807) (hc : ISl w Ac cols) (hr : VSl w Ar row) (hEc : EX w c) (hEx : EX w x) (hEy : EX w y) :
    Calls Try.prog 14 #[.slice Ac cols.length cc, c.val, x.val, y.val, .slice Ar row.length cr] w fun en w' => en = .returned (.bool true) ∧ Grow w w' := by
  have heq := run_eqlV
  have i17 : inI64 17 := ⟨by decide, by decide⟩
  have i18 : inI64 18 := ⟨by decide, by decide⟩
  have i16 : inI64 16 := ⟨by decide, by decide⟩
  have ev := fun e R ER hR W hg hE => eval_of cols row Ac Ar cc cr w hlc hlr hc hr e R ER hR W hg hE
  unfold E.val
  go_enter Try.func14, Try.ntmps14
  go_upto_region 1 with fail
  refine wp_forget (fun X => EB X w.heap.size c ∧ EB X (w.heap.size + 1) x ∧ EB X (w.heap.size + 2) y ∧ Grow w X) ⟨((Blk.new _ _ _).al _).al _, (Blk.new' _ _ _ (by simp)).al _, Blk.new' _ _ _ (by simp), (by repeat (first | (with_reducible exact Grow.refl _) | (with_reducible assumption) | (with_reducible refine Grow.set ?_ (by first | (simp; done) | (simp; omega)) _) | (with_reducible refine Grow.al ?_ _) | (with_reducible refine Grow.drew ?_) | (with_reducible refine Grow.drewN ?_ _) | (with_reducible refine Grow.trans ?_ (by assumption))))⟩ ?_
  rintro W0 ⟨Bc, Bx, By, G⟩
  obtain ⟨cBc, fBc⟩ := Bc.rules
  have lBc := Bc.lt
  obtain ⟨cBx, fBx⟩ := Bx.rules
  have lBx := Bx.lt
  obtain ⟨cBy, fBy⟩ := By.rules
  have lBy := By.lt
  go_upto_region 3 with (go_at_call 60; ((with_reducible refine (alive3 _).mono ?_); rintro en w1 ⟨rfl, hg1⟩; replace Bc := Bc.grow hg1; replace Bx := Bx.grow hg1; replace By := By.grow hg1; replace G := G.trans hg1; clear cBc fBc lBc cBx fBx lBx cBy fBy lBy; obtain ⟨cBc, fBc⟩ := Bc.rules; have lBc := Bc.lt; obtain ⟨cBx, fBx⟩ := Bx.rules; have lBx := Bx.lt; obtain ⟨cBy, fBy⟩ := By.rules; have lBy := By.lt))
  go_upto_region 4 with fail
  refine wp_forget (fun X => EB X w.heap.size c ∧ EB X (w.heap.size + 1) x ∧ EB X (w.heap.size + 2) y ∧ EX X (threeK 17 c x y (some ⟨w1.heap.size, 0, none⟩)) ∧ EB X (w1.heap.size + 1) (threeK 17 c x y (some ⟨w1.heap.size, 0, none⟩)) ∧ Grow w X) ⟨(Bc.grow (by repeat (first | (with_reducible exact Grow.refl _) | (with_reducible assumption) | (with_reducible refine Grow.set ?_ (by first | (simp; done) | (simp; omega)) _) | (with_reducible refine Grow.al ?_ _) | (with_reducible refine Grow.drew ?_) | (with_reducible refine Grow.drewN ?_ _) | (with_reducible refine Grow.trans ?_ (by assumption))))), (Bx.grow (by repeat (first | (with_reducible exact Grow.refl _) | (with_reducible assumption) | (with_reducible refine Grow.set ?_ (by first | (simp; done) | (simp; omega)) _) | (with_reducible refine Grow.al ?_ _) | (with_reducible refine Grow.drew ?_) | (with_reducible refine Grow.drewN ?_ _) | (with_reducible refine Grow.trans ?_ (by assumption))))), (By.grow (by repeat (first | (with_reducible exact Grow.refl _) | (with_reducible assumption) | (with_reducible refine Grow.set ?_ (by first | (simp; done) | (simp; omega)) _) | (with_reducible refine Grow.al ?_ _) | (with_reducible refine Grow.drew ?_) | (with_reducible refine Grow.drewN ?_ _) | (with_reducible refine Grow.trans ?_ (by assumption))))), ex_three (t := 47) c x y ((Blk.new _ _ _).al _) (hEc.grow (by repeat (first | (with_reducible exact Grow.refl _) | (with_reducible assumption) | (with_reducible refine Grow.set ?_ (by first | (simp; done) | (simp; omega)) _) | (with_reducible refine Grow.al ?_ _) | (with_reducible refine Grow.drew ?_) | (with_reducible refine Grow.drewN ?_ _) | (with_reducible refine Grow.trans ?_ (by assumption))))) (hEx.grow (by repeat (first | (with_reducible exact Grow.refl _) | (with_reducible assumption) | (with_reducible refine Grow.set ?_ (by first | (simp; done) | (simp; omega)) _) | (with_reducible refine Grow.al ?_ _) | (with_reducible refine Grow.drew ?_) | (with_reducible refine Grow.drewN ?_ _) | (with_reducible refine Grow.trans ?_ (by assumption))))) (hEy.grow (by repeat (first | (with_reducible exact Grow.refl _) | (with_reducible assumption) | (with_reducible refine Grow.set ?_ (by first | (simp; done) | (simp; omega)) _) | (with_reducible refine Grow.al ?_ _) | (with_reducible refine Grow.drew ?_) | (with_reducible refine Grow.drewN ?_ _) | (with_reducible refine Grow.trans ?_ (by assumption))))) i17, Blk.new' _ _ _ (by simp), (G.trans (by repeat (first | (with_reducible exact Grow.refl _) | (with_reducible assumption) | (with_reducible refine Grow.set ?_ (by first | (simp; done) | (simp; omega)) _) | (with_reducible refine Grow.al ?_ _) | (with_reducible refine Grow.drew ?_) | (with_reducible refine Grow.drewN ?_ _) | (with_reducible refine Grow.trans ?_ (by assumption)))))⟩ ?_
  generalize (some ⟨w1.heap.size, 0, none⟩ : Option Addr) = A1
  generalize w1.heap.size + 1 = p1
  clear cBc fBc lBc cBx fBx lBx cBy fBy lBy
  clear Bc Bx By G
  rintro W1 ⟨Bc, Bx, By, X1, B1, G⟩
  obtain ⟨cBc, fBc⟩ := Bc.rules
  have lBc := Bc.lt
  obtain ⟨cBx, fBx⟩ := Bx.rules
  have lBx := Bx.lt
  obtain ⟨cBy, fBy⟩ := By.rules
  have lBy := By.lt
  obtain ⟨cB1, fB1⟩ := B1.rules
  have lB1 := B1.lt
  go_upto_region 5 with (go_at_call 61; ((with_reducible refine (two_any 18 i18 x y _ (hEx.grow G) (hEy.grow G)).mono ?_); rintro en w2 ⟨A2, rfl, X2, hg2⟩; replace Bc := Bc.grow hg2; replace Bx := Bx.grow hg2; replace By := By.grow hg2; replace B1 := B1.grow hg2; replace G := G.trans hg2; replace X1 := X1.grow hg2; clear cBc fBc lBc cBx fBx lBx cBy fBy lBy cB1 fB1 lB1; obtain ⟨cBc, fBc⟩ := Bc.rules; have lBc := Bc.lt; obtain ⟨cBx, fBx⟩ := Bx.rules; have lBx := Bx.lt; obtain ⟨cBy, fBy⟩ := By.rules; have lBy := By.lt; obtain ⟨cB1, fB1⟩ := B1.rules; have lB1 := B1.lt))
  refine wp_forget (fun X => EB X w.heap.size c ∧ EB X (w.heap.size + 1) x ∧ EB X (w.heap.size + 2) y ∧ EB X p1 (threeK 17 c x y A1) ∧ EB X w2.heap.size (twoK 18 x y A2) ∧ EX X (threeK 17 c x y A1) ∧ EX X (twoK 18 x y A2) ∧ Grow w X) ⟨(Bc.grow (by repeat (first | (with_reducible exact Grow.refl _) | (with_reducible assumption) | (with_reducible refine Grow.set ?_ (by first | (simp; done) | (simp; omega)) _) | (with_reducible refine Grow.al ?_ _) | (with_reducible refine Grow.drew ?_) | (with_reducible refine Grow.drewN ?_ _) | (with_reducible refine Grow.trans ?_ (by assumption))))), (Bx.grow (by repeat (first | (with_reducible exact Grow.refl _) | (with_reducible assumption) | (with_reducible refine Grow.set ?_ (by first | (simp; done) | (simp; omega)) _) | (with_reducible refine Grow.al ?_ _) | (with_reducible refine Grow.drew ?_) | (with_reducible refine Grow.drewN ?_ _) | (with_reducible refine Grow.trans ?_ (by assumption))))), (By.grow (by repeat (first | (with_reducible exact Grow.refl _) | (with_reducible assumption) | (with_reducible refine Grow.set ?_ (by first | (simp; done) | (simp; omega)) _) | (with_reducible refine Grow.al ?_ _) | (with_reducible refine Grow.drew ?_) | (with_reducible refine Grow.drewN ?_ _) | (with_reducible refine Grow.trans ?_ (by assumption))))), (B1.grow (by repeat (first | (with_reducible exact Grow.refl _) | (with_reducible assumption) | (with_reducible refine Grow.set ?_ (by first | (simp; done) | (simp; omega)) _) | (with_reducible refine Grow.al ?_ _) | (with_reducible refine Grow.drew ?_) | (with_reducible refine Grow.drewN ?_ _) | (with_reducible refine Grow.trans ?_ (by assumption))))), Blk.new _ _ _, (X1.grow (by repeat (first | (with_reducible exact Grow.refl _) | (with_reducible assumption) | (with_reducible refine Grow.set ?_ (by first | (simp; done) | (simp; omega)) _) | (with_reducible refine Grow.al ?_ _) | (with_reducible refine Grow.drew ?_) | (with_reducible refine Grow.drewN ?_ _) | (with_reducible refine Grow.trans ?_ (by assumption))))), (X2.grow (by repeat (first | (with_reducible exact Grow.refl _) | (with_reducible assumption) | (with_reducible refine Grow.set ?_ (by first | (simp; done) | (simp; omega)) _) | (with_reducible refine Grow.al ?_ _) | (with_reducible refine Grow.drew ?_) | (with_reducible refine Grow.drewN ?_ _) | (with_reducible refine Grow.trans ?_ (by assumption))))), (G.trans (by repeat (first | (with_reducible exact Grow.refl _) | (with_reducible assumption) | (with_reducible refine Grow.set ?_ (by first | (simp; done) | (simp; omega)) _) | (with_reducible refine Grow.al ?_ _) | (with_reducible refine Grow.drew ?_) | (with_reducible refine Grow.drewN ?_ _) | (with_reducible refine Grow.trans ?_ (by assumption)))))⟩ ?_
  generalize w2.heap.size = p2
  clear cBc fBc lBc cBx fBx lBx cBy fBy lBy cB1 fB1 lB1
  clear Bc Bx By B1 X1 X2 G
  rintro W2 ⟨Bc, Bx, By, B1, B2, X1, X2, G⟩
  obtain ⟨cBc, fBc⟩ := Bc.rules
  have lBc := Bc.lt
  obtain ⟨cBx, fBx⟩ := Bx.rules
  have lBx := Bx.lt
  obtain ⟨cBy, fBy⟩ := By.rules
  have lBy := By.lt
  obtain ⟨cB1, fB1⟩ := B1.rules
  have lB1 := B1.lt
  obtain ⟨cB2, fB2⟩ := B2.rules
  have lB2 := B2.lt
  go_upto_region 6 with fail
  refine wp_forget (fun X => EB X w.heap.size c ∧ EB X (w.heap.size + 1) x ∧ EB X (w.heap.size + 2) y ∧ EB X p1 (threeK 17 c x y A1) ∧ EB X p2 (twoK 18 x y A2) ∧ EB X (W2.heap.size + 1 + 1) (threeK 17 (oneK 16 x (some ⟨W2.heap.size, 0, none⟩)) y x (some ⟨W2.heap.size + 1, 0, none⟩)) ∧ EX X (threeK 17 c x y A1) ∧ EX X (twoK 18 x y A2) ∧ EX X (threeK 17 (oneK 16 x (some ⟨W2.heap.size, 0, none⟩)) y x (some ⟨W2.heap.size + 1, 0, none⟩)) ∧ Grow w X) ⟨(Bc.grow (by repeat (first | (with_reducible exact Grow.refl _) | (with_reducible assumption) | (with_reducible refine Grow.set ?_ (by first | (simp; done) | (simp; omega)) _) | (with_reducible refine Grow.al ?_ _) | (with_reducible refine Grow.drew ?_) | (with_reducible refine Grow.drewN ?_ _) | (with_reducible refine Grow.trans ?_ (by assumption))))), (Bx.grow (by repeat (first | (with_reducible exact Grow.refl _) | (with_reducible assumption) | (with_reducible refine Grow.set ?_ (by first | (simp; done) | (simp; omega)) _) | (with_reducible refine Grow.al ?_ _) | (with_reducible refine Grow.drew ?_) | (with_reducible refine Grow.drewN ?_ _) | (with_reducible refine Grow.trans ?_ (by assumption))))), (By.grow (by repeat (first | (with_reducible exact Grow.refl _) | (with_reducible assumption) | (with_reducible refine Grow.set ?_ (by first | (simp; done) | (simp; omega)) _) | (with_reducible refine Grow.al ?_ _) | (with_reducible refine Grow.drew ?_) | (with_reducible refine Grow.drewN ?_ _) | (with_reducible refine Grow.trans ?_ (by assumption))))), (B1.grow (by repeat (first | (with_reducible exact Grow.refl _) | (with_reducible assumption) | (with_reducible refine Grow.set ?_ (by first | (simp; done) | (simp; omega)) _) | (with_reducible refine Grow.al ?_ _) | (with_reducible refine Grow.drew ?_) | (with_reducible refine Grow.drewN ?_ _) | (with_reducible refine Grow.trans ?_ (by assumption))))), (B2.grow (by repeat (first | (with_reducible exact Grow.refl _) | (with_reducible assumption) | (with_reducible refine Grow.set ?_ (by first | (simp; done) | (simp; omega)) _) | (with_reducible refine Grow.al ?_ _) | (with_reducible refine Grow.drew ?_) | (with_reducible refine Grow.drewN ?_ _) | (with_reducible refine Grow.trans ?_ (by assumption))))), Blk.new' _ _ _ (by simp), (X1.grow (by repeat (first | (with_reducible exact Grow.refl _) | (with_reducible assumption) | (with_reducible refine Grow.set ?_ (by first | (simp; done) | (simp; omega)) _) | (with_reducible refine Grow.al ?_ _) | (with_reducible refine Grow.drew ?_) | (with_reducible refine Grow.drewN ?_ _) | (with_reducible refine Grow.trans ?_ (by assumption))))), (X2.grow (by repeat (first | (with_reducible exact Grow.refl _) | (with_reducible assumption) | (with_reducible refine Grow.set ?_ (by first | (simp; done) | (simp; omega)) _) | (with_reducible refine Grow.al ?_ _) | (with_reducible refine Grow.drew ?_) | (with_reducible refine Grow.drewN ?_ _) | (with_reducible refine Grow.trans ?_ (by assumption))))), ex_three (t := 47) (oneK 16 x (some ⟨W2.heap.size, 0, none⟩)) y x ((Blk.new' _ _ _ (by simp)).al _) (ex_one (t := 47) x (((Blk.new _ _ _).al _).al _) (hEx.grow (G.trans (by repeat (first | (with_reducible exact Grow.refl _) | (with_reducible assumption) | (with_reducible refine Grow.set ?_ (by first | (simp; done) | (simp; omega)) _) | (with_reducible refine Grow.al ?_ _) | (with_reducible refine Grow.drew ?_) | (with_reducible refine Grow.drewN ?_ _) | (with_reducible refine Grow.trans ?_ (by assumption)))))) i16) (hEy.grow (G.trans (by repeat (first | (with_reducible exact Grow.refl _) | (with_reducible assumption) | (with_reducible refine Grow.set ?_ (by first | (simp; done) | (simp; omega)) _) | (with_reducible refine Grow.al ?_ _) | (with_reducible refine Grow.drew ?_) | (with_reducible refine Grow.drewN ?_ _) | (with_reducible refine Grow.trans ?_ (by assumption)))))) (hEx.grow (G.trans (by repeat (first | (with_reducible exact Grow.refl _) | (with_reducible assumption) | (with_reducible refine Grow.set ?_ (by first | (simp; done) | (simp; omega)) _) | (with_reducible refine Grow.al ?_ _) | (with_reducible refine Grow.drew ?_) | (with_reducible refine Grow.drewN ?_ _) | (with_reducible refine Grow.trans ?_ (by assumption)))))) i17, (G.trans (by repeat (first | (with_reducible exact Grow.refl _) | (with_reducible assumption) | (with_reducible refine Grow.set ?_ (by first | (simp; done) | (simp; omega)) _) | (with_reducible refine Grow.al ?_ _) | (with_reducible refine Grow.drew ?_) | (with_reducible refine Grow.drewN ?_ _) | (with_reducible refine Grow.trans ?_ (by assumption)))))⟩ ?_
  generalize (some ⟨W2.heap.size, 0, none⟩ : Option Addr) = A3
  generalize (some ⟨W2.heap.size + 1, 0, none⟩ : Option Addr) = A4
  generalize W2.heap.size + 1 + 1 = p3
  clear cBc fBc lBc cBx fBx lBx cBy fBy lBy cB1 fB1 lB1 cB2 fB2 lB2
  clear Bc Bx By B1 B2 X1 X2 G
  rintro W3 ⟨Bc, Bx, By, B1, B2, B3, X1, X2, X3, G⟩
  obtain ⟨R1, E1, hR1⟩ : ∃ R E, evalE cols row (threeK 17 c x y A1) = (R, E) := ⟨_, _, rfl⟩
  obtain ⟨R2, E2, hR2⟩ : ∃ R E, evalE cols row (twoK 18 x y A2) = (R, E) := ⟨_, _, rfl⟩
  obtain ⟨R3, E3, hR3⟩ : ∃ R E, evalE cols row (threeK 17 (oneK 16 x A3) y x A4) = (R, E) := ⟨_, _, rfl⟩
  have v1 := fun W hg hE => ev _ _ _ hR1 W hg hE
  have v2 := fun W hg hE => ev _ _ _ hR2 W hg hE
  have v3 := fun W hg hE => ev _ _ _ hR3 W hg hE
  have key := fun h1 h2 h3 => choose (cols := cols) (row := row) (c := c) (x := x) (y := y) (A := A1) (B := A2) (C := A3) (D := A4) h1 h2 h3
  rw [hR1, hR2, hR3] at key
  simp only at key
  have Key := Lib.hid key
  clear hR1 hR2 hR3 key
  obtain ⟨cBc, fBc⟩ := Bc.rules
  have lBc := Bc.lt
  obtain ⟨cBx, fBx⟩ := Bx.rules
  have lBx := Bx.lt
  obtain ⟨cBy, fBy⟩ := By.rules
  have lBy := By.lt
  obtain ⟨cB1, fB1⟩ := B1.rules
  have lB1 := B1.lt
  obtain ⟨cB2, fB2⟩ := B2.rules
  have lB2 := B2.lt
  obtain ⟨cB3, fB3⟩ := B3.rules
  have lB3 := B3.lt
  go_upto_region 7 with (go_at_call 58; ((with_reducible refine (v1 _ G X1).mono ?_); rintro en u1 ⟨rfl, hg2⟩; replace Bc := Bc.grow hg2; replace Bx := Bx.grow hg2; replace By := By.grow hg2; replace B1 := B1.grow hg2; replace B2 := B2.grow hg2; replace B3 := B3.grow hg2; replace G := G.trans hg2; replace X1 := X1.grow hg2; replace X2 := X2.grow hg2; replace X3 := X3.grow hg2; clear cBc fBc lBc cBx fBx lBx cBy fBy lBy cB1 fB1 lB1 cB2 fB2 lB2 cB3 fB3 lB3; obtain ⟨cBc, fBc⟩ := Bc.rules; have lBc := Bc.lt; obtain ⟨cBx, fBx⟩ := Bx.rules; have lBx := Bx.lt; obtain ⟨cBy, fBy⟩ := By.rules; have lBy := By.lt; obtain ⟨cB1, fB1⟩ := B1.rules; have lB1 := B1.lt; obtain ⟨cB2, fB2⟩ := B2.rules; have lB2 := B2.lt; obtain ⟨cB3, fB3⟩ := B3.rules; have lB3 := B3.lt))
  refine wp_forget (fun X => EB X w.heap.size c ∧ EB X (w.heap.size + 1) x ∧ EB X (w.heap.size + 2) y ∧ EB X p2 (twoK 18 x y A2) ∧ EB X p3 (threeK 17 (oneK 16 x A3) y x A4) ∧ VB3 X u1.heap.size R1 ∧ EX X (twoK 18 x y A2) ∧ EX X (threeK 17 (oneK 16 x A3) y x A4) ∧ Grow w X) ⟨(Bc.grow (by repeat (first | (with_reducible exact Grow.refl _) | (with_reducible assumption) | (with_reducible refine Grow.set ?_ (by first | (simp; done) | (simp; omega)) _) | (with_reducible refine Grow.al ?_ _) | (with_reducible refine Grow.drew ?_) | (with_reducible refine Grow.drewN ?_ _) | (with_reducible refine Grow.trans ?_ (by assumption))))), (Bx.grow (by repeat (first | (with_reducible exact Grow.refl _) | (with_reducible assumption) | (with_reducible refine Grow.set ?_ (by first | (simp; done) | (simp; omega)) _) | (with_reducible refine Grow.al ?_ _) | (with_reducible refine Grow.drew ?_) | (with_reducible refine Grow.drewN ?_ _) | (with_reducible refine Grow.trans ?_ (by assumption))))), (By.grow (by repeat (first | (with_reducible exact Grow.refl _) | (with_reducible assumption) | (with_reducible refine Grow.set ?_ (by first | (simp; done) | (simp; omega)) _) | (with_reducible refine Grow.al ?_ _) | (with_reducible refine Grow.drew ?_) | (with_reducible refine Grow.drewN ?_ _) | (with_reducible refine Grow.trans ?_ (by assumption))))), (B2.grow (by repeat (first | (with_reducible exact Grow.refl _) | (with_reducible assumption) | (with_reducible refine Grow.set ?_ (by first | (simp; done) | (simp; omega)) _) | (with_reducible refine Grow.al ?_ _) | (with_reducible refine Grow.drew ?_) | (with_reducible refine Grow.drewN ?_ _) | (with_reducible refine Grow.trans ?_ (by assumption))))), (B3.grow (by repeat (first | (with_reducible exact Grow.refl _) | (with_reducible assumption) | (with_reducible refine Grow.set ?_ (by first | (simp; done) | (simp; omega)) _) | (with_reducible refine Grow.al ?_ _) | (with_reducible refine Grow.drew ?_) | (with_reducible refine Grow.drewN ?_ _) | (with_reducible refine Grow.trans ?_ (by assumption))))), Blk.new _ _ _, (X2.grow (by repeat (first | (with_reducible exact Grow.refl _) | (with_reducible assumption) | (with_reducible refine Grow.set ?_ (by first | (simp; done) | (simp; omega)) _) | (with_reducible refine Grow.al ?_ _) | (with_reducible refine Grow.drew ?_) | (with_reducible refine Grow.drewN ?_ _) | (with_reducible refine Grow.trans ?_ (by assumption))))), (X3.grow (by repeat (first | (with_reducible exact Grow.refl _) | (with_reducible assumption) | (with_reducible refine Grow.set ?_ (by first | (simp; done) | (simp; omega)) _) | (with_reducible refine Grow.al ?_ _) | (with_reducible refine Grow.drew ?_) | (with_reducible refine Grow.drewN ?_ _) | (with_reducible refine Grow.trans ?_ (by assumption))))), (G.trans (by repeat (first | (with_reducible exact Grow.refl _) | (with_reducible assumption) | (with_reducible refine Grow.set ?_ (by first | (simp; done) | (simp; omega)) _) | (with_reducible refine Grow.al ?_ _) | (with_reducible refine Grow.drew ?_) | (with_reducible refine Grow.drewN ?_ _) | (with_reducible refine Grow.trans ?_ (by assumption)))))⟩ ?_
  generalize u1.heap.size = q1
  clear cBc fBc lBc cBx fBx lBx cBy fBy lBy cB1 fB1 lB1 cB2 fB2 lB2 cB3 fB3 lB3
  clear Bc Bx By B1 B2 B3 X1 X2 X3 G
  rintro Y1 ⟨Bc, Bx, By, B2, B3, V1, X2, X3, G⟩
  obtain ⟨cBc, fBc⟩ := Bc.rules
  have lBc := Bc.lt
  obtain ⟨cBx, fBx⟩ := Bx.rules
  have lBx := Bx.lt
  obtain ⟨cBy, fBy⟩ := By.rules
  have lBy := By.lt
  obtain ⟨cB2, fB2⟩ := B2.rules
  have lB2 := B2.lt
  obtain ⟨cB3, fB3⟩ := B3.rules
  have lB3 := B3.lt
  obtain ⟨cV1, fV1⟩ := V1.rules
  have lV1 := V1.lt
  go_upto_region 8 with (go_at_call 58; ((with_reducible refine (v2 _ G X2).mono ?_); rintro en u2 ⟨rfl, hg2⟩; replace Bc := Bc.grow hg2; replace Bx := Bx.grow hg2; replace By := By.grow hg2; replace B2 := B2.grow hg2; replace B3 := B3.grow hg2; replace V1 := V1.grow hg2; replace G := G.trans hg2; replace X2 := X2.grow hg2; replace X3 := X3.grow hg2; clear cBc fBc lBc cBx fBx lBx cBy fBy lBy cB2 fB2 lB2 cB3 fB3 lB3 cV1 fV1 lV1; obtain ⟨cBc, fBc⟩ := Bc.rules; have lBc := Bc.lt; obtain ⟨cBx, fBx⟩ := Bx.rules; have lBx := Bx.lt; obtain ⟨cBy, fBy⟩ := By.rules; have lBy := By.lt; obtain ⟨cB2, fB2⟩ := B2.rules; have lB2 := B2.lt; obtain ⟨cB3, fB3⟩ := B3.rules; have lB3 := B3.lt; obtain ⟨cV1, fV1⟩ := V1.rules; have lV1 := V1.lt))
  refine wp_forget (fun X => EB X w.heap.size c ∧ EB X (w.heap.size + 1) x ∧ EB X (w.heap.size + 2) y ∧ EB X p3 (threeK 17 (oneK 16 x A3) y x A4) ∧ VB3 X q1 R1 ∧ VB3 X u2.heap.size R2 ∧ EX X (threeK 17 (oneK 16 x A3) y x A4) ∧ Grow w X) ⟨(Bc.grow (by repeat (first | (with_reducible exact Grow.refl _) | (with_reducible assumption) | (with_reducible refine Grow.set ?_ (by first | (simp; done) | (simp; omega)) _) | (with_reducible refine Grow.al ?_ _) | (with_reducible refine Grow.drew ?_) | (with_reducible refine Grow.drewN ?_ _) | (with_reducible refine Grow.trans ?_ (by assumption))))), (Bx.grow (by repeat (first | (with_reducible exact Grow.refl _) | (with_reducible assumption) | (with_reducible refine Grow.set ?_ (by first | (simp; done) | (simp; omega)) _) | (with_reducible refine Grow.al ?_ _) | (with_reducible refine Grow.drew ?_) | (with_reducible refine Grow.drewN ?_ _) | (with_reducible refine Grow.trans ?_ (by assumption))))), (By.grow (by repeat (first | (with_reducible exact Grow.refl _) | (with_reducible assumption) | (with_reducible refine Grow.set ?_ (by first | (simp; done) | (simp; omega)) _) | (with_reducible refine Grow.al ?_ _) | (with_reducible refine Grow.drew ?_) | (with_reducible refine Grow.drewN ?_ _) | (with_reducible refine Grow.trans ?_ (by assumption))))), (B3.grow (by repeat (first | (with_reducible exact Grow.refl _) | (with_reducible assumption) | (with_reducible refine Grow.set ?_ (by first | (simp; done) | (simp; omega)) _) | (with_reducible refine Grow.al ?_ _) | (with_reducible refine Grow.drew ?_) | (with_reducible refine Grow.drewN ?_ _) | (with_reducible refine Grow.trans ?_ (by assumption))))), (V1.grow (by repeat (first | (with_reducible exact Grow.refl _) | (with_reducible assumption) | (with_reducible refine Grow.set ?_ (by first | (simp; done) | (simp; omega)) _) | (with_reducible refine Grow.al ?_ _) | (with_reducible refine Grow.drew ?_) | (with_reducible refine Grow.drewN ?_ _) | (with_reducible refine Grow.trans ?_ (by assumption))))), Blk.new _ _ _, (X3.grow (by repeat (first | (with_reducible exact Grow.refl _) | (with_reducible assumption) | (with_reducible refine Grow.set ?_ (by first | (simp; done) | (simp; omega)) _) | (with_reducible refine Grow.al ?_ _) | (with_reducible refine Grow.drew ?_) | (with_reducible refine Grow.drewN ?_ _) | (with_reducible refine Grow.trans ?_ (by assumption))))), (G.trans (by repeat (first | (with_reducible exact Grow.refl _) | (with_reducible assumption) | (with_reducible refine Grow.set ?_ (by first | (simp; done) | (simp; omega)) _) | (with_reducible refine Grow.al ?_ _) | (with_reducible refine Grow.drew ?_) | (with_reducible refine Grow.drewN ?_ _) | (with_reducible refine Grow.trans ?_ (by assumption)))))⟩ ?_
  generalize u2.heap.size = q2
  clear cBc fBc lBc cBx fBx lBx cBy fBy lBy cB2 fB2 lB2 cB3 fB3 lB3 cV1 fV1 lV1
  clear Bc Bx By B2 B3 V1 X2 X3 G
  rintro Y2 ⟨Bc, Bx, By, B3, V1, V2, X3, G⟩
  obtain ⟨cBc, fBc⟩ := Bc.rules
  have lBc := Bc.lt
  obtain ⟨cBx, fBx⟩ := Bx.rules
  have lBx := Bx.lt
  obtain ⟨cBy, fBy⟩ := By.rules
  have lBy := By.lt
  obtain ⟨cB3, fB3⟩ := B3.rules
  have lB3 := B3.lt
  obtain ⟨cV1, fV1⟩ := V1.rules
  have lV1 := V1.lt
  obtain ⟨cV2, fV2⟩ := V2.rules
  have lV2 := V2.lt
  go_upto_region 9 with (go_at_call 58; ((with_reducible refine (v3 _ G X3).mono ?_); rintro en u3 ⟨rfl, hg2⟩; replace Bc := Bc.grow hg2; replace Bx := Bx.grow hg2; replace By := By.grow hg2; replace B3 := B3.grow hg2; replace V1 := V1.grow hg2; replace V2 := V2.grow hg2; replace G := G.trans hg2; replace X3 := X3.grow hg2; clear cBc fBc lBc cBx fBx lBx cBy fBy lBy cB3 fB3 lB3 cV1 fV1 lV1 cV2 fV2 lV2; obtain ⟨cBc, fBc⟩ := Bc.rules; have lBc := Bc.lt; obtain ⟨cBx, fBx⟩ := Bx.rules; have lBx := Bx.lt; obtain ⟨cBy, fBy⟩ := By.rules; have lBy := By.lt; obtain ⟨cB3, fB3⟩ := B3.rules; have lB3 := B3.lt; obtain ⟨cV1, fV1⟩ := V1.rules; have lV1 := V1.lt; obtain ⟨cV2, fV2⟩ := V2.rules; have lV2 := V2.lt))
  refine wp_forget (fun X => EB X w.heap.size c ∧ EB X (w.heap.size + 1) x ∧ EB X (w.heap.size + 2) y ∧ VB3 X q1 R1 ∧ VB3 X q2 R2 ∧ VB3 X u3.heap.size R3 ∧ Grow w X) ⟨(Bc.grow (by repeat (first | (with_reducible exact Grow.refl _) | (with_reducible assumption) | (with_reducible refine Grow.set ?_ (by first | (simp; done) | (simp; omega)) _) | (with_reducible refine Grow.al ?_ _) | (with_reducible refine Grow.drew ?_) | (with_reducible refine Grow.drewN ?_ _) | (with_reducible refine Grow.trans ?_ (by assumption))))), (Bx.grow (by repeat (first | (with_reducible exact Grow.refl _) | (with_reducible assumption) | (with_reducible refine Grow.set ?_ (by first | (simp; done) | (simp; omega)) _) | (with_reducible refine Grow.al ?_ _) | (with_reducible refine Grow.drew ?_) | (with_reducible refine Grow.drewN ?_ _) | (with_reducible refine Grow.trans ?_ (by assumption))))), (By.grow (by repeat (first | (with_reducible exact Grow.refl _) | (with_reducible assumption) | (with_reducible refine Grow.set ?_ (by first | (simp; done) | (simp; omega)) _) | (with_reducible refine Grow.al ?_ _) | (with_reducible refine Grow.drew ?_) | (with_reducible refine Grow.drewN ?_ _) | (with_reducible refine Grow.trans ?_ (by assumption))))), (V1.grow (by repeat (first | (with_reducible exact Grow.refl _) | (with_reducible assumption) | (with_reducible refine Grow.set ?_ (by first | (simp; done) | (simp; omega)) _) | (with_reducible refine Grow.al ?_ _) | (with_reducible refine Grow.drew ?_) | (with_reducible refine Grow.drewN ?_ _) | (with_reducible refine Grow.trans ?_ (by assumption))))), (V2.grow (by repeat (first | (with_reducible exact Grow.refl _) | (with_reducible assumption) | (with_reducible refine Grow.set ?_ (by first | (simp; done) | (simp; omega)) _) | (with_reducible refine Grow.al ?_ _) | (with_reducible refine Grow.drew ?_) | (with_reducible refine Grow.drewN ?_ _) | (with_reducible refine Grow.trans ?_ (by assumption))))), Blk.new _ _ _, (G.trans (by repeat (first | (with_reducible exact Grow.refl _) | (with_reducible assumption) | (with_reducible refine Grow.set ?_ (by first | (simp; done) | (simp; omega)) _) | (with_reducible refine Grow.al ?_ _) | (with_reducible refine Grow.drew ?_) | (with_reducible refine Grow.drewN ?_ _) | (with_reducible refine Grow.trans ?_ (by assumption)))))⟩ ?_
  generalize u3.heap.size = q3
  clear cBc fBc lBc cBx fBx lBx cBy fBy lBy cB3 fB3 lB3 cV1 fV1 lV1 cV2 fV2 lV2
  clear Bc Bx By B3 V1 V2 X3 G
  rintro Y3 ⟨Bc, Bx, By, V1, V2, V3, G⟩
  have cases3 : (E1 != 0) = true ∨ (E1 != 0) = false ∧ (E2 != 0) = true ∨ (E1 != 0) = false ∧ (E2 != 0) = false ∧ (E3 != 0) = true ∨ E1 = 0 ∧ E2 = 0 ∧ E3 = 0 := by
    by_cases h1 : E1 = 0
    · by_cases h2 : E2 = 0
      · by_cases h3 : E3 = 0
        · exact .inr (.inr (.inr ⟨h1, h2, h3⟩))
        · exact .inr (.inr (.inl ⟨by simpa using h1, by simpa using h2, by simpa using h3⟩))
      · exact .inr (.inl ⟨by simpa using h1, by simpa using h2⟩)
    · exact .inl (by simpa using h1)
  rcases cases3 with h1 | ⟨h1, h2⟩ | ⟨h1, h2, h3⟩ | ⟨rfl, rfl, rfl⟩
  · go_wp2
    go_ret
    exact ⟨rfl, G⟩
  · go_wp2
    go_ret
    exact ⟨rfl, G⟩
  · go_wp2
    go_ret
    exact ⟨rfl, G⟩
  obtain ⟨P, EP, hP⟩ : ∃ R E, evalE cols row c = (R, E) := ⟨_, _, rfl⟩
  obtain ⟨Q, EQ, hQ⟩ : ∃ R E, evalE cols row x = (R, E) := ⟨_, _, rfl⟩
  obtain ⟨S, ES, hS⟩ : ∃ R E, evalE cols row y = (R, E) := ⟨_, _, rfl⟩
  have v4 := fun W hg hE => ev _ _ _ hP W hg hE
  have v5 := fun W hg hE => ev _ _ _ hQ W hg hE
  have v6 := fun W hg hE => ev _ _ _ hS W hg hE
  have key := Key.out rfl rfl rfl
  rw [hP, hQ, hS] at key
  simp only at key
  obtain ⟨rfl, rfl, rfl, k1, k2, k3⟩ := key
  have K1 := Lib.hid k1
  have K2 := Lib.hid k2
  have K3 := Lib.hid k3
  clear hP hQ hS k1 k2 k3 Key
  go_upto_region 11 with fail
  obtain ⟨cBc, fBc⟩ := Bc.rules
  have lBc := Bc.lt
  obtain ⟨cBx, fBx⟩ := Bx.rules
  have lBx := Bx.lt
  obtain ⟨cBy, fBy⟩ := By.rules
  have lBy := By.lt
  obtain ⟨cV1, fV1⟩ := V1.rules
  have lV1 := V1.lt
  obtain ⟨cV2, fV2⟩ := V2.rules
  have lV2 := V2.lt
  obtain ⟨cV3, fV3⟩ := V3.rules
  have lV3 := V3.lt
  go_upto_region 12 with (go_at_call 58; ((with_reducible refine (v4 _ G (hEc.grow G)).mono ?_); rintro en u4 ⟨rfl, hg2⟩; replace Bc := Bc.grow hg2; replace Bx := Bx.grow hg2; replace By := By.grow hg2; replace V1 := V1.grow hg2; replace V2 := V2.grow hg2; replace V3 := V3.grow hg2; replace G := G.trans hg2; clear cBc fBc lBc cBx fBx lBx cBy fBy lBy cV1 fV1 lV1 cV2 fV2 lV2 cV3 fV3 lV3; obtain ⟨cBc, fBc⟩ := Bc.rules; have lBc := Bc.lt; obtain ⟨cBx, fBx⟩ := Bx.rules; have lBx := Bx.lt; obtain ⟨cBy, fBy⟩ := By.rules; have lBy := By.lt; obtain ⟨cV1, fV1⟩ := V1.rules; have lV1 := V1.lt; obtain ⟨cV2, fV2⟩ := V2.rules; have lV2 := V2.lt; obtain ⟨cV3, fV3⟩ := V3.rules; have lV3 := V3.lt))
  refine wp_forget (fun X => EB X (w.heap.size + 1) x ∧ EB X (w.heap.size + 2) y ∧ VB3 X q1 R1 ∧ VB3 X q2 R2 ∧ VB3 X q3 R3 ∧ VB3 X u4.heap.size P ∧ Grow w X) ⟨(Bx.grow (by repeat (first | (with_reducible exact Grow.refl _) | (with_reducible assumption) | (with_reducible refine Grow.set ?_ (by first | (simp; done) | (simp; omega)) _) | (with_reducible refine Grow.al ?_ _) | (with_reducible refine Grow.drew ?_) | (with_reducible refine Grow.drewN ?_ _) | (with_reducible refine Grow.trans ?_ (by assumption))))), (By.grow (by repeat (first | (with_reducible exact Grow.refl _) | (with_reducible assumption) | (with_reducible refine Grow.set ?_ (by first | (simp; done) | (simp; omega)) _) | (with_reducible refine Grow.al ?_ _) | (with_reducible refine Grow.drew ?_) | (with_reducible refine Grow.drewN ?_ _) | (with_reducible refine Grow.trans ?_ (by assumption))))), (V1.grow (by repeat (first | (with_reducible exact Grow.refl _) | (with_reducible assumption) | (with_reducible refine Grow.set ?_ (by first | (simp; done) | (simp; omega)) _) | (with_reducible refine Grow.al ?_ _) | (with_reducible refine Grow.drew ?_) | (with_reducible refine Grow.drewN ?_ _) | (with_reducible refine Grow.trans ?_ (by assumption))))), (V2.grow (by repeat (first | (with_reducible exact Grow.refl _) | (with_reducible assumption) | (with_reducible refine Grow.set ?_ (by first | (simp; done) | (simp; omega)) _) | (with_reducible refine Grow.al ?_ _) | (with_reducible refine Grow.drew ?_) | (with_reducible refine Grow.drewN ?_ _) | (with_reducible refine Grow.trans ?_ (by assumption))))), (V3.grow (by repeat (first | (with_reducible exact Grow.refl _) | (with_reducible assumption) | (with_reducible refine Grow.set ?_ (by first | (simp; done) | (simp; omega)) _) | (with_reducible refine Grow.al ?_ _) | (with_reducible refine Grow.drew ?_) | (with_reducible refine Grow.drewN ?_ _) | (with_reducible refine Grow.trans ?_ (by assumption))))), Blk.new _ _ _, (G.trans (by repeat (first | (with_reducible exact Grow.refl _) | (with_reducible assumption) | (with_reducible refine Grow.set ?_ (by first | (simp; done) | (simp; omega)) _) | (with_reducible refine Grow.al ?_ _) | (with_reducible refine Grow.drew ?_) | (with_reducible refine Grow.drewN ?_ _) | (with_reducible refine Grow.trans ?_ (by assumption)))))⟩ ?_
  generalize u4.heap.size = q4
  clear cBc fBc lBc cBx fBx lBx cBy fBy lBy cV1 fV1 lV1 cV2 fV2 lV2 cV3 fV3 lV3
  clear Bc Bx By V1 V2 V3 G
  rintro Y4 ⟨Bx, By, V1, V2, V3, V4, G⟩
  obtain ⟨cBx, fBx⟩ := Bx.rules
  have lBx := Bx.lt
  obtain ⟨cBy, fBy⟩ := By.rules
  have lBy := By.lt
  obtain ⟨cV1, fV1⟩ := V1.rules
  have lV1 := V1.lt
  obtain ⟨cV2, fV2⟩ := V2.rules
  have lV2 := V2.lt
  obtain ⟨cV3, fV3⟩ := V3.rules
  have lV3 := V3.lt
  obtain ⟨cV4, fV4⟩ := V4.rules
  have lV4 := V4.lt
  go_upto_region 13 with (go_at_call 58; ((with_reducible refine (v5 _ G (hEx.grow G)).mono ?_); rintro en u5 ⟨rfl, hg2⟩; replace Bx := Bx.grow hg2; replace By := By.grow hg2; replace V1 := V1.grow hg2; replace V2 := V2.grow hg2; replace V3 := V3.grow hg2; replace V4 := V4.grow hg2; replace G := G.trans hg2; clear cBx fBx lBx cBy fBy lBy cV1 fV1 lV1 cV2 fV2 lV2 cV3 fV3 lV3 cV4 fV4 lV4; obtain ⟨cBx, fBx⟩ := Bx.rules; have lBx := Bx.lt; obtain ⟨cBy, fBy⟩ := By.rules; have lBy := By.lt; obtain ⟨cV1, fV1⟩ := V1.rules; have lV1 := V1.lt; obtain ⟨cV2, fV2⟩ := V2.rules; have lV2 := V2.lt; obtain ⟨cV3, fV3⟩ := V3.rules; have lV3 := V3.lt; obtain ⟨cV4, fV4⟩ := V4.rules; have lV4 := V4.lt))
  refine wp_forget (fun X => EB X (w.heap.size + 2) y ∧ VB3 X q1 R1 ∧ VB3 X q2 R2 ∧ VB3 X q3 R3 ∧ VB3 X q4 P ∧ VB3 X u5.heap.size Q ∧ Grow w X) ⟨(By.grow (by repeat (first | (with_reducible exact Grow.refl _) | (with_reducible assumption) | (with_reducible refine Grow.set ?_ (by first | (simp; done) | (simp; omega)) _) | (with_reducible refine Grow.al ?_ _) | (with_reducible refine Grow.drew ?_) | (with_reducible refine Grow.drewN ?_ _) | (with_reducible refine Grow.trans ?_ (by assumption))))), (V1.grow (by repeat (first | (with_reducible exact Grow.refl _) | (with_reducible assumption) | (with_reducible refine Grow.set ?_ (by first | (simp; done) | (simp; omega)) _) | (with_reducible refine Grow.al ?_ _) | (with_reducible refine Grow.drew ?_) | (with_reducible refine Grow.drewN ?_ _) | (with_reducible refine Grow.trans ?_ (by assumption))))), (V2.grow (by repeat (first | (with_reducible exact Grow.refl _) | (with_reducible assumption) | (with_reducible refine Grow.set ?_ (by first | (simp; done) | (simp; omega)) _) | (with_reducible refine Grow.al ?_ _) | (with_reducible refine Grow.drew ?_) | (with_reducible refine Grow.drewN ?_ _) | (with_reducible refine Grow.trans ?_ (by assumption))))), (V3.grow (by repeat (first | (with_reducible exact Grow.refl _) | (with_reducible assumption) | (with_reducible refine Grow.set ?_ (by first | (simp; done) | (simp; omega)) _) | (with_reducible refine Grow.al ?_ _) | (with_reducible refine Grow.drew ?_) | (with_reducible refine Grow.drewN ?_ _) | (with_reducible refine Grow.trans ?_ (by assumption))))), (V4.grow (by repeat (first | (with_reducible exact Grow.refl _) | (with_reducible assumption) | (with_reducible refine Grow.set ?_ (by first | (simp; done) | (simp; omega)) _) | (with_reducible refine Grow.al ?_ _) | (with_reducible refine Grow.drew ?_) | (with_reducible refine Grow.drewN ?_ _) | (with_reducible refine Grow.trans ?_ (by assumption))))), Blk.new _ _ _, (G.trans (by repeat (first | (with_reducible exact Grow.refl _) | (with_reducible assumption) | (with_reducible refine Grow.set ?_ (by first | (simp; done) | (simp; omega)) _) | (with_reducible refine Grow.al ?_ _) | (with_reducible refine Grow.drew ?_) | (with_reducible refine Grow.drewN ?_ _) | (with_reducible refine Grow.trans ?_ (by assumption)))))⟩ ?_
  generalize u5.heap.size = q5
  clear cBx fBx lBx cBy fBy lBy cV1 fV1 lV1 cV2 fV2 lV2 cV3 fV3 lV3 cV4 fV4 lV4
  clear Bx By V1 V2 V3 V4 G
  rintro Y5 ⟨By, V1, V2, V3, V4, V5, G⟩
  obtain ⟨cBy, fBy⟩ := By.rules
  have lBy := By.lt
  obtain ⟨cV1, fV1⟩ := V1.rules
  have lV1 := V1.lt
  obtain ⟨cV2, fV2⟩ := V2.rules
  have lV2 := V2.lt
  obtain ⟨cV3, fV3⟩ := V3.rules
  have lV3 := V3.lt
  obtain ⟨cV4, fV4⟩ := V4.rules
  have lV4 := V4.lt
  obtain ⟨cV5, fV5⟩ := V5.rules
  have lV5 := V5.lt
  go_upto_region 14 with (go_at_call 58; ((with_reducible refine (v6 _ G (hEy.grow G)).mono ?_); rintro en u6 ⟨rfl, hg2⟩; replace By := By.grow hg2; replace V1 := V1.grow hg2; replace V2 := V2.grow hg2; replace V3 := V3.grow hg2; replace V4 := V4.grow hg2; replace V5 := V5.grow hg2; replace G := G.trans hg2; clear cBy fBy lBy cV1 fV1 lV1 cV2 fV2 lV2 cV3 fV3 lV3 cV4 fV4 lV4 cV5 fV5 lV5; obtain ⟨cBy, fBy⟩ := By.rules; have lBy := By.lt; obtain ⟨cV1, fV1⟩ := V1.rules; have lV1 := V1.lt; obtain ⟨cV2, fV2⟩ := V2.rules; have lV2 := V2.lt; obtain ⟨cV3, fV3⟩ := V3.rules; have lV3 := V3.lt; obtain ⟨cV4, fV4⟩ := V4.rules; have lV4 := V4.lt; obtain ⟨cV5, fV5⟩ := V5.rules; have lV5 := V5.lt))
  refine wp_forget (fun X => VB3 X q1 R1 ∧ VB3 X q2 R2 ∧ VB3 X q3 R3 ∧ VB3 X q4 P ∧ VB3 X q5 Q ∧ VB3 X u6.heap.size S ∧ Grow w X) ⟨(V1.grow (by repeat (first | (with_reducible exact Grow.refl _) | (with_reducible assumption) | (with_reducible refine Grow.set ?_ (by first | (simp; done) | (simp; omega)) _) | (with_reducible refine Grow.al ?_ _) | (with_reducible refine Grow.drew ?_) | (with_reducible refine Grow.drewN ?_ _) | (with_reducible refine Grow.trans ?_ (by assumption))))), (V2.grow (by repeat (first | (with_reducible exact Grow.refl _) | (with_reducible assumption) | (with_reducible refine Grow.set ?_ (by first | (simp; done) | (simp; omega)) _) | (with_reducible refine Grow.al ?_ _) | (with_reducible refine Grow.drew ?_) | (with_reducible refine Grow.drewN ?_ _) | (with_reducible refine Grow.trans ?_ (by assumption))))), (V3.grow (by repeat (first | (with_reducible exact Grow.refl _) | (with_reducible assumption) | (with_reducible refine Grow.set ?_ (by first | (simp; done) | (simp; omega)) _) | (with_reducible refine Grow.al ?_ _) | (with_reducible refine Grow.drew ?_) | (with_reducible refine Grow.drewN ?_ _) | (with_reducible refine Grow.trans ?_ (by assumption))))), (V4.grow (by repeat (first | (with_reducible exact Grow.refl _) | (with_reducible assumption) | (with_reducible refine Grow.set ?_ (by first | (simp; done) | (simp; omega)) _) | (with_reducible refine Grow.al ?_ _) | (with_reducible refine Grow.drew ?_) | (with_reducible refine Grow.drewN ?_ _) | (with_reducible refine Grow.trans ?_ (by assumption))))), (V5.grow (by repeat (first | (with_reducible exact Grow.refl _) | (with_reducible assumption) | (with_reducible refine Grow.set ?_ (by first | (simp; done) | (simp; omega)) _) | (with_reducible refine Grow.al ?_ _) | (with_reducible refine Grow.drew ?_) | (with_reducible refine Grow.drewN ?_ _) | (with_reducible refine Grow.trans ?_ (by assumption))))), Blk.new _ _ _, (G.trans (by repeat (first | (with_reducible exact Grow.refl _) | (with_reducible assumption) | (with_reducible refine Grow.set ?_ (by first | (simp; done) | (simp; omega)) _) | (with_reducible refine Grow.al ?_ _) | (with_reducible refine Grow.drew ?_) | (with_reducible refine Grow.drewN ?_ _) | (with_reducible refine Grow.trans ?_ (by assumption)))))⟩ ?_
  generalize u6.heap.size = q6
  clear cBy fBy lBy cV1 fV1 lV1 cV2 fV2 lV2 cV3 fV3 lV3 cV4 fV4 lV4 cV5 fV5 lV5
  clear By V1 V2 V3 V4 V5 G
  rintro Y6 ⟨V1, V2, V3, V4, V5, V6, G⟩
  obtain ⟨cV1, fV1⟩ := V1.rules
  have lV1 := V1.lt
  obtain ⟨cV2, fV2⟩ := V2.rules
  have lV2 := V2.lt
  obtain ⟨cV3, fV3⟩ := V3.rules
  have lV3 := V3.lt
  obtain ⟨cV4, fV4⟩ := V4.rules
  have lV4 := V4.lt
  obtain ⟨cV5, fV5⟩ := V5.rules
  have lV5 := V5.lt
  obtain ⟨cV6, fV6⟩ := V6.rules
  have lV6 := V6.lt
  go_upto_region 17 with fail
  refine wp_forget (fun X => VB3 X q1 R1 ∧ VB3 X q2 R2 ∧ VB3 X q3 R3 ∧ VB3 X q4 P ∧ VB3 X q5 Q ∧ VB3 X q6 S ∧ VB3 X Y6.heap.size S ∧ Grow w X) ⟨(V1.grow (by repeat (first | (with_reducible exact Grow.refl _) | (with_reducible assumption) | (with_reducible refine Grow.set ?_ (by first | (simp; done) | (simp; omega)) _) | (with_reducible refine Grow.al ?_ _) | (with_reducible refine Grow.drew ?_) | (with_reducible refine Grow.drewN ?_ _) | (with_reducible refine Grow.trans ?_ (by assumption))))), (V2.grow (by repeat (first | (with_reducible exact Grow.refl _) | (with_reducible assumption) | (with_reducible refine Grow.set ?_ (by first | (simp; done) | (simp; omega)) _) | (with_reducible refine Grow.al ?_ _) | (with_reducible refine Grow.drew ?_) | (with_reducible refine Grow.drewN ?_ _) | (with_reducible refine Grow.trans ?_ (by assumption))))), (V3.grow (by repeat (first | (with_reducible exact Grow.refl _) | (with_reducible assumption) | (with_reducible refine Grow.set ?_ (by first | (simp; done) | (simp; omega)) _) | (with_reducible refine Grow.al ?_ _) | (with_reducible refine Grow.drew ?_) | (with_reducible refine Grow.drewN ?_ _) | (with_reducible refine Grow.trans ?_ (by assumption))))), (V4.grow (by repeat (first | (with_reducible exact Grow.refl _) | (with_reducible assumption) | (with_reducible refine Grow.set ?_ (by first | (simp; done) | (simp; omega)) _) | (with_reducible refine Grow.al ?_ _) | (with_reducible refine Grow.drew ?_) | (with_reducible refine Grow.drewN ?_ _) | (with_reducible refine Grow.trans ?_ (by assumption))))), (V5.grow (by repeat (first | (with_reducible exact Grow.refl _) | (with_reducible assumption) | (with_reducible refine Grow.set ?_ (by first | (simp; done) | (simp; omega)) _) | (with_reducible refine Grow.al ?_ _) | (with_reducible refine Grow.drew ?_) | (with_reducible refine Grow.drewN ?_ _) | (with_reducible refine Grow.trans ?_ (by assumption))))), (V6.grow (by repeat (first | (with_reducible exact Grow.refl _) | (with_reducible assumption) | (with_reducible refine Grow.set ?_ (by first | (simp; done) | (simp; omega)) _) | (with_reducible refine Grow.al ?_ _) | (with_reducible refine Grow.drew ?_) | (with_reducible refine Grow.drewN ?_ _) | (with_reducible refine Grow.trans ?_ (by assumption))))), Blk.new _ _ _, (G.trans (by repeat (first | (with_reducible exact Grow.refl _) | (with_reducible assumption) | (with_reducible refine Grow.set ?_ (by first | (simp; done) | (simp; omega)) _) | (with_reducible refine Grow.al ?_ _) | (with_reducible refine Grow.drew ?_) | (with_reducible refine Grow.drewN ?_ _) | (with_reducible refine Grow.trans ?_ (by assumption)))))⟩ ?_
  have n1 := Nat.ne_of_lt lV1
  have n2 := Nat.ne_of_lt lV2
  have n3 := Nat.ne_of_lt lV3
  have n5 := Nat.ne_of_lt lV5
  have n6 := Nat.ne_of_lt lV6
  have hq7 : w.heap.size ≤ Y6.heap.size := G.size
  generalize Y6.heap.size = q7 at n1 n2 n3 n5 n6 hq7 ⊢
  clear cV1 fV1 lV1 cV2 fV2 lV2 cV3 fV3 lV3 cV4 fV4 lV4 cV5 fV5 lV5 cV6 fV6 lV6
  clear V1 V2 V3 V4 V5 V6 G
  rintro Y7 ⟨V1, V2, V3, V4, V5, V6, V7, G⟩
  obtain ⟨cV1, fV1⟩ := V1.rules
  have lV1 := V1.lt
  obtain ⟨cV2, fV2⟩ := V2.rules
  have lV2 := V2.lt
  obtain ⟨cV3, fV3⟩ := V3.rules
  have lV3 := V3.lt
  obtain ⟨cV4, fV4⟩ := V4.rules
  have lV4 := V4.lt
  obtain ⟨cV5, fV5⟩ := V5.rules
  have lV5 := V5.lt
  obtain ⟨cV6, fV6⟩ := V6.rules
  have lV6 := V6.lt
  obtain ⟨cV7, fV7⟩ := V7.rules
  have lV7 := V7.lt
  have ci := fun W => is_any P true W
  have ks := K1.out
  cases hi : isB P true
  · rw [hi] at ci
    rw [hi, if_neg (by simp)] at ks
    replace ks := ks.symm
    subst ks
    clear hi
    go_upto_region 19 with (go_at_call 50; ((with_reducible refine (ci _).mono ?_); rintro en u7 ⟨rfl, hg2⟩; replace V1 := V1.grow hg2; replace V2 := V2.grow hg2; replace V3 := V3.grow hg2; replace V4 := V4.grow hg2; replace V5 := V5.grow hg2; replace V6 := V6.grow hg2; replace V7 := V7.grow hg2; replace G := G.trans hg2; clear cV1 fV1 lV1 cV2 fV2 lV2 cV3 fV3 lV3 cV4 fV4 lV4 cV5 fV5 lV5 cV6 fV6 lV6 cV7 fV7 lV7; obtain ⟨cV1, fV1⟩ := V1.rules; have lV1 := V1.lt; obtain ⟨cV2, fV2⟩ := V2.rules; have lV2 := V2.lt; obtain ⟨cV3, fV3⟩ := V3.rules; have lV3 := V3.lt; obtain ⟨cV4, fV4⟩ := V4.rules; have lV4 := V4.lt; obtain ⟨cV5, fV5⟩ := V5.rules; have lV5 := V5.lt; obtain ⟨cV6, fV6⟩ := V6.rules; have lV6 := V6.lt; obtain ⟨cV7, fV7⟩ := V7.rules; have lV7 := V7.lt))
    obtain ⟨cV1, fV1⟩ := V1.rules
    have lV1 := V1.lt
    obtain ⟨cV2, fV2⟩ := V2.rules
    have lV2 := V2.lt
    obtain ⟨cV3, fV3⟩ := V3.rules
    have lV3 := V3.lt
    obtain ⟨cV5, fV5⟩ := V5.rules
    have lV5 := V5.lt
    obtain ⟨cV6, fV6⟩ := V6.rules
    have lV6 := V6.lt
    obtain ⟨cV7, fV7⟩ := V7.rules
    have lV7 := V7.lt
    have ks2 := K2.out
    have ks3 := K3.out
    by_cases hq : Q.k = 1
    · rw [if_pos hq] at ks2 ks3
      replace ks2 := ks2.symm
      replace ks3 := ks3.symm
      subst ks2
      subst ks3
      have dq : (Q.k == 1) = true := by simpa using hq
      clear hq
      go_wp2
      go_ret
      exact ⟨rfl, (by repeat (first | (with_reducible exact Grow.refl _) | (with_reducible assumption) | (with_reducible refine Grow.set ?_ (by first | (simp; done) | (simp; omega)) _) | (with_reducible refine Grow.al ?_ _) | (with_reducible refine Grow.drew ?_) | (with_reducible refine Grow.drewN ?_ _) | (with_reducible refine Grow.trans ?_ (by assumption))))⟩
    · rw [if_neg hq] at ks2 ks3
      replace ks2 := ks2.symm
      replace ks3 := ks3.symm
      subst ks2
      subst ks3
      have dq : (Q.k == 1) = false := by simpa using hq
      clear hq
      go_wp2
      go_ret
      exact ⟨rfl, (by repeat (first | (with_reducible exact Grow.refl _) | (with_reducible assumption) | (with_reducible refine Grow.set ?_ (by first | (simp; done) | (simp; omega)) _) | (with_reducible refine Grow.al ?_ _) | (with_reducible refine Grow.drew ?_) | (with_reducible refine Grow.drewN ?_ _) | (with_reducible refine Grow.trans ?_ (by assumption))))⟩
  · rw [hi] at ci
    rw [hi, if_pos rfl] at ks
    replace ks := ks.symm
    subst ks
    clear hi
    go_upto_region 19 with (go_at_call 50; ((with_reducible refine (ci _).mono ?_); rintro en u7 ⟨rfl, hg2⟩; replace V1 := V1.grow hg2; replace V2 := V2.grow hg2; replace V3 := V3.grow hg2; replace V4 := V4.grow hg2; replace V5 := V5.grow hg2; replace V6 := V6.grow hg2; replace V7 := V7.grow hg2; replace G := G.trans hg2; clear cV1 fV1 lV1 cV2 fV2 lV2 cV3 fV3 lV3 cV4 fV4 lV4 cV5 fV5 lV5 cV6 fV6 lV6 cV7 fV7 lV7; obtain ⟨cV1, fV1⟩ := V1.rules; have lV1 := V1.lt; obtain ⟨cV2, fV2⟩ := V2.rules; have lV2 := V2.lt; obtain ⟨cV3, fV3⟩ := V3.rules; have lV3 := V3.lt; obtain ⟨cV4, fV4⟩ := V4.rules; have lV4 := V4.lt; obtain ⟨cV5, fV5⟩ := V5.rules; have lV5 := V5.lt; obtain ⟨cV6, fV6⟩ := V6.rules; have lV6 := V6.lt; obtain ⟨cV7, fV7⟩ := V7.rules; have lV7 := V7.lt))
    refine wp_forget (fun X => VB3 X q1 Q ∧ VB3 X q2 R2 ∧ VB3 X q3 R3 ∧ VB3 X q5 Q ∧ VB3 X q6 S ∧ VB3 X q7 Q ∧ Grow w X) ⟨V1.far3 n1, V2.far3 n2, V3.far3 n3, V5.far3 n5, V6.far3 n6, V7.set3, ?g⟩ ?_
    case g => exact Grow.set (Grow.set (Grow.set G hq7 _) hq7 _) hq7 _
    clear cV1 fV1 lV1 cV2 fV2 lV2 cV3 fV3 lV3 cV4 fV4 lV4 cV5 fV5 lV5 cV6 fV6 lV6 cV7 fV7 lV7 V1 V2 V3 V4 V5 V6 V7 G
    rintro Z ⟨V1, V2, V3, V5, V6, V7, G⟩
    obtain ⟨cV1, fV1⟩ := V1.rules
    have lV1 := V1.lt
    obtain ⟨cV2, fV2⟩ := V2.rules
    have lV2 := V2.lt
    obtain ⟨cV3, fV3⟩ := V3.rules
    have lV3 := V3.lt
    obtain ⟨cV5, fV5⟩ := V5.rules
    have lV5 := V5.lt
    obtain ⟨cV6, fV6⟩ := V6.rules
    have lV6 := V6.lt
    obtain ⟨cV7, fV7⟩ := V7.rules
    have lV7 := V7.lt
    have ks2 := K2.out
    have ks3 := K3.out
    by_cases hq : Q.k = 1
    · rw [if_pos hq] at ks2 ks3
      replace ks2 := ks2.symm
      replace ks3 := ks3.symm
      subst ks2
      subst ks3
      have dq : (Q.k == 1) = true := by simpa using hq
      clear hq
      go_wp2
      go_ret
      exact ⟨rfl, (by repeat (first | (with_reducible exact Grow.refl _) | (with_reducible assumption) | (with_reducible refine Grow.set ?_ (by first | (simp; done) | (simp; omega)) _) | (with_reducible refine Grow.al ?_ _) | (with_reducible refine Grow.drew ?_) | (with_reducible refine Grow.drewN ?_ _) | (with_reducible refine Grow.trans ?_ (by assumption))))⟩
    · rw [if_neg hq] at ks2 ks3
      replace ks2 := ks2.symm
      replace ks3 := ks3.symm
      subst ks2
      subst ks3
      have dq : (Q.k == 1) = false := by simpa using hq
      clear hq
      go_wp2
      go_ret
      exact ⟨rfl, (by repeat (first | (with_reducible exact Grow.refl _) | (with_reducible assumption) | (with_reducible refine Grow.set ?_ (by first | (simp; done) | (simp; omega)) _) | (with_reducible refine Grow.al ?_ _) | (with_reducible refine Grow.drew ?_) | (with_reducible refine Grow.drewN ?_ _) | (with_reducible refine Grow.trans ?_ (by assumption))))⟩
end Go.Proofs.Ytjhcbehnopmnpaa
