/-
  The order of two rows: vals.Rows, and the reference's Rows.
-/
import Derived.Test.YtjhcbehnopmnpaaSl
namespace Go.Proofs.Ytjhcbehnopmnpaa
open Go.RowKit Go.Calm
set_option linter.unusedSimpArgs false
set_option linter.unusedVariables false

/-- The order of two lists, by an order of what they have. -/
def rowsG (f : V → V → Int) : List V → List V → Int
  | [], [] => 0
  | [], _ :: _ => -1
  | _ :: _, [] => 1
  | a :: l, b :: m => if f a b = 0 then rowsG f l m else f a b

theorem rowsG_cons (f : V → V → Int) (xs ys : List V) (k : Nat) (x y : V) (hx : xs[k]? = some x) (hy : ys[k]? = some y) :
    rowsG f (xs.drop k) (ys.drop k) = if f x y = 0 then rowsG f (xs.drop (k + 1)) (ys.drop (k + 1)) else f x y := by
  obtain ⟨h1, e1⟩ := List.getElem?_eq_some_iff.1 hx
  obtain ⟨h2, e2⟩ := List.getElem?_eq_some_iff.1 hy
  rw [List.drop_eq_getElem_cons h1, List.drop_eq_getElem_cons h2, e1, e2]
  rfl
theorem rowsG_long (f : V → V → Int) (xs ys : List V) (k : Nat) (hx : k < xs.length) (hy : ys.length = k) : rowsG f (xs.drop k) (ys.drop k) = 1 := by
  rw [List.drop_eq_getElem_cons hx, List.drop_eq_nil_of_le (by omega : ys.length ≤ k)]
  rfl
theorem rowsG_end (f : V → V → Int) (xs ys : List V) (k : Nat) (hx : xs.length = k) (hy : k ≤ ys.length) : rowsG f (xs.drop k) (ys.drop k) = cmpI (xs.length : Int) (ys.length : Int) := by
  rw [List.drop_eq_nil_of_le (by omega : xs.length ≤ k)]
  unfold cmpI
  by_cases h : k < ys.length
  · rw [List.drop_eq_getElem_cons h, if_pos (by omega)]; rfl
  · rw [List.drop_eq_nil_of_le (by omega : ys.length ≤ k), if_neg (by omega), if_neg (by omega)]; rfl

set_option maxHeartbeats 1000000 in
set_option maxRecDepth 100000 in
theorem vrows_any (xs ys : List V) (A B : Option Addr) (c d : Nat) (w : World) (hlx : xs.length ≤ 9223372036854775807) (hly : ys.length ≤ 9223372036854775807) (hx : VSl w A xs) (hy : VSl w B ys) :
    Calls Try.prog 26 #[.slice A xs.length c, .slice B ys.length d] w fun e w' => e = .returned (.int .i64 (rowsG cmpV xs ys)) ∧ Grow w w' := by
  have Hx := Lib.hid hx
  have Hy := Lib.hid hy
  clear hx hy
  go_enter Try.func26, Try.ntmps26
  go_wp2
  go_loopw [10] (fun i wr => ∃ k : Nat, k ≤ xs.length ∧ k ≤ ys.length ∧ i = .int .i64 k ∧ rowsG cmpV xs ys = rowsG cmpV (xs.drop k) (ys.drop k) ∧ Grow w wr) (fun i _ => xs.length - (intOf i).toNat)
  case atStart => exact ⟨0, Nat.zero_le _, Nat.zero_le _, rfl, rfl, Grow.refl _⟩
  case round =>
    obtain ⟨k, hk, hk', rfl, heq, hg⟩ := hrel
    have Heq := Lib.hid heq
    clear heq
    by_cases hlt : k < xs.length
    · obtain ⟨x, hxk⟩ : ∃ x, xs[k]? = some x := ⟨_, List.getElem?_eq_getElem hlt⟩
      obtain ⟨g, o, rfl, hc1, hc2, hc3⟩ := Hx.out k x hxk
      have c1 := hg.cell hc1
      have c2 := hg.cell hc2
      have c3 := hg.cell hc3
      have Hxk := Lib.hid hxk
      clear hc1 hc2 hc3 hxk
      by_cases hlt2 : k < ys.length
      · have hne : ((k : Int) == (ys.length : Int)) = false := by rw [beq_eq_false_iff_ne]; omega
        obtain ⟨y, hyk⟩ : ∃ y, ys[k]? = some y := ⟨_, List.getElem?_eq_getElem hlt2⟩
        obtain ⟨g2, o2, rfl, hd1, hd2, hd3⟩ := Hy.out k y hyk
        have Hyk := Lib.hid hyk
        clear hyk
        go_wp2
        refine wp_forget (fun W => Blk W wr.heap.size 29 #[.int .i64 x.k, .int .i64 x.n, .string x.s] ∧ Grow w W) ⟨Blk.new _ _ _, hg.al _⟩ ?_
        rintro W ⟨A1, G1⟩
        have b0 : (0 : Int) ≤ (k : Int) := by omega
        have b1 : (k : Int) < (ys.length : Int) := by omega
        have Hd : Hid (VCells w g2 (o2 + k * 3) y) := Lib.hid ⟨hd1, hd2, hd3⟩
        clear c1 c2 c3 hd1 hd2 hd3
        apply wp_region_calm 7 (by kernel_rfl) (by kernel_rfl)
        case h' =>
          intro Q0 hQ0
          simp only [List.take_succ_cons, List.take_zero]
          repeat (
            first
              | (apply calm_p rfl; case h1 => (intro w1 hw1 hF K hK; obtain ⟨a1, f1⟩ := (Blk.grow A1 hw1).rules; obtain ⟨d1, d2, d3⟩ := Hd.out.grow (G1.trans hw1); go_simp; first | exact hK _ (Grow.refl _) | (go_at_call 34; ((with_reducible refine (compare_any x y _).mono ?_); rintro e w' ⟨rfl, hg⟩; exact ⟨_, rfl, hK _ hg⟩))))
              | (apply calm_y rfl rfl rfl; case h1 => (intro w1 hw1 hF K hK; obtain ⟨a1, f1⟩ := (Blk.grow A1 hw1).rules; obtain ⟨d1, d2, d3⟩ := Hd.out.grow (G1.trans hw1); go_simp; first | exact hK _ (Grow.refl _) | (go_at_call 34; ((with_reducible refine (compare_any x y _).mono ?_); rintro e w' ⟨rfl, hg⟩; exact ⟨_, rfl, hK _ hg⟩))))
              | apply calm_n rfl rfl rfl rfl
            intro K hK
            go_simp
            apply hK
            clear hK K)
          refine calm_nil ?_
          intro w1 hw1 hF
          apply hQ0
          clear hQ0
          simp only [List.drop_succ_cons, List.drop_zero]
          clear hF
          have G2 := G1.trans hw1
          by_cases h0 : cmpV x y = 0
          · have d0 : (cmpV x y != 0) = false := by simpa using h0
            have H0 := Lib.hid h0
            clear h0
            go_wp2
            go_roundw
            case rel => exact ⟨k + 1, by omega, by omega, by go_num, by rw [Heq.out, rowsG_cons cmpV xs ys k x y Hxk.out Hyk.out, if_pos H0.out], G2⟩
            case measure => simp [intOf]; omega
          · have d0 : (cmpV x y != 0) = true := by simpa using h0
            have H0 := Lib.hid h0
            clear h0
            go_wp2
            go_ret
            exact ret_int (by rw [Heq.out, rowsG_cons cmpV xs ys k x y Hxk.out Hyk.out, if_neg H0.out]) G2
        case hp' => trivial
      · have hne : ((k : Int) == (ys.length : Int)) = true := by rw [beq_iff_eq]; omega
        go_wp2
        go_ret
        exact ret_int (by rw [Heq.out, rowsG_long cmpV xs ys k hlt (by omega)]) (hg.al _)
    · have Fin := Lib.hid (rowsG_end cmpV xs ys k (by omega) hk')
      go_wp2_with ((go_at_call 96; ((with_reducible refine (cmp_int _ _ _).mono ?_); rintro e w' ⟨rfl, rfl⟩)))
      go_ret
      exact ret_int (by rw [Heq.out, Fin.out]) hg

set_option maxHeartbeats 1000000 in
set_option maxRecDepth 100000 in
theorem rrows_any (xs ys : List V) (A B : Option Addr) (c d : Nat) (w : World) (hlx : xs.length ≤ 9223372036854775807) (hly : ys.length ≤ 9223372036854775807) (hx : VSl w A xs) (hy : VSl w B ys) :
    Calls Try.prog 27 #[.slice A xs.length c, .slice B ys.length d] w fun e w' => e = .returned (.int .i64 (rowsG ordV xs ys)) ∧ Grow w w' := by
  have Hx := Lib.hid hx
  have Hy := Lib.hid hy
  clear hx hy
  go_enter Try.func27, Try.ntmps27
  go_wp2
  go_loopw [5] (fun i wr => ∃ k : Nat, k ≤ xs.length ∧ k ≤ ys.length ∧ i = .int .i64 k ∧ rowsG ordV xs ys = rowsG ordV (xs.drop k) (ys.drop k) ∧ Grow w wr) (fun i _ => xs.length - (intOf i).toNat)
  case atStart => exact ⟨0, Nat.zero_le _, Nat.zero_le _, rfl, rfl, Grow.refl _⟩
  case round =>
    obtain ⟨k, hk, hk', rfl, heq, hg⟩ := hrel
    have Heq := Lib.hid heq
    clear heq
    by_cases hlt : k < xs.length
    · have hne1 : ((k : Int) == (xs.length : Int)) = false := by rw [beq_eq_false_iff_ne]; omega
      obtain ⟨x, hxk⟩ : ∃ x, xs[k]? = some x := ⟨_, List.getElem?_eq_getElem hlt⟩
      obtain ⟨g, o, rfl, hc1, hc2, hc3⟩ := Hx.out k x hxk
      have Hxk := Lib.hid hxk
      clear hxk
      by_cases hlt2 : k < ys.length
      · have hne : ((k : Int) == (ys.length : Int)) = false := by rw [beq_eq_false_iff_ne]; omega
        obtain ⟨y, hyk⟩ : ∃ y, ys[k]? = some y := ⟨_, List.getElem?_eq_getElem hlt2⟩
        obtain ⟨g2, o2, rfl, hd1, hd2, hd3⟩ := Hy.out k y hyk
        have Hyk := Lib.hid hyk
        clear hyk
        have Hc : Hid (VCells w g (o + k * 3) x) := Lib.hid ⟨hc1, hc2, hc3⟩
        have Hd : Hid (VCells w g2 (o2 + k * 3) y) := Lib.hid ⟨hd1, hd2, hd3⟩
        clear hc1 hc2 hc3 hd1 hd2 hd3
        go_wp2
        have b0 : (0 : Int) ≤ (k : Int) := by omega
        have b1 : (k : Int) < (ys.length : Int) := by omega
        have b2 : (k : Int) < (xs.length : Int) := by omega
        apply wp_region_calm 10 (by kernel_rfl) (by kernel_rfl)
        case h' =>
          intro Q0 hQ0
          simp only [List.take_succ_cons, List.take_zero]
          repeat (
            first
              | (apply calm_p rfl; case h1 => (intro w1 hw1 hF K hK; obtain ⟨c1, c2, c3⟩ := Hc.out.grow (hg.trans hw1); obtain ⟨d1, d2, d3⟩ := Hd.out.grow (hg.trans hw1); go_simp; first | exact hK _ (Grow.refl _) | (go_at_call 44; ((with_reducible refine (order_any x y _).mono ?_); rintro e w' ⟨rfl, hg⟩; exact ⟨_, rfl, hK _ hg⟩))))
              | (apply calm_y rfl rfl rfl; case h1 => (intro w1 hw1 hF K hK; obtain ⟨c1, c2, c3⟩ := Hc.out.grow (hg.trans hw1); obtain ⟨d1, d2, d3⟩ := Hd.out.grow (hg.trans hw1); go_simp; first | exact hK _ (Grow.refl _) | (go_at_call 44; ((with_reducible refine (order_any x y _).mono ?_); rintro e w' ⟨rfl, hg⟩; exact ⟨_, rfl, hK _ hg⟩))))
              | apply calm_n rfl rfl rfl rfl
            intro K hK
            go_simp
            apply hK
            clear hK K)
          refine calm_nil ?_
          intro w1 hw1 hF
          apply hQ0
          clear hQ0
          simp only [List.drop_succ_cons, List.drop_zero]
          clear hF
          have G2 := hg.trans hw1
          by_cases h0 : ordV x y = 0
          · have d0 : (ordV x y != 0) = false := by simpa using h0
            have H0 := Lib.hid h0
            clear h0
            go_wp2
            go_roundw
            case rel => exact ⟨k + 1, by omega, by omega, by go_num, by rw [Heq.out, rowsG_cons ordV xs ys k x y Hxk.out Hyk.out, if_pos H0.out], G2⟩
            case measure => simp [intOf]; omega
          · have d0 : (ordV x y != 0) = true := by simpa using h0
            have H0 := Lib.hid h0
            clear h0
            go_wp2
            go_ret
            exact ret_int (by rw [Heq.out, rowsG_cons ordV xs ys k x y Hxk.out Hyk.out, if_neg H0.out]) G2
        case hp' => trivial
      · have hne : ((k : Int) == (ys.length : Int)) = true := by rw [beq_iff_eq]; omega
        go_wp2
        go_ret
        exact ret_int (by rw [Heq.out, rowsG_long ordV xs ys k hlt (by omega)]) hg
    · have Fin := Lib.hid (rowsG_end ordV xs ys k (by omega) hk')
      have hne1 : ((k : Int) == (xs.length : Int)) = true := by rw [beq_iff_eq]; omega
      by_cases hlt2 : k < ys.length
      · have hne : ((k : Int) == (ys.length : Int)) = false := by rw [beq_eq_false_iff_ne]; omega
        go_wp2
        go_ret
        exact ret_int (by rw [Heq.out, Fin.out]; unfold cmpI; rw [if_pos (by omega)]) hg
      · have hne : ((k : Int) == (ys.length : Int)) = true := by rw [beq_iff_eq]; omega
        go_wp2
        go_ret
        exact ret_int (by rw [Heq.out, Fin.out]; unfold cmpI; rw [if_neg (by omega), if_neg (by omega)]) hg
end Go.Proofs.Ytjhcbehnopmnpaa
