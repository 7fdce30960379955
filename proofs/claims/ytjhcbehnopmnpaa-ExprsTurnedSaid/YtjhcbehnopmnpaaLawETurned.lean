/-
  The law ExprsTurned: its walk.
-/
import Derived.Test.YtjhcbehnopmnpaaEvA
import Derived.Laws.EntriesVeiled
namespace Go.Proofs.Ytjhcbehnopmnpaa
open Go.RowKit Go.Calm
set_option linter.unusedSimpArgs false
set_option linter.unusedVariables false

set_option maxRecDepth 100000 in
set_option maxHeartbeats 16000000 in
theorem law_eturned (cols : List Int) (row : List V) (Ac Ar : Option Addr) (cc cr : Nat) (x y : E) (w : World) (hlc : cols.length ≤ 9223372036854775807) (hlr : row.length ≤ 9223372036854775807) (hc : ISl w Ac cols) (hr : VSl w Ar row) (hEx : EX w x) (hEy : EX w y) :
    Calls Try.prog 11 #[.slice Ac cols.length cc, x.val, y.val, .slice Ar row.length cr] w fun en w' => en = .returned (.bool true) ∧ Grow w w' := by
  have heq := run_eqlV
  have i6 : inI64 6 := ⟨by decide, by decide⟩
  have ct := fun (e : E) (W : World) (h : Grow w W) (hE : EX W e) => type_any cols Ac cc e W hlc (hc.grow h) hE
  unfold E.val
  go_enter Try.func11, Try.ntmps11
  go_upto_region 1 with fail
  refine wp_forget (fun X => Blk X w.heap.size 44 #[.slice Ac cols.length cc] ∧ EB X (w.heap.size + 1) x ∧ EB X (w.heap.size + 2) y ∧ Blk X (w.heap.size + 3) 22 #[.slice Ar row.length cr] ∧ Grow w X) ⟨(((Blk.new _ _ _).al _).al _).al _, ((Blk.new' _ _ _ (by simp)).al _).al _, (Blk.new' _ _ _ (by simp)).al _, Blk.new' _ _ _ (by simp), (by repeat (first | (with_reducible exact Grow.refl _) | (with_reducible assumption) | (with_reducible refine Grow.set ?_ (by first | (simp; done) | (simp; omega)) _) | (with_reducible refine Grow.al ?_ _) | (with_reducible refine Grow.drew ?_) | (with_reducible refine Grow.drewN ?_ _) | (with_reducible refine Grow.trans ?_ (by assumption))))⟩ ?_
  rintro W0 ⟨B1, Bx, By, B2, G⟩
  go_upto_region 3 with (go_at_call 60; ((with_reducible refine (alive3 _).mono ?_); rintro en w1 ⟨rfl, hg1⟩; replace B1 := B1.grow hg1; replace B2 := B2.grow hg1; replace Bx := Bx.grow hg1; replace By := By.grow hg1; replace G := G.trans hg1; clear hg1))
  apply wp_region_calm 14 (by kernel_rfl) (by kernel_rfl)
  case h' =>
    intro Q0 hQ0
    simp only [List.take_succ_cons, List.take_zero]
    repeat (
      first
        | (apply calm_p rfl; case h1 => (intro w1 hw1 hF K hK; obtain ⟨c1, f1⟩ := (Blk.grow B1 hw1).rules; obtain ⟨cx, fx⟩ := (EB.grow Bx hw1).rules; obtain ⟨cy, fy⟩ := (EB.grow By hw1).rules; go_simp; first | exact hK _ (Grow.refl _) | fail))
        | (apply calm_y rfl rfl rfl; case h1 => (intro w1 hw1 hF K hK; obtain ⟨c1, f1⟩ := (Blk.grow B1 hw1).rules; obtain ⟨cx, fx⟩ := (EB.grow Bx hw1).rules; obtain ⟨cy, fy⟩ := (EB.grow By hw1).rules; go_simp; first | exact hK _ (Grow.refl _) | fail))
        | apply calm_n rfl rfl rfl rfl
      intro K hK
      go_simp
      apply hK
      clear hK K)
    apply calm_fp (fun v W => ∃ A, v = (twoK 6 x y A).val ∧ EX W (twoK 6 x y A)) rfl
    case h1 =>
      intro w1 hw1 hF K hK
      go_simp
      go_at_call 61
      refine (two_any 6 i6 x y _ (hEx.grow (G.trans hw1)) (hEy.grow (G.trans hw1))).mono ?_
      rintro en w' ⟨A, rfl, hX, hg'⟩
      exact ⟨_, rfl, hK _ _ hg' ⟨A, rfl, hX⟩⟩
    intro v19 K hK
    go_simp
    apply hK
    clear hK K
    repeat (
      first
        | (apply calm_p rfl; case h1 => (intro w1 hw1 hF K hK; obtain ⟨c1, f1⟩ := (Blk.grow B1 hw1).rules; obtain ⟨cx, fx⟩ := (EB.grow Bx hw1).rules; obtain ⟨cy, fy⟩ := (EB.grow By hw1).rules; go_simp; first | exact hK _ (Grow.refl _) | fail))
        | (apply calm_y rfl rfl rfl; case h1 => (intro w1 hw1 hF K hK; obtain ⟨c1, f1⟩ := (Blk.grow B1 hw1).rules; obtain ⟨cx, fx⟩ := (EB.grow Bx hw1).rules; obtain ⟨cy, fy⟩ := (EB.grow By hw1).rules; go_simp; first | exact hK _ (Grow.refl _) | fail))
        | apply calm_n rfl rfl rfl rfl
      intro K hK
      go_simp
      apply hK
      clear hK K)
    apply calm_fp (fun v W => ∃ A, v = (twoK 6 x y A).val ∧ EX W (twoK 6 x y A)) rfl
    case h1 =>
      intro w1 hw1 hF K hK
      go_simp
      go_at_call 61
      refine (two_any 6 i6 x y _ (hEx.grow (G.trans hw1)) (hEy.grow (G.trans hw1))).mono ?_
      rintro en w' ⟨A, rfl, hX, hg'⟩
      exact ⟨_, rfl, hK _ _ hg' ⟨A, rfl, hX⟩⟩
    intro v22 K hK
    go_simp
    apply hK
    clear hK K
    apply calm_fp (fun v W => ∃ A B C, v = (twoK 6 (twoK 6 x y A) (twoK 6 x y B) C).val ∧ EX W (twoK 6 (twoK 6 x y A) (twoK 6 x y B) C)) rfl
    case h1 =>
      intro w1 hw1 hF K hK
      obtain ⟨B, hv2, hX2⟩ := hF _ (List.mem_cons_self ..) ⟨_, rfl, by decide⟩
      obtain ⟨A, hv, hX⟩ := hF _ (List.mem_cons_of_mem _ (List.mem_cons_self ..)) ⟨_, rfl, by decide⟩
      subst hv hv2
      go_simp
      go_at_call 61
      refine (two_any 6 i6 (twoK 6 x y A) (twoK 6 x y B) _ hX hX2).mono ?_
      rintro en w' ⟨C, rfl, hX3, hg'⟩
      exact ⟨_, rfl, hK _ _ hg' ⟨A, B, C, rfl, hX3⟩⟩
    intro v23 K hK
    go_simp
    apply hK
    clear hK K
    apply calm_fp (fun v W => ∃ A B C, v = .tuple #[.int .i64 (typeE cols (twoK 6 (twoK 6 x y A) (twoK 6 x y B) C)).1, .int .i64 (typeE cols (twoK 6 (twoK 6 x y A) (twoK 6 x y B) C)).2]) rfl
    case h1 =>
      intro w1 hw1 hF K hK
      obtain ⟨A, B, C, hv, hX⟩ := hF _ (List.mem_cons_self ..) ⟨_, rfl, by decide⟩
      subst hv
      go_simp
      go_at_call 54
      refine (ct (twoK 6 (twoK 6 x y A) (twoK 6 x y B) C) _ (G.trans hw1) hX).mono ?_
      rintro en w' ⟨rfl, hg'⟩
      exact ⟨_, rfl, hK _ _ hg' ⟨A, B, C, rfl⟩⟩
    intro v24 K hK
    go_simp
    apply hK
    clear hK K
    apply calm_fp (fun v W => ∃ A B C, v = .tuple #[.int .i64 (typeE cols (twoK 6 (twoK 6 x y A) (twoK 6 x y B) C)).1, .int .i64 (typeE cols (twoK 6 (twoK 6 x y A) (twoK 6 x y B) C)).2]) rfl
    case h1 =>
      intro w1 hw1 hF K hK
      obtain ⟨A, B, C, hv⟩ := hF _ (List.mem_cons_self ..) ⟨_, rfl, by decide⟩
      subst hv
      go_simp
      exact hK _ _ (Grow.refl _) ⟨A, B, C, rfl⟩
    intro v15 K hK
    go_simp
    apply hK
    clear hK K
    apply calm_fp (fun v W => ∃ A B C, v = .int .i64 (typeE cols (twoK 6 (twoK 6 x y A) (twoK 6 x y B) C)).1) rfl
    case h1 =>
      intro w1 hw1 hF K hK
      obtain ⟨A, B, C, hv⟩ := hF _ (List.mem_cons_self ..) ⟨_, rfl, by decide⟩
      subst hv
      go_simp
      exact hK _ _ (Grow.refl _) ⟨A, B, C, rfl⟩
    intro v25 K hK
    go_simp
    apply hK
    clear hK K
    apply calm_fp (fun v W => ∃ A B C, v = .int .i64 (typeE cols (twoK 6 (twoK 6 x y A) (twoK 6 x y B) C)).2) rfl
    case h1 =>
      intro w1 hw1 hF K hK
      obtain ⟨A, B, C, hv⟩ := hF _ (List.mem_cons_of_mem _ (List.mem_cons_self ..)) ⟨_, rfl, by decide⟩
      subst hv
      go_simp
      exact hK _ _ (Grow.refl _) ⟨A, B, C, rfl⟩
    intro v26 K hK
    go_simp
    apply hK
    clear hK K
    apply calm_fp (fun v W => ∃ A B C, v = .int .i64 (typeE cols (twoK 6 (twoK 6 x y A) (twoK 6 x y B) C)).1) rfl
    case h1 =>
      intro w1 hw1 hF K hK
      obtain ⟨A, B, C, hv⟩ := hF _ (List.mem_cons_of_mem _ (List.mem_cons_self ..)) ⟨_, rfl, by decide⟩
      subst hv
      go_simp
      exact hK _ _ (Grow.refl _) ⟨A, B, C, rfl⟩
    intro v09 K hK
    go_simp
    apply hK
    clear hK K
    apply calm_fp (fun v W => ∃ A B C, v = .int .i64 (typeE cols (twoK 6 (twoK 6 x y A) (twoK 6 x y B) C)).2) rfl
    case h1 =>
      intro w1 hw1 hF K hK
      obtain ⟨A, B, C, hv⟩ := hF _ (List.mem_cons_of_mem _ (List.mem_cons_self ..)) ⟨_, rfl, by decide⟩
      subst hv
      go_simp
      exact hK _ _ (Grow.refl _) ⟨A, B, C, rfl⟩
    intro v0a K hK
    go_simp
    apply hK
    clear hK K
    refine calm_nil ?_
    intro w1 hw1 hF
    apply hQ0
    clear hQ0
    simp only [List.drop_succ_cons, List.drop_zero]
    obtain ⟨A, B, C, hv⟩ := hF _ (List.mem_cons_self ..)
    subst hv
    clear hF
    obtain ⟨T, te, hte⟩ : ∃ T te, typeE cols (twoK 6 (twoK 6 x y A) (twoK 6 x y B) C) = (T, te) := ⟨_, _, rfl⟩
    have tu := fun (h : te = 0) => turned (cols := cols) (x := x) (y := y) (A := A) (B := B) (C := C) (by rw [hte]; exact h) row
    simp only [hte]
    have Tu := Lib.hid tu
    replace G := G.trans hw1
    replace B1 := B1.grow hw1
    replace B2 := B2.grow hw1
    replace Bx := Bx.grow hw1
    replace By := By.grow hw1
    clear hte hw1 ct tu
    by_cases h0 : te = 0
    · subst h0
      obtain ⟨t1, t2, t3, t4, t5, t6⟩ := Tu.out rfl
      obtain ⟨Z1, hZ1⟩ : ∃ Z, askE cols row (twoK 11 x y none) = Z := ⟨_, rfl⟩
      obtain ⟨Z2, hZ2⟩ : ∃ Z, askE cols row (twoK 10 x y none) = Z := ⟨_, rfl⟩
      obtain ⟨Z3, hZ3⟩ : ∃ Z, askE cols row (twoK 7 x y none) = Z := ⟨_, rfl⟩
      obtain ⟨Z4, hZ4⟩ : ∃ Z, askE cols row (twoK 10 y x none) = Z := ⟨_, rfl⟩
      obtain ⟨Z5, hZ5⟩ : ∃ Z, askE cols row (twoK 11 y x none) = Z := ⟨_, rfl⟩
      have n8 := fun A B => (t1 A B none).trans hZ1
      have a11 := fun A => ((t1 none none A).symm.trans (t1 none none none)).trans hZ1
      have n9 := fun A B => (t2 A B none).trans hZ2
      have a10 := fun A => ((t2 none none A).symm.trans (t2 none none none)).trans hZ2
      have n6 := fun A B => (t3 A B none).trans hZ3
      have a7 := fun A => ((t3 none none A).symm.trans (t3 none none none)).trans hZ3
      have a8 := fun A => (t4 A none).trans hZ4
      have b10 := fun A => ((t4 none A).symm.trans (t4 none none)).trans hZ4
      have a9 := fun A => (t5 A none).trans hZ5
      have b11 := fun A => ((t5 none A).symm.trans (t5 none none)).trans hZ5
      have o5 := fun B C D => ((t6 none B C D).symm.trans (t5 none none)).trans hZ5
      have kn := fun k hk b1 b2 bf bx byy W hg hX hY B1 B2 Bf Bx By Z hZ => not_fn cols row Ac Ar cc cr w hlc hlr hc hr k hk x y b1 b2 bf bx byy W hg hX hY B1 B2 Bf Bx By Z hZ
      have ka := fun e b1 b2 W hg hX B1 B2 Z hZ => ask_fn cols row Ac Ar cc cr w hlc hlr hc hr e b1 b2 W hg hX B1 B2 Z hZ
      have Kn8 := fun b1 b2 bf bx byy W hg hX hY B1 B2 Bf Bx By => kn 8 ⟨by decide, by decide⟩ b1 b2 bf bx byy W hg hX hY B1 B2 Bf Bx By Z1 n8
      have Kn9 := fun b1 b2 bf bx byy W hg hX hY B1 B2 Bf Bx By => kn 9 ⟨by decide, by decide⟩ b1 b2 bf bx byy W hg hX hY B1 B2 Bf Bx By Z2 n9
      have Kn6 := fun b1 b2 bf bx byy W hg hX hY B1 B2 Bf Bx By => kn 6 ⟨by decide, by decide⟩ b1 b2 bf bx byy W hg hX hY B1 B2 Bf Bx By Z3 n6
      have Ka11 := fun A b1 b2 W hg hX B1 B2 => ka (twoK 11 x y A) b1 b2 W hg hX B1 B2 Z1 (a11 A)
      have Ka10 := fun A b1 b2 W hg hX B1 B2 => ka (twoK 10 x y A) b1 b2 W hg hX B1 B2 Z2 (a10 A)
      have Ka7 := fun A b1 b2 W hg hX B1 B2 => ka (twoK 7 x y A) b1 b2 W hg hX B1 B2 Z3 (a7 A)
      have Ka8 := fun A b1 b2 W hg hX B1 B2 => ka (twoK 8 x y A) b1 b2 W hg hX B1 B2 Z4 (a8 A)
      have Kb10 := fun A b1 b2 W hg hX B1 B2 => ka (twoK 10 y x A) b1 b2 W hg hX B1 B2 Z4 (b10 A)
      have Ka9 := fun A b1 b2 W hg hX B1 B2 => ka (twoK 9 x y A) b1 b2 W hg hX B1 B2 Z5 (a9 A)
      have Kb11 := fun A b1 b2 W hg hX B1 B2 => ka (twoK 11 y x A) b1 b2 W hg hX B1 B2 Z5 (b11 A)
      have Ko5 := fun B C D b1 b2 W hg hX B1 B2 => ka (twoK 5 (twoK 8 x y B) (twoK 6 x y C) D) b1 b2 W hg hX B1 B2 Z5 (o5 B C D)
      have Txy := fun (k : Int) (hk : -9223372036854775808 ≤ k ∧ k ≤ 9223372036854775807) (W : World) (h : Grow w W) => two_any k hk x y W (hEx.grow h) (hEy.grow h)
      have Tyx := fun (k : Int) (hk : -9223372036854775808 ≤ k ∧ k ≤ 9223372036854775807) (W : World) (h : Grow w W) => two_any k hk y x W (hEy.grow h) (hEx.grow h)
      have To := fun (A B : Option Addr) (W : World) (h8 : EX W (twoK 8 x y A)) (h6 : EX W (twoK 6 x y B)) => two_any 5 ⟨by decide, by decide⟩ (twoK 8 x y A) (twoK 6 x y B) W h8 h6
      clear Tu t1 t2 t3 t4 t5 t6 hZ1 hZ2 hZ3 hZ4 hZ5 n8 a11 n9 a10 n6 a7 a8 b10 a9 b11 o5 kn ka
      go_upto_region 7 with fail
      refine wp_forget (fun X => Blk X w.heap.size 44 #[.slice Ac cols.length cc] ∧ EB X (w.heap.size + 1) x ∧ EB X (w.heap.size + 2) y ∧ Blk X (w.heap.size + 3) 22 #[.slice Ar row.length cr] ∧ Grow w X ∧ Blk X w1.heap.size 55 #[.func (.func 62) #[] #[.pointer (some ⟨w.heap.size, 0, none⟩), .pointer (some ⟨w.heap.size + 3, 0, none⟩)]]) ⟨B1.al _, Blk.al Bx _, Blk.al By _, B2.al _, G.al _, Blk.new _ _ _⟩ ?_
      generalize w1.heap.size = q
      clear B1 B2 Bx By G
      rintro W2 ⟨B1, Bx, By, B2, G, Bf⟩
      go_upto_region 8 with fail
      try simp only [List.append]
      apply wp_region_calm 72 (by kernel_rfl) (by kernel_rfl)
      case h' =>
        intro Q0 hQ0
        simp only [List.take_succ_cons, List.take_zero]
        repeat (
          first
            | (apply calm_p rfl; case h1 => (intro w1 hw1 hF K hK; obtain ⟨cx, fx⟩ := (EB.grow Bx hw1).rules; obtain ⟨cy, fy⟩ := (EB.grow By hw1).rules; obtain ⟨cf, ff⟩ := (Blk.grow Bf hw1).rules; go_simp; first | exact hK _ (Grow.refl _) | (go_at_call 63; ((with_reducible refine (Kn8 _ _ _ _ _ _ (G.trans hw1) (hEx.grow (G.trans hw1)) (hEy.grow (G.trans hw1)) (B1.grow hw1) (B2.grow hw1) (Bf.grow hw1) (Bx.grow hw1) (By.grow hw1)).mono ?_); rintro e w' ⟨rfl, hg⟩; exact ⟨_, rfl, hK _ hg⟩)) | (go_at_call 63; ((with_reducible refine (Kn9 _ _ _ _ _ _ (G.trans hw1) (hEx.grow (G.trans hw1)) (hEy.grow (G.trans hw1)) (B1.grow hw1) (B2.grow hw1) (Bf.grow hw1) (Bx.grow hw1) (By.grow hw1)).mono ?_); rintro e w' ⟨rfl, hg⟩; exact ⟨_, rfl, hK _ hg⟩)) | (go_at_call 63; ((with_reducible refine (Kn6 _ _ _ _ _ _ (G.trans hw1) (hEx.grow (G.trans hw1)) (hEy.grow (G.trans hw1)) (B1.grow hw1) (B2.grow hw1) (Bf.grow hw1) (Bx.grow hw1) (By.grow hw1)).mono ?_); rintro e w' ⟨rfl, hg⟩; exact ⟨_, rfl, hK _ hg⟩))))
            | (apply calm_y rfl rfl rfl; case h1 => (intro w1 hw1 hF K hK; obtain ⟨cx, fx⟩ := (EB.grow Bx hw1).rules; obtain ⟨cy, fy⟩ := (EB.grow By hw1).rules; obtain ⟨cf, ff⟩ := (Blk.grow Bf hw1).rules; go_simp; first | exact hK _ (Grow.refl _) | (go_at_call 63; ((with_reducible refine (Kn8 _ _ _ _ _ _ (G.trans hw1) (hEx.grow (G.trans hw1)) (hEy.grow (G.trans hw1)) (B1.grow hw1) (B2.grow hw1) (Bf.grow hw1) (Bx.grow hw1) (By.grow hw1)).mono ?_); rintro e w' ⟨rfl, hg⟩; exact ⟨_, rfl, hK _ hg⟩)) | (go_at_call 63; ((with_reducible refine (Kn9 _ _ _ _ _ _ (G.trans hw1) (hEx.grow (G.trans hw1)) (hEy.grow (G.trans hw1)) (B1.grow hw1) (B2.grow hw1) (Bf.grow hw1) (Bx.grow hw1) (By.grow hw1)).mono ?_); rintro e w' ⟨rfl, hg⟩; exact ⟨_, rfl, hK _ hg⟩)) | (go_at_call 63; ((with_reducible refine (Kn6 _ _ _ _ _ _ (G.trans hw1) (hEx.grow (G.trans hw1)) (hEy.grow (G.trans hw1)) (B1.grow hw1) (B2.grow hw1) (Bf.grow hw1) (Bx.grow hw1) (By.grow hw1)).mono ?_); rintro e w' ⟨rfl, hg⟩; exact ⟨_, rfl, hK _ hg⟩))))
            | apply calm_n rfl rfl rfl rfl
          intro K hK
          go_simp
          apply hK
          clear hK K)
        apply calm_fp (fun v W => ∃ A, v = (twoK 11 x y A).val ∧ EX W (twoK 11 x y A)) rfl
        case h1 =>
          intro w1 hw1 hF K hK
          go_simp
          go_at_call 61
          refine (Txy 11 ⟨by decide, by decide⟩ _ (G.trans hw1)).mono ?_
          rintro en w' ⟨A2, rfl, hX, hg'⟩
          exact ⟨_, rfl, hK _ _ hg' ⟨A2, rfl, hX⟩⟩
        intro v1 K hK
        go_simp
        apply hK
        clear hK K
        repeat (
          first
            | (apply calm_p rfl; case h1 => (intro w1 hw1 hF K hK; obtain ⟨cx, fx⟩ := (EB.grow Bx hw1).rules; obtain ⟨cy, fy⟩ := (EB.grow By hw1).rules; obtain ⟨cf, ff⟩ := (Blk.grow Bf hw1).rules; go_simp; first | exact hK _ (Grow.refl _) | (go_at_call 63; ((with_reducible refine (Kn8 _ _ _ _ _ _ (G.trans hw1) (hEx.grow (G.trans hw1)) (hEy.grow (G.trans hw1)) (B1.grow hw1) (B2.grow hw1) (Bf.grow hw1) (Bx.grow hw1) (By.grow hw1)).mono ?_); rintro e w' ⟨rfl, hg⟩; exact ⟨_, rfl, hK _ hg⟩)) | (go_at_call 63; ((with_reducible refine (Kn9 _ _ _ _ _ _ (G.trans hw1) (hEx.grow (G.trans hw1)) (hEy.grow (G.trans hw1)) (B1.grow hw1) (B2.grow hw1) (Bf.grow hw1) (Bx.grow hw1) (By.grow hw1)).mono ?_); rintro e w' ⟨rfl, hg⟩; exact ⟨_, rfl, hK _ hg⟩)) | (go_at_call 63; ((with_reducible refine (Kn6 _ _ _ _ _ _ (G.trans hw1) (hEx.grow (G.trans hw1)) (hEy.grow (G.trans hw1)) (B1.grow hw1) (B2.grow hw1) (Bf.grow hw1) (Bx.grow hw1) (By.grow hw1)).mono ?_); rintro e w' ⟨rfl, hg⟩; exact ⟨_, rfl, hK _ hg⟩))))
            | (apply calm_y rfl rfl rfl; case h1 => (intro w1 hw1 hF K hK; obtain ⟨cx, fx⟩ := (EB.grow Bx hw1).rules; obtain ⟨cy, fy⟩ := (EB.grow By hw1).rules; obtain ⟨cf, ff⟩ := (Blk.grow Bf hw1).rules; go_simp; first | exact hK _ (Grow.refl _) | (go_at_call 63; ((with_reducible refine (Kn8 _ _ _ _ _ _ (G.trans hw1) (hEx.grow (G.trans hw1)) (hEy.grow (G.trans hw1)) (B1.grow hw1) (B2.grow hw1) (Bf.grow hw1) (Bx.grow hw1) (By.grow hw1)).mono ?_); rintro e w' ⟨rfl, hg⟩; exact ⟨_, rfl, hK _ hg⟩)) | (go_at_call 63; ((with_reducible refine (Kn9 _ _ _ _ _ _ (G.trans hw1) (hEx.grow (G.trans hw1)) (hEy.grow (G.trans hw1)) (B1.grow hw1) (B2.grow hw1) (Bf.grow hw1) (Bx.grow hw1) (By.grow hw1)).mono ?_); rintro e w' ⟨rfl, hg⟩; exact ⟨_, rfl, hK _ hg⟩)) | (go_at_call 63; ((with_reducible refine (Kn6 _ _ _ _ _ _ (G.trans hw1) (hEx.grow (G.trans hw1)) (hEy.grow (G.trans hw1)) (B1.grow hw1) (B2.grow hw1) (Bf.grow hw1) (Bx.grow hw1) (By.grow hw1)).mono ?_); rintro e w' ⟨rfl, hg⟩; exact ⟨_, rfl, hK _ hg⟩))))
            | apply calm_n rfl rfl rfl rfl
          intro K hK
          go_simp
          apply hK
          clear hK K)
        apply calm_p rfl
        case h1 =>
          intro w1 hw1 hF K hK
          obtain ⟨A, hv, hX⟩ := hF _ (List.mem_cons_self ..) ⟨_, rfl, by decide⟩
          subst hv
          go_simp
          go_at_call 62
          refine (Ka11 A _ _ _ (G.trans hw1) hX (B1.grow hw1) (B2.grow hw1)).mono ?_
          rintro en w' ⟨rfl, hg'⟩
          exact ⟨_, rfl, hK _ hg'⟩
        intro K hK
        go_simp
        apply hK
        clear hK K
        repeat (
          first
            | (apply calm_p rfl; case h1 => (intro w1 hw1 hF K hK; obtain ⟨cx, fx⟩ := (EB.grow Bx hw1).rules; obtain ⟨cy, fy⟩ := (EB.grow By hw1).rules; obtain ⟨cf, ff⟩ := (Blk.grow Bf hw1).rules; go_simp; first | exact hK _ (Grow.refl _) | (go_at_call 63; ((with_reducible refine (Kn8 _ _ _ _ _ _ (G.trans hw1) (hEx.grow (G.trans hw1)) (hEy.grow (G.trans hw1)) (B1.grow hw1) (B2.grow hw1) (Bf.grow hw1) (Bx.grow hw1) (By.grow hw1)).mono ?_); rintro e w' ⟨rfl, hg⟩; exact ⟨_, rfl, hK _ hg⟩)) | (go_at_call 63; ((with_reducible refine (Kn9 _ _ _ _ _ _ (G.trans hw1) (hEx.grow (G.trans hw1)) (hEy.grow (G.trans hw1)) (B1.grow hw1) (B2.grow hw1) (Bf.grow hw1) (Bx.grow hw1) (By.grow hw1)).mono ?_); rintro e w' ⟨rfl, hg⟩; exact ⟨_, rfl, hK _ hg⟩)) | (go_at_call 63; ((with_reducible refine (Kn6 _ _ _ _ _ _ (G.trans hw1) (hEx.grow (G.trans hw1)) (hEy.grow (G.trans hw1)) (B1.grow hw1) (B2.grow hw1) (Bf.grow hw1) (Bx.grow hw1) (By.grow hw1)).mono ?_); rintro e w' ⟨rfl, hg⟩; exact ⟨_, rfl, hK _ hg⟩))))
            | (apply calm_y rfl rfl rfl; case h1 => (intro w1 hw1 hF K hK; obtain ⟨cx, fx⟩ := (EB.grow Bx hw1).rules; obtain ⟨cy, fy⟩ := (EB.grow By hw1).rules; obtain ⟨cf, ff⟩ := (Blk.grow Bf hw1).rules; go_simp; first | exact hK _ (Grow.refl _) | (go_at_call 63; ((with_reducible refine (Kn8 _ _ _ _ _ _ (G.trans hw1) (hEx.grow (G.trans hw1)) (hEy.grow (G.trans hw1)) (B1.grow hw1) (B2.grow hw1) (Bf.grow hw1) (Bx.grow hw1) (By.grow hw1)).mono ?_); rintro e w' ⟨rfl, hg⟩; exact ⟨_, rfl, hK _ hg⟩)) | (go_at_call 63; ((with_reducible refine (Kn9 _ _ _ _ _ _ (G.trans hw1) (hEx.grow (G.trans hw1)) (hEy.grow (G.trans hw1)) (B1.grow hw1) (B2.grow hw1) (Bf.grow hw1) (Bx.grow hw1) (By.grow hw1)).mono ?_); rintro e w' ⟨rfl, hg⟩; exact ⟨_, rfl, hK _ hg⟩)) | (go_at_call 63; ((with_reducible refine (Kn6 _ _ _ _ _ _ (G.trans hw1) (hEx.grow (G.trans hw1)) (hEy.grow (G.trans hw1)) (B1.grow hw1) (B2.grow hw1) (Bf.grow hw1) (Bx.grow hw1) (By.grow hw1)).mono ?_); rintro e w' ⟨rfl, hg⟩; exact ⟨_, rfl, hK _ hg⟩))))
            | apply calm_n rfl rfl rfl rfl
          intro K hK
          go_simp
          apply hK
          clear hK K)
        apply calm_fy (fun v W => ∃ A, v = (twoK 10 x y A).val ∧ EX W (twoK 10 x y A)) rfl rfl rfl
        case h1 =>
          intro w1 hw1 hF K hK
          go_simp
          go_at_call 61
          refine (Txy 10 ⟨by decide, by decide⟩ _ (G.trans hw1)).mono ?_
          rintro en w' ⟨A2, rfl, hX, hg'⟩
          exact ⟨_, rfl, hK _ _ hg' ⟨A2, rfl, hX⟩⟩
        intro v2 K hK
        go_simp
        apply hK
        clear hK K
        apply calm_y rfl rfl rfl
        case h1 =>
          intro w1 hw1 hF K hK
          obtain ⟨A, hv, hX⟩ := hF _ (List.mem_cons_self ..) ⟨_, rfl, by decide⟩
          subst hv
          go_simp
          go_at_call 62
          refine (Ka10 A _ _ _ (G.trans hw1) hX (B1.grow hw1) (B2.grow hw1)).mono ?_
          rintro en w' ⟨rfl, hg'⟩
          exact ⟨_, rfl, hK _ hg'⟩
        intro K hK
        go_simp
        apply hK
        clear hK K
        repeat (
          first
            | (apply calm_p rfl; case h1 => (intro w1 hw1 hF K hK; obtain ⟨cx, fx⟩ := (EB.grow Bx hw1).rules; obtain ⟨cy, fy⟩ := (EB.grow By hw1).rules; obtain ⟨cf, ff⟩ := (Blk.grow Bf hw1).rules; go_simp; first | exact hK _ (Grow.refl _) | (go_at_call 63; ((with_reducible refine (Kn8 _ _ _ _ _ _ (G.trans hw1) (hEx.grow (G.trans hw1)) (hEy.grow (G.trans hw1)) (B1.grow hw1) (B2.grow hw1) (Bf.grow hw1) (Bx.grow hw1) (By.grow hw1)).mono ?_); rintro e w' ⟨rfl, hg⟩; exact ⟨_, rfl, hK _ hg⟩)) | (go_at_call 63; ((with_reducible refine (Kn9 _ _ _ _ _ _ (G.trans hw1) (hEx.grow (G.trans hw1)) (hEy.grow (G.trans hw1)) (B1.grow hw1) (B2.grow hw1) (Bf.grow hw1) (Bx.grow hw1) (By.grow hw1)).mono ?_); rintro e w' ⟨rfl, hg⟩; exact ⟨_, rfl, hK _ hg⟩)) | (go_at_call 63; ((with_reducible refine (Kn6 _ _ _ _ _ _ (G.trans hw1) (hEx.grow (G.trans hw1)) (hEy.grow (G.trans hw1)) (B1.grow hw1) (B2.grow hw1) (Bf.grow hw1) (Bx.grow hw1) (By.grow hw1)).mono ?_); rintro e w' ⟨rfl, hg⟩; exact ⟨_, rfl, hK _ hg⟩))))
            | (apply calm_y rfl rfl rfl; case h1 => (intro w1 hw1 hF K hK; obtain ⟨cx, fx⟩ := (EB.grow Bx hw1).rules; obtain ⟨cy, fy⟩ := (EB.grow By hw1).rules; obtain ⟨cf, ff⟩ := (Blk.grow Bf hw1).rules; go_simp; first | exact hK _ (Grow.refl _) | (go_at_call 63; ((with_reducible refine (Kn8 _ _ _ _ _ _ (G.trans hw1) (hEx.grow (G.trans hw1)) (hEy.grow (G.trans hw1)) (B1.grow hw1) (B2.grow hw1) (Bf.grow hw1) (Bx.grow hw1) (By.grow hw1)).mono ?_); rintro e w' ⟨rfl, hg⟩; exact ⟨_, rfl, hK _ hg⟩)) | (go_at_call 63; ((with_reducible refine (Kn9 _ _ _ _ _ _ (G.trans hw1) (hEx.grow (G.trans hw1)) (hEy.grow (G.trans hw1)) (B1.grow hw1) (B2.grow hw1) (Bf.grow hw1) (Bx.grow hw1) (By.grow hw1)).mono ?_); rintro e w' ⟨rfl, hg⟩; exact ⟨_, rfl, hK _ hg⟩)) | (go_at_call 63; ((with_reducible refine (Kn6 _ _ _ _ _ _ (G.trans hw1) (hEx.grow (G.trans hw1)) (hEy.grow (G.trans hw1)) (B1.grow hw1) (B2.grow hw1) (Bf.grow hw1) (Bx.grow hw1) (By.grow hw1)).mono ?_); rintro e w' ⟨rfl, hg⟩; exact ⟨_, rfl, hK _ hg⟩))))
            | apply calm_n rfl rfl rfl rfl
          intro K hK
          go_simp
          apply hK
          clear hK K)
        apply calm_fy (fun v W => ∃ A, v = (twoK 7 x y A).val ∧ EX W (twoK 7 x y A)) rfl rfl rfl
        case h1 =>
          intro w1 hw1 hF K hK
          go_simp
          go_at_call 61
          refine (Txy 7 ⟨by decide, by decide⟩ _ (G.trans hw1)).mono ?_
          rintro en w' ⟨A2, rfl, hX, hg'⟩
          exact ⟨_, rfl, hK _ _ hg' ⟨A2, rfl, hX⟩⟩
        intro v3 K hK
        go_simp
        apply hK
        clear hK K
        apply calm_y rfl rfl rfl
        case h1 =>
          intro w1 hw1 hF K hK
          obtain ⟨A, hv, hX⟩ := hF _ (List.mem_cons_self ..) ⟨_, rfl, by decide⟩
          subst hv
          go_simp
          go_at_call 62
          refine (Ka7 A _ _ _ (G.trans hw1) hX (B1.grow hw1) (B2.grow hw1)).mono ?_
          rintro en w' ⟨rfl, hg'⟩
          exact ⟨_, rfl, hK _ hg'⟩
        intro K hK
        go_simp
        apply hK
        clear hK K
        repeat (
          first
            | (apply calm_p rfl; case h1 => (intro w1 hw1 hF K hK; obtain ⟨cx, fx⟩ := (EB.grow Bx hw1).rules; obtain ⟨cy, fy⟩ := (EB.grow By hw1).rules; obtain ⟨cf, ff⟩ := (Blk.grow Bf hw1).rules; go_simp; first | exact hK _ (Grow.refl _) | (go_at_call 63; ((with_reducible refine (Kn8 _ _ _ _ _ _ (G.trans hw1) (hEx.grow (G.trans hw1)) (hEy.grow (G.trans hw1)) (B1.grow hw1) (B2.grow hw1) (Bf.grow hw1) (Bx.grow hw1) (By.grow hw1)).mono ?_); rintro e w' ⟨rfl, hg⟩; exact ⟨_, rfl, hK _ hg⟩)) | (go_at_call 63; ((with_reducible refine (Kn9 _ _ _ _ _ _ (G.trans hw1) (hEx.grow (G.trans hw1)) (hEy.grow (G.trans hw1)) (B1.grow hw1) (B2.grow hw1) (Bf.grow hw1) (Bx.grow hw1) (By.grow hw1)).mono ?_); rintro e w' ⟨rfl, hg⟩; exact ⟨_, rfl, hK _ hg⟩)) | (go_at_call 63; ((with_reducible refine (Kn6 _ _ _ _ _ _ (G.trans hw1) (hEx.grow (G.trans hw1)) (hEy.grow (G.trans hw1)) (B1.grow hw1) (B2.grow hw1) (Bf.grow hw1) (Bx.grow hw1) (By.grow hw1)).mono ?_); rintro e w' ⟨rfl, hg⟩; exact ⟨_, rfl, hK _ hg⟩))))
            | (apply calm_y rfl rfl rfl; case h1 => (intro w1 hw1 hF K hK; obtain ⟨cx, fx⟩ := (EB.grow Bx hw1).rules; obtain ⟨cy, fy⟩ := (EB.grow By hw1).rules; obtain ⟨cf, ff⟩ := (Blk.grow Bf hw1).rules; go_simp; first | exact hK _ (Grow.refl _) | (go_at_call 63; ((with_reducible refine (Kn8 _ _ _ _ _ _ (G.trans hw1) (hEx.grow (G.trans hw1)) (hEy.grow (G.trans hw1)) (B1.grow hw1) (B2.grow hw1) (Bf.grow hw1) (Bx.grow hw1) (By.grow hw1)).mono ?_); rintro e w' ⟨rfl, hg⟩; exact ⟨_, rfl, hK _ hg⟩)) | (go_at_call 63; ((with_reducible refine (Kn9 _ _ _ _ _ _ (G.trans hw1) (hEx.grow (G.trans hw1)) (hEy.grow (G.trans hw1)) (B1.grow hw1) (B2.grow hw1) (Bf.grow hw1) (Bx.grow hw1) (By.grow hw1)).mono ?_); rintro e w' ⟨rfl, hg⟩; exact ⟨_, rfl, hK _ hg⟩)) | (go_at_call 63; ((with_reducible refine (Kn6 _ _ _ _ _ _ (G.trans hw1) (hEx.grow (G.trans hw1)) (hEy.grow (G.trans hw1)) (B1.grow hw1) (B2.grow hw1) (Bf.grow hw1) (Bx.grow hw1) (By.grow hw1)).mono ?_); rintro e w' ⟨rfl, hg⟩; exact ⟨_, rfl, hK _ hg⟩))))
            | apply calm_n rfl rfl rfl rfl
          intro K hK
          go_simp
          apply hK
          clear hK K)
        apply calm_fy (fun v W => ∃ A, v = (twoK 8 x y A).val ∧ EX W (twoK 8 x y A)) rfl rfl rfl
        case h1 =>
          intro w1 hw1 hF K hK
          go_simp
          go_at_call 61
          refine (Txy 8 ⟨by decide, by decide⟩ _ (G.trans hw1)).mono ?_
          rintro en w' ⟨A2, rfl, hX, hg'⟩
          exact ⟨_, rfl, hK _ _ hg' ⟨A2, rfl, hX⟩⟩
        intro v4 K hK
        go_simp
        apply hK
        clear hK K
        apply calm_y rfl rfl rfl
        case h1 =>
          intro w1 hw1 hF K hK
          obtain ⟨A, hv, hX⟩ := hF _ (List.mem_cons_self ..) ⟨_, rfl, by decide⟩
          subst hv
          go_simp
          go_at_call 62
          refine (Ka8 A _ _ _ (G.trans hw1) hX (B1.grow hw1) (B2.grow hw1)).mono ?_
          rintro en w' ⟨rfl, hg'⟩
          exact ⟨_, rfl, hK _ hg'⟩
        intro K hK
        go_simp
        apply hK
        clear hK K
        repeat (
          first
            | (apply calm_p rfl; case h1 => (intro w1 hw1 hF K hK; obtain ⟨cx, fx⟩ := (EB.grow Bx hw1).rules; obtain ⟨cy, fy⟩ := (EB.grow By hw1).rules; obtain ⟨cf, ff⟩ := (Blk.grow Bf hw1).rules; go_simp; first | exact hK _ (Grow.refl _) | (go_at_call 63; ((with_reducible refine (Kn8 _ _ _ _ _ _ (G.trans hw1) (hEx.grow (G.trans hw1)) (hEy.grow (G.trans hw1)) (B1.grow hw1) (B2.grow hw1) (Bf.grow hw1) (Bx.grow hw1) (By.grow hw1)).mono ?_); rintro e w' ⟨rfl, hg⟩; exact ⟨_, rfl, hK _ hg⟩)) | (go_at_call 63; ((with_reducible refine (Kn9 _ _ _ _ _ _ (G.trans hw1) (hEx.grow (G.trans hw1)) (hEy.grow (G.trans hw1)) (B1.grow hw1) (B2.grow hw1) (Bf.grow hw1) (Bx.grow hw1) (By.grow hw1)).mono ?_); rintro e w' ⟨rfl, hg⟩; exact ⟨_, rfl, hK _ hg⟩)) | (go_at_call 63; ((with_reducible refine (Kn6 _ _ _ _ _ _ (G.trans hw1) (hEx.grow (G.trans hw1)) (hEy.grow (G.trans hw1)) (B1.grow hw1) (B2.grow hw1) (Bf.grow hw1) (Bx.grow hw1) (By.grow hw1)).mono ?_); rintro e w' ⟨rfl, hg⟩; exact ⟨_, rfl, hK _ hg⟩))))
            | (apply calm_y rfl rfl rfl; case h1 => (intro w1 hw1 hF K hK; obtain ⟨cx, fx⟩ := (EB.grow Bx hw1).rules; obtain ⟨cy, fy⟩ := (EB.grow By hw1).rules; obtain ⟨cf, ff⟩ := (Blk.grow Bf hw1).rules; go_simp; first | exact hK _ (Grow.refl _) | (go_at_call 63; ((with_reducible refine (Kn8 _ _ _ _ _ _ (G.trans hw1) (hEx.grow (G.trans hw1)) (hEy.grow (G.trans hw1)) (B1.grow hw1) (B2.grow hw1) (Bf.grow hw1) (Bx.grow hw1) (By.grow hw1)).mono ?_); rintro e w' ⟨rfl, hg⟩; exact ⟨_, rfl, hK _ hg⟩)) | (go_at_call 63; ((with_reducible refine (Kn9 _ _ _ _ _ _ (G.trans hw1) (hEx.grow (G.trans hw1)) (hEy.grow (G.trans hw1)) (B1.grow hw1) (B2.grow hw1) (Bf.grow hw1) (Bx.grow hw1) (By.grow hw1)).mono ?_); rintro e w' ⟨rfl, hg⟩; exact ⟨_, rfl, hK _ hg⟩)) | (go_at_call 63; ((with_reducible refine (Kn6 _ _ _ _ _ _ (G.trans hw1) (hEx.grow (G.trans hw1)) (hEy.grow (G.trans hw1)) (B1.grow hw1) (B2.grow hw1) (Bf.grow hw1) (Bx.grow hw1) (By.grow hw1)).mono ?_); rintro e w' ⟨rfl, hg⟩; exact ⟨_, rfl, hK _ hg⟩))))
            | apply calm_n rfl rfl rfl rfl
          intro K hK
          go_simp
          apply hK
          clear hK K)
        apply calm_fy (fun v W => ∃ A, v = (twoK 10 y x A).val ∧ EX W (twoK 10 y x A)) rfl rfl rfl
        case h1 =>
          intro w1 hw1 hF K hK
          go_simp
          go_at_call 61
          refine (Tyx 10 ⟨by decide, by decide⟩ _ (G.trans hw1)).mono ?_
          rintro en w' ⟨A2, rfl, hX, hg'⟩
          exact ⟨_, rfl, hK _ _ hg' ⟨A2, rfl, hX⟩⟩
        intro v5 K hK
        go_simp
        apply hK
        clear hK K
        apply calm_y rfl rfl rfl
        case h1 =>
          intro w1 hw1 hF K hK
          obtain ⟨A, hv, hX⟩ := hF _ (List.mem_cons_self ..) ⟨_, rfl, by decide⟩
          subst hv
          go_simp
          go_at_call 62
          refine (Kb10 A _ _ _ (G.trans hw1) hX (B1.grow hw1) (B2.grow hw1)).mono ?_
          rintro en w' ⟨rfl, hg'⟩
          exact ⟨_, rfl, hK _ hg'⟩
        intro K hK
        go_simp
        apply hK
        clear hK K
        repeat (
          first
            | (apply calm_p rfl; case h1 => (intro w1 hw1 hF K hK; obtain ⟨cx, fx⟩ := (EB.grow Bx hw1).rules; obtain ⟨cy, fy⟩ := (EB.grow By hw1).rules; obtain ⟨cf, ff⟩ := (Blk.grow Bf hw1).rules; go_simp; first | exact hK _ (Grow.refl _) | (go_at_call 63; ((with_reducible refine (Kn8 _ _ _ _ _ _ (G.trans hw1) (hEx.grow (G.trans hw1)) (hEy.grow (G.trans hw1)) (B1.grow hw1) (B2.grow hw1) (Bf.grow hw1) (Bx.grow hw1) (By.grow hw1)).mono ?_); rintro e w' ⟨rfl, hg⟩; exact ⟨_, rfl, hK _ hg⟩)) | (go_at_call 63; ((with_reducible refine (Kn9 _ _ _ _ _ _ (G.trans hw1) (hEx.grow (G.trans hw1)) (hEy.grow (G.trans hw1)) (B1.grow hw1) (B2.grow hw1) (Bf.grow hw1) (Bx.grow hw1) (By.grow hw1)).mono ?_); rintro e w' ⟨rfl, hg⟩; exact ⟨_, rfl, hK _ hg⟩)) | (go_at_call 63; ((with_reducible refine (Kn6 _ _ _ _ _ _ (G.trans hw1) (hEx.grow (G.trans hw1)) (hEy.grow (G.trans hw1)) (B1.grow hw1) (B2.grow hw1) (Bf.grow hw1) (Bx.grow hw1) (By.grow hw1)).mono ?_); rintro e w' ⟨rfl, hg⟩; exact ⟨_, rfl, hK _ hg⟩))))
            | (apply calm_y rfl rfl rfl; case h1 => (intro w1 hw1 hF K hK; obtain ⟨cx, fx⟩ := (EB.grow Bx hw1).rules; obtain ⟨cy, fy⟩ := (EB.grow By hw1).rules; obtain ⟨cf, ff⟩ := (Blk.grow Bf hw1).rules; go_simp; first | exact hK _ (Grow.refl _) | (go_at_call 63; ((with_reducible refine (Kn8 _ _ _ _ _ _ (G.trans hw1) (hEx.grow (G.trans hw1)) (hEy.grow (G.trans hw1)) (B1.grow hw1) (B2.grow hw1) (Bf.grow hw1) (Bx.grow hw1) (By.grow hw1)).mono ?_); rintro e w' ⟨rfl, hg⟩; exact ⟨_, rfl, hK _ hg⟩)) | (go_at_call 63; ((with_reducible refine (Kn9 _ _ _ _ _ _ (G.trans hw1) (hEx.grow (G.trans hw1)) (hEy.grow (G.trans hw1)) (B1.grow hw1) (B2.grow hw1) (Bf.grow hw1) (Bx.grow hw1) (By.grow hw1)).mono ?_); rintro e w' ⟨rfl, hg⟩; exact ⟨_, rfl, hK _ hg⟩)) | (go_at_call 63; ((with_reducible refine (Kn6 _ _ _ _ _ _ (G.trans hw1) (hEx.grow (G.trans hw1)) (hEy.grow (G.trans hw1)) (B1.grow hw1) (B2.grow hw1) (Bf.grow hw1) (Bx.grow hw1) (By.grow hw1)).mono ?_); rintro e w' ⟨rfl, hg⟩; exact ⟨_, rfl, hK _ hg⟩))))
            | apply calm_n rfl rfl rfl rfl
          intro K hK
          go_simp
          apply hK
          clear hK K)
        apply calm_fy (fun v W => ∃ A, v = (twoK 9 x y A).val ∧ EX W (twoK 9 x y A)) rfl rfl rfl
        case h1 =>
          intro w1 hw1 hF K hK
          go_simp
          go_at_call 61
          refine (Txy 9 ⟨by decide, by decide⟩ _ (G.trans hw1)).mono ?_
          rintro en w' ⟨A2, rfl, hX, hg'⟩
          exact ⟨_, rfl, hK _ _ hg' ⟨A2, rfl, hX⟩⟩
        intro v6 K hK
        go_simp
        apply hK
        clear hK K
        apply calm_y rfl rfl rfl
        case h1 =>
          intro w1 hw1 hF K hK
          obtain ⟨A, hv, hX⟩ := hF _ (List.mem_cons_self ..) ⟨_, rfl, by decide⟩
          subst hv
          go_simp
          go_at_call 62
          refine (Ka9 A _ _ _ (G.trans hw1) hX (B1.grow hw1) (B2.grow hw1)).mono ?_
          rintro en w' ⟨rfl, hg'⟩
          exact ⟨_, rfl, hK _ hg'⟩
        intro K hK
        go_simp
        apply hK
        clear hK K
        repeat (
          first
            | (apply calm_p rfl; case h1 => (intro w1 hw1 hF K hK; obtain ⟨cx, fx⟩ := (EB.grow Bx hw1).rules; obtain ⟨cy, fy⟩ := (EB.grow By hw1).rules; obtain ⟨cf, ff⟩ := (Blk.grow Bf hw1).rules; go_simp; first | exact hK _ (Grow.refl _) | (go_at_call 63; ((with_reducible refine (Kn8 _ _ _ _ _ _ (G.trans hw1) (hEx.grow (G.trans hw1)) (hEy.grow (G.trans hw1)) (B1.grow hw1) (B2.grow hw1) (Bf.grow hw1) (Bx.grow hw1) (By.grow hw1)).mono ?_); rintro e w' ⟨rfl, hg⟩; exact ⟨_, rfl, hK _ hg⟩)) | (go_at_call 63; ((with_reducible refine (Kn9 _ _ _ _ _ _ (G.trans hw1) (hEx.grow (G.trans hw1)) (hEy.grow (G.trans hw1)) (B1.grow hw1) (B2.grow hw1) (Bf.grow hw1) (Bx.grow hw1) (By.grow hw1)).mono ?_); rintro e w' ⟨rfl, hg⟩; exact ⟨_, rfl, hK _ hg⟩)) | (go_at_call 63; ((with_reducible refine (Kn6 _ _ _ _ _ _ (G.trans hw1) (hEx.grow (G.trans hw1)) (hEy.grow (G.trans hw1)) (B1.grow hw1) (B2.grow hw1) (Bf.grow hw1) (Bx.grow hw1) (By.grow hw1)).mono ?_); rintro e w' ⟨rfl, hg⟩; exact ⟨_, rfl, hK _ hg⟩))))
            | (apply calm_y rfl rfl rfl; case h1 => (intro w1 hw1 hF K hK; obtain ⟨cx, fx⟩ := (EB.grow Bx hw1).rules; obtain ⟨cy, fy⟩ := (EB.grow By hw1).rules; obtain ⟨cf, ff⟩ := (Blk.grow Bf hw1).rules; go_simp; first | exact hK _ (Grow.refl _) | (go_at_call 63; ((with_reducible refine (Kn8 _ _ _ _ _ _ (G.trans hw1) (hEx.grow (G.trans hw1)) (hEy.grow (G.trans hw1)) (B1.grow hw1) (B2.grow hw1) (Bf.grow hw1) (Bx.grow hw1) (By.grow hw1)).mono ?_); rintro e w' ⟨rfl, hg⟩; exact ⟨_, rfl, hK _ hg⟩)) | (go_at_call 63; ((with_reducible refine (Kn9 _ _ _ _ _ _ (G.trans hw1) (hEx.grow (G.trans hw1)) (hEy.grow (G.trans hw1)) (B1.grow hw1) (B2.grow hw1) (Bf.grow hw1) (Bx.grow hw1) (By.grow hw1)).mono ?_); rintro e w' ⟨rfl, hg⟩; exact ⟨_, rfl, hK _ hg⟩)) | (go_at_call 63; ((with_reducible refine (Kn6 _ _ _ _ _ _ (G.trans hw1) (hEx.grow (G.trans hw1)) (hEy.grow (G.trans hw1)) (B1.grow hw1) (B2.grow hw1) (Bf.grow hw1) (Bx.grow hw1) (By.grow hw1)).mono ?_); rintro e w' ⟨rfl, hg⟩; exact ⟨_, rfl, hK _ hg⟩))))
            | apply calm_n rfl rfl rfl rfl
          intro K hK
          go_simp
          apply hK
          clear hK K)
        apply calm_fy (fun v W => ∃ A, v = (twoK 11 y x A).val ∧ EX W (twoK 11 y x A)) rfl rfl rfl
        case h1 =>
          intro w1 hw1 hF K hK
          go_simp
          go_at_call 61
          refine (Tyx 11 ⟨by decide, by decide⟩ _ (G.trans hw1)).mono ?_
          rintro en w' ⟨A2, rfl, hX, hg'⟩
          exact ⟨_, rfl, hK _ _ hg' ⟨A2, rfl, hX⟩⟩
        intro v7 K hK
        go_simp
        apply hK
        clear hK K
        apply calm_y rfl rfl rfl
        case h1 =>
          intro w1 hw1 hF K hK
          obtain ⟨A, hv, hX⟩ := hF _ (List.mem_cons_self ..) ⟨_, rfl, by decide⟩
          subst hv
          go_simp
          go_at_call 62
          refine (Kb11 A _ _ _ (G.trans hw1) hX (B1.grow hw1) (B2.grow hw1)).mono ?_
          rintro en w' ⟨rfl, hg'⟩
          exact ⟨_, rfl, hK _ hg'⟩
        intro K hK
        go_simp
        apply hK
        clear hK K
        repeat (
          first
            | (apply calm_p rfl; case h1 => (intro w1 hw1 hF K hK; obtain ⟨cx, fx⟩ := (EB.grow Bx hw1).rules; obtain ⟨cy, fy⟩ := (EB.grow By hw1).rules; obtain ⟨cf, ff⟩ := (Blk.grow Bf hw1).rules; go_simp; first | exact hK _ (Grow.refl _) | (go_at_call 63; ((with_reducible refine (Kn8 _ _ _ _ _ _ (G.trans hw1) (hEx.grow (G.trans hw1)) (hEy.grow (G.trans hw1)) (B1.grow hw1) (B2.grow hw1) (Bf.grow hw1) (Bx.grow hw1) (By.grow hw1)).mono ?_); rintro e w' ⟨rfl, hg⟩; exact ⟨_, rfl, hK _ hg⟩)) | (go_at_call 63; ((with_reducible refine (Kn9 _ _ _ _ _ _ (G.trans hw1) (hEx.grow (G.trans hw1)) (hEy.grow (G.trans hw1)) (B1.grow hw1) (B2.grow hw1) (Bf.grow hw1) (Bx.grow hw1) (By.grow hw1)).mono ?_); rintro e w' ⟨rfl, hg⟩; exact ⟨_, rfl, hK _ hg⟩)) | (go_at_call 63; ((with_reducible refine (Kn6 _ _ _ _ _ _ (G.trans hw1) (hEx.grow (G.trans hw1)) (hEy.grow (G.trans hw1)) (B1.grow hw1) (B2.grow hw1) (Bf.grow hw1) (Bx.grow hw1) (By.grow hw1)).mono ?_); rintro e w' ⟨rfl, hg⟩; exact ⟨_, rfl, hK _ hg⟩))))
            | (apply calm_y rfl rfl rfl; case h1 => (intro w1 hw1 hF K hK; obtain ⟨cx, fx⟩ := (EB.grow Bx hw1).rules; obtain ⟨cy, fy⟩ := (EB.grow By hw1).rules; obtain ⟨cf, ff⟩ := (Blk.grow Bf hw1).rules; go_simp; first | exact hK _ (Grow.refl _) | (go_at_call 63; ((with_reducible refine (Kn8 _ _ _ _ _ _ (G.trans hw1) (hEx.grow (G.trans hw1)) (hEy.grow (G.trans hw1)) (B1.grow hw1) (B2.grow hw1) (Bf.grow hw1) (Bx.grow hw1) (By.grow hw1)).mono ?_); rintro e w' ⟨rfl, hg⟩; exact ⟨_, rfl, hK _ hg⟩)) | (go_at_call 63; ((with_reducible refine (Kn9 _ _ _ _ _ _ (G.trans hw1) (hEx.grow (G.trans hw1)) (hEy.grow (G.trans hw1)) (B1.grow hw1) (B2.grow hw1) (Bf.grow hw1) (Bx.grow hw1) (By.grow hw1)).mono ?_); rintro e w' ⟨rfl, hg⟩; exact ⟨_, rfl, hK _ hg⟩)) | (go_at_call 63; ((with_reducible refine (Kn6 _ _ _ _ _ _ (G.trans hw1) (hEx.grow (G.trans hw1)) (hEy.grow (G.trans hw1)) (B1.grow hw1) (B2.grow hw1) (Bf.grow hw1) (Bx.grow hw1) (By.grow hw1)).mono ?_); rintro e w' ⟨rfl, hg⟩; exact ⟨_, rfl, hK _ hg⟩))))
            | apply calm_n rfl rfl rfl rfl
          intro K hK
          go_simp
          apply hK
          clear hK K)
        apply calm_fy (fun v W => ∃ A, v = (twoK 9 x y A).val ∧ EX W (twoK 9 x y A)) rfl rfl rfl
        case h1 =>
          intro w1 hw1 hF K hK
          go_simp
          go_at_call 61
          refine (Txy 9 ⟨by decide, by decide⟩ _ (G.trans hw1)).mono ?_
          rintro en w' ⟨A2, rfl, hX, hg'⟩
          exact ⟨_, rfl, hK _ _ hg' ⟨A2, rfl, hX⟩⟩
        intro v8 K hK
        go_simp
        apply hK
        clear hK K
        apply calm_y rfl rfl rfl
        case h1 =>
          intro w1 hw1 hF K hK
          obtain ⟨A, hv, hX⟩ := hF _ (List.mem_cons_self ..) ⟨_, rfl, by decide⟩
          subst hv
          go_simp
          go_at_call 62
          refine (Ka9 A _ _ _ (G.trans hw1) hX (B1.grow hw1) (B2.grow hw1)).mono ?_
          rintro en w' ⟨rfl, hg'⟩
          exact ⟨_, rfl, hK _ hg'⟩
        intro K hK
        go_simp
        apply hK
        clear hK K
        repeat (
          first
            | (apply calm_p rfl; case h1 => (intro w1 hw1 hF K hK; obtain ⟨cx, fx⟩ := (EB.grow Bx hw1).rules; obtain ⟨cy, fy⟩ := (EB.grow By hw1).rules; obtain ⟨cf, ff⟩ := (Blk.grow Bf hw1).rules; go_simp; first | exact hK _ (Grow.refl _) | (go_at_call 63; ((with_reducible refine (Kn8 _ _ _ _ _ _ (G.trans hw1) (hEx.grow (G.trans hw1)) (hEy.grow (G.trans hw1)) (B1.grow hw1) (B2.grow hw1) (Bf.grow hw1) (Bx.grow hw1) (By.grow hw1)).mono ?_); rintro e w' ⟨rfl, hg⟩; exact ⟨_, rfl, hK _ hg⟩)) | (go_at_call 63; ((with_reducible refine (Kn9 _ _ _ _ _ _ (G.trans hw1) (hEx.grow (G.trans hw1)) (hEy.grow (G.trans hw1)) (B1.grow hw1) (B2.grow hw1) (Bf.grow hw1) (Bx.grow hw1) (By.grow hw1)).mono ?_); rintro e w' ⟨rfl, hg⟩; exact ⟨_, rfl, hK _ hg⟩)) | (go_at_call 63; ((with_reducible refine (Kn6 _ _ _ _ _ _ (G.trans hw1) (hEx.grow (G.trans hw1)) (hEy.grow (G.trans hw1)) (B1.grow hw1) (B2.grow hw1) (Bf.grow hw1) (Bx.grow hw1) (By.grow hw1)).mono ?_); rintro e w' ⟨rfl, hg⟩; exact ⟨_, rfl, hK _ hg⟩))))
            | (apply calm_y rfl rfl rfl; case h1 => (intro w1 hw1 hF K hK; obtain ⟨cx, fx⟩ := (EB.grow Bx hw1).rules; obtain ⟨cy, fy⟩ := (EB.grow By hw1).rules; obtain ⟨cf, ff⟩ := (Blk.grow Bf hw1).rules; go_simp; first | exact hK _ (Grow.refl _) | (go_at_call 63; ((with_reducible refine (Kn8 _ _ _ _ _ _ (G.trans hw1) (hEx.grow (G.trans hw1)) (hEy.grow (G.trans hw1)) (B1.grow hw1) (B2.grow hw1) (Bf.grow hw1) (Bx.grow hw1) (By.grow hw1)).mono ?_); rintro e w' ⟨rfl, hg⟩; exact ⟨_, rfl, hK _ hg⟩)) | (go_at_call 63; ((with_reducible refine (Kn9 _ _ _ _ _ _ (G.trans hw1) (hEx.grow (G.trans hw1)) (hEy.grow (G.trans hw1)) (B1.grow hw1) (B2.grow hw1) (Bf.grow hw1) (Bx.grow hw1) (By.grow hw1)).mono ?_); rintro e w' ⟨rfl, hg⟩; exact ⟨_, rfl, hK _ hg⟩)) | (go_at_call 63; ((with_reducible refine (Kn6 _ _ _ _ _ _ (G.trans hw1) (hEx.grow (G.trans hw1)) (hEy.grow (G.trans hw1)) (B1.grow hw1) (B2.grow hw1) (Bf.grow hw1) (Bx.grow hw1) (By.grow hw1)).mono ?_); rintro e w' ⟨rfl, hg⟩; exact ⟨_, rfl, hK _ hg⟩))))
            | apply calm_n rfl rfl rfl rfl
          intro K hK
          go_simp
          apply hK
          clear hK K)
        apply calm_fy (fun v W => ∃ A, v = (twoK 8 x y A).val ∧ EX W (twoK 8 x y A)) rfl rfl rfl
        case h1 =>
          intro w1 hw1 hF K hK
          go_simp
          go_at_call 61
          refine (Txy 8 ⟨by decide, by decide⟩ _ (G.trans hw1)).mono ?_
          rintro en w' ⟨A2, rfl, hX, hg'⟩
          exact ⟨_, rfl, hK _ _ hg' ⟨A2, rfl, hX⟩⟩
        intro v9 K hK
        go_simp
        apply hK
        clear hK K
        repeat (
          first
            | (apply calm_p rfl; case h1 => (intro w1 hw1 hF K hK; obtain ⟨cx, fx⟩ := (EB.grow Bx hw1).rules; obtain ⟨cy, fy⟩ := (EB.grow By hw1).rules; obtain ⟨cf, ff⟩ := (Blk.grow Bf hw1).rules; go_simp; first | exact hK _ (Grow.refl _) | (go_at_call 63; ((with_reducible refine (Kn8 _ _ _ _ _ _ (G.trans hw1) (hEx.grow (G.trans hw1)) (hEy.grow (G.trans hw1)) (B1.grow hw1) (B2.grow hw1) (Bf.grow hw1) (Bx.grow hw1) (By.grow hw1)).mono ?_); rintro e w' ⟨rfl, hg⟩; exact ⟨_, rfl, hK _ hg⟩)) | (go_at_call 63; ((with_reducible refine (Kn9 _ _ _ _ _ _ (G.trans hw1) (hEx.grow (G.trans hw1)) (hEy.grow (G.trans hw1)) (B1.grow hw1) (B2.grow hw1) (Bf.grow hw1) (Bx.grow hw1) (By.grow hw1)).mono ?_); rintro e w' ⟨rfl, hg⟩; exact ⟨_, rfl, hK _ hg⟩)) | (go_at_call 63; ((with_reducible refine (Kn6 _ _ _ _ _ _ (G.trans hw1) (hEx.grow (G.trans hw1)) (hEy.grow (G.trans hw1)) (B1.grow hw1) (B2.grow hw1) (Bf.grow hw1) (Bx.grow hw1) (By.grow hw1)).mono ?_); rintro e w' ⟨rfl, hg⟩; exact ⟨_, rfl, hK _ hg⟩))))
            | (apply calm_y rfl rfl rfl; case h1 => (intro w1 hw1 hF K hK; obtain ⟨cx, fx⟩ := (EB.grow Bx hw1).rules; obtain ⟨cy, fy⟩ := (EB.grow By hw1).rules; obtain ⟨cf, ff⟩ := (Blk.grow Bf hw1).rules; go_simp; first | exact hK _ (Grow.refl _) | (go_at_call 63; ((with_reducible refine (Kn8 _ _ _ _ _ _ (G.trans hw1) (hEx.grow (G.trans hw1)) (hEy.grow (G.trans hw1)) (B1.grow hw1) (B2.grow hw1) (Bf.grow hw1) (Bx.grow hw1) (By.grow hw1)).mono ?_); rintro e w' ⟨rfl, hg⟩; exact ⟨_, rfl, hK _ hg⟩)) | (go_at_call 63; ((with_reducible refine (Kn9 _ _ _ _ _ _ (G.trans hw1) (hEx.grow (G.trans hw1)) (hEy.grow (G.trans hw1)) (B1.grow hw1) (B2.grow hw1) (Bf.grow hw1) (Bx.grow hw1) (By.grow hw1)).mono ?_); rintro e w' ⟨rfl, hg⟩; exact ⟨_, rfl, hK _ hg⟩)) | (go_at_call 63; ((with_reducible refine (Kn6 _ _ _ _ _ _ (G.trans hw1) (hEx.grow (G.trans hw1)) (hEy.grow (G.trans hw1)) (B1.grow hw1) (B2.grow hw1) (Bf.grow hw1) (Bx.grow hw1) (By.grow hw1)).mono ?_); rintro e w' ⟨rfl, hg⟩; exact ⟨_, rfl, hK _ hg⟩))))
            | apply calm_n rfl rfl rfl rfl
          intro K hK
          go_simp
          apply hK
          clear hK K)
        apply calm_fy (fun v W => ∃ A, v = (twoK 6 x y A).val ∧ EX W (twoK 6 x y A)) rfl rfl rfl
        case h1 =>
          intro w1 hw1 hF K hK
          go_simp
          go_at_call 61
          refine (Txy 6 ⟨by decide, by decide⟩ _ (G.trans hw1)).mono ?_
          rintro en w' ⟨A2, rfl, hX, hg'⟩
          exact ⟨_, rfl, hK _ _ hg' ⟨A2, rfl, hX⟩⟩
        intro v10 K hK
        go_simp
        apply hK
        clear hK K
        apply calm_fy (fun v W => ∃ A B C, v = (twoK 5 (twoK 8 x y A) (twoK 6 x y B) C).val ∧ EX W (twoK 5 (twoK 8 x y A) (twoK 6 x y B) C)) rfl rfl rfl
        case h1 =>
          intro w1 hw1 hF K hK
          obtain ⟨B, hv2, hX2⟩ := hF _ (List.mem_cons_self ..) ⟨_, rfl, by decide⟩
          obtain ⟨A, hv, hX1⟩ := hF _ (List.mem_cons_of_mem _ (List.mem_cons_self ..)) ⟨_, rfl, by decide⟩
          subst hv hv2
          go_simp
          go_at_call 61
          refine (To A B _ hX1 hX2).mono ?_
          rintro en w' ⟨A2, rfl, hX, hg'⟩
          exact ⟨_, rfl, hK _ _ hg' ⟨A, B, A2, rfl, hX⟩⟩
        intro v11 K hK
        go_simp
        apply hK
        clear hK K
        apply calm_y rfl rfl rfl
        case h1 =>
          intro w1 hw1 hF K hK
          obtain ⟨A, B, C, hv, hX⟩ := hF _ (List.mem_cons_self ..) ⟨_, rfl, by decide⟩
          subst hv
          go_simp
          go_at_call 62
          refine (Ko5 A B C _ _ _ (G.trans hw1) hX (B1.grow hw1) (B2.grow hw1)).mono ?_
          rintro en w' ⟨rfl, hg'⟩
          exact ⟨_, rfl, hK _ hg'⟩
        intro K hK
        go_simp
        apply hK
        clear hK K
        repeat (
          first
            | (apply calm_p rfl; case h1 => (intro w1 hw1 hF K hK; obtain ⟨cx, fx⟩ := (EB.grow Bx hw1).rules; obtain ⟨cy, fy⟩ := (EB.grow By hw1).rules; obtain ⟨cf, ff⟩ := (Blk.grow Bf hw1).rules; go_simp; first | exact hK _ (Grow.refl _) | (go_at_call 63; ((with_reducible refine (Kn8 _ _ _ _ _ _ (G.trans hw1) (hEx.grow (G.trans hw1)) (hEy.grow (G.trans hw1)) (B1.grow hw1) (B2.grow hw1) (Bf.grow hw1) (Bx.grow hw1) (By.grow hw1)).mono ?_); rintro e w' ⟨rfl, hg⟩; exact ⟨_, rfl, hK _ hg⟩)) | (go_at_call 63; ((with_reducible refine (Kn9 _ _ _ _ _ _ (G.trans hw1) (hEx.grow (G.trans hw1)) (hEy.grow (G.trans hw1)) (B1.grow hw1) (B2.grow hw1) (Bf.grow hw1) (Bx.grow hw1) (By.grow hw1)).mono ?_); rintro e w' ⟨rfl, hg⟩; exact ⟨_, rfl, hK _ hg⟩)) | (go_at_call 63; ((with_reducible refine (Kn6 _ _ _ _ _ _ (G.trans hw1) (hEx.grow (G.trans hw1)) (hEy.grow (G.trans hw1)) (B1.grow hw1) (B2.grow hw1) (Bf.grow hw1) (Bx.grow hw1) (By.grow hw1)).mono ?_); rintro e w' ⟨rfl, hg⟩; exact ⟨_, rfl, hK _ hg⟩))))
            | (apply calm_y rfl rfl rfl; case h1 => (intro w1 hw1 hF K hK; obtain ⟨cx, fx⟩ := (EB.grow Bx hw1).rules; obtain ⟨cy, fy⟩ := (EB.grow By hw1).rules; obtain ⟨cf, ff⟩ := (Blk.grow Bf hw1).rules; go_simp; first | exact hK _ (Grow.refl _) | (go_at_call 63; ((with_reducible refine (Kn8 _ _ _ _ _ _ (G.trans hw1) (hEx.grow (G.trans hw1)) (hEy.grow (G.trans hw1)) (B1.grow hw1) (B2.grow hw1) (Bf.grow hw1) (Bx.grow hw1) (By.grow hw1)).mono ?_); rintro e w' ⟨rfl, hg⟩; exact ⟨_, rfl, hK _ hg⟩)) | (go_at_call 63; ((with_reducible refine (Kn9 _ _ _ _ _ _ (G.trans hw1) (hEx.grow (G.trans hw1)) (hEy.grow (G.trans hw1)) (B1.grow hw1) (B2.grow hw1) (Bf.grow hw1) (Bx.grow hw1) (By.grow hw1)).mono ?_); rintro e w' ⟨rfl, hg⟩; exact ⟨_, rfl, hK _ hg⟩)) | (go_at_call 63; ((with_reducible refine (Kn6 _ _ _ _ _ _ (G.trans hw1) (hEx.grow (G.trans hw1)) (hEy.grow (G.trans hw1)) (B1.grow hw1) (B2.grow hw1) (Bf.grow hw1) (Bx.grow hw1) (By.grow hw1)).mono ?_); rintro e w' ⟨rfl, hg⟩; exact ⟨_, rfl, hK _ hg⟩))))
            | apply calm_n rfl rfl rfl rfl
          intro K hK
          go_simp
          apply hK
          clear hK K)
        refine calm_nil ?_
        intro w1 hw1 hF
        apply hQ0
        clear hQ0
        simp only [List.drop_succ_cons, List.drop_zero]
        clear hF
        go_wp2
        go_ret
        exact ⟨rfl, G.trans hw1⟩
      case hp' => exact ⟨fun v w w' hg ⟨A, e, hX⟩ => ⟨A, e, hX.grow hg⟩, fun v w w' hg ⟨A, e, hX⟩ => ⟨A, e, hX.grow hg⟩, fun v w w' hg ⟨A, e, hX⟩ => ⟨A, e, hX.grow hg⟩, fun v w w' hg ⟨A, e, hX⟩ => ⟨A, e, hX.grow hg⟩, fun v w w' hg ⟨A, e, hX⟩ => ⟨A, e, hX.grow hg⟩, fun v w w' hg ⟨A, e, hX⟩ => ⟨A, e, hX.grow hg⟩, fun v w w' hg ⟨A, e, hX⟩ => ⟨A, e, hX.grow hg⟩, fun v w w' hg ⟨A, e, hX⟩ => ⟨A, e, hX.grow hg⟩, fun v w w' hg ⟨A, e, hX⟩ => ⟨A, e, hX.grow hg⟩, fun v w w' hg ⟨A, e, hX⟩ => ⟨A, e, hX.grow hg⟩, fun v w w' hg ⟨A, B, C, e, hX⟩ => ⟨A, B, C, e, hX.grow hg⟩, trivial⟩
    · have d : (te != 0) = true := by simpa using h0
      clear h0 Tu
      go_wp2
      go_ret
      exact ⟨rfl, G⟩
  case hp' => exact ⟨fun v w w' hg ⟨A, e, hX⟩ => ⟨A, e, hX.grow hg⟩, fun v w w' hg ⟨A, e, hX⟩ => ⟨A, e, hX.grow hg⟩, fun v w w' hg ⟨A, B, C, e, hX⟩ => ⟨A, B, C, e, hX.grow hg⟩, fun v w w' hg h => h, fun v w w' hg h => h, fun v w w' hg h => h, fun v w w' hg h => h, fun v w w' hg h => h, fun v w w' hg h => h, trivial⟩
end Go.Proofs.Ytjhcbehnopmnpaa
