/- Parts of a proof. No condition. -/
import Derived.Test.YthhbiemnbkfobaaGreatGDd
import Derived.Test.YthhbiemnbkfobaaGreatGDc
set_option maxRecDepth 100000
set_option maxHeartbeats 8000000
set_option maxRecDepth 100000
set_option linter.unusedSimpArgs false
set_option linter.unusedVariables false
namespace Go
variable {p : Prop}
theorem vW_ (h : p := by
 intro Q0 hQ0; simp only [List.take_succ_cons, List.take_zero]
 repeat ((first | ((first | apply zh rfl | apply zo rfl rfl rfl); case h1 => (intro w1 hw1 hF K hK; obtain ⟨c0, c1, c2, c3, c4, c5, c6, c7, c8, c9, c10⟩ := Hx.out.grow hw1; simp only [PL.k, PL.n, PL.x, PL.xs, PL.ag, PL.A, PL.m, PL.cap] at c0 c1 c2 c3 c4 c5 c6 c7 c8 c9 c10; have e1 := hw1.cell HC.out.1; have e2 := hw1.cell HC.out.2; go_simp; first | exact hK _ (za.refl _))) | apply zm rfl rfl rfl rfl); intro K hK; go_simp; apply hK; clear hK K)
 apply ze (yX []) rfl
 case h1 =>
   intro w1 hw1 hF K hK; go_simp
   go_at_call 63
   refine (cq w1 hw1).mono ?_; rintro en w' ⟨B, ys, cap, rfl, hz, hm, hk, hg'⟩; exact ⟨_, rfl, hK _ _ hg' ⟨B, ys, cap, rfl, hz, hm, hk⟩⟩
 intro v90 K hK; go_simp; apply hK; clear hK K; apply ze (yX []) rfl
 case h1 =>
   intro w1 hw1 hF K hK; obtain ⟨B, ys, cap, hv, h⟩ := hF _ (List.mem_cons_self ..) ⟨_, rfl, by decide⟩; subst hv; go_simp; exact hK _ _ (za.refl _) ⟨B, ys, cap, rfl, h⟩
 intro v91 K hK; go_simp; apply hK; clear hK K; refine zk ?_; intro w1 hw1 hF; apply hQ0; clear hQ0; simp only [List.drop_succ_cons, List.drop_zero]; obtain ⟨B, ys, cap, hv, hz, hm, hk⟩ := hF _ (List.mem_cons_self ..); subst hv; have Out := hh_ (And.intro hz (And.intro hm hk)); clear hF hz hm hk; go_wp2; go_ret; exact ⟨B, ys, cap, rfl, Out.out.1, Out.out.2.1, Out.out.2.2, hw1⟩) : p := h
theorem vX_ (h : p := by
 intro w1 hw1 hF K hK; obtain ⟨B, ys, cap, hv, h⟩ := hF _ (List.mem_cons_self ..) ⟨_, rfl, by decide⟩; subst hv; go_simp; exact hK _ _ (za.refl _) ⟨B, ys, cap, rfl, h⟩) : p := h
end Go
namespace Go.Proofs.YthhbiemnbkfobaaGreat
open Go.RowKit Go.Calm
theorem ED (n : Int) (x : E) (xs : jw) (ag : ju) (A : Option Addr) (mm cap : Nat) (kid : Nat -> PL) (gs gx ox gw cw gi ci q0 : Nat) (tc : Value) (a : S) (B0 : Option Addr) (w : World) (hx : zJ w gx ox (.mk 2 n x xs ag A mm cap kid)) (w0 : w.cell? ⟨gw, 0, none⟩ = some (.slice a.A a.xs.length a.cap)) (i0 : w.cell? ⟨gi, 0, none⟩ = some (.slice B0 0 q0)) (cq : ∀ W, za w W -> Calls Tryz.prog 58 #[.pointer (some ⟨gx, ox + 2, none⟩), .slice B0 0 q0] W fun en w' => zK W w' en []) :
    Calls Tryz.prog 33 #[.pointer (some ⟨gs, 0, none⟩), .pointer (some ⟨gx, ox, none⟩), tc, .slice (some ⟨gw, 0, none⟩) 1 cw, .slice (some ⟨gi, 0, none⟩) 1 ci] w fun en w' => zK w w' en [] := by
  have Hx := hh_ hx; have HC := hh_ (And.intro w0 i0); obtain ⟨c0, c1, c2, c3, c4, c5, c6, c7, c8, c9, c10⟩ := hx; simp only [PL.k, PL.n, PL.x, PL.xs, PL.ag, PL.A, PL.m, PL.cap] at c0 c1 c2 c3 c4 c5 c6 c7 c8 c9 c10; clear w0 i0; go_enter Tryz.func33, Tryz.ntmps33; clear c1 c2 c3 c4 c5 c6 c7 c8 c9 c10; go_wp2; apply zb 8 vP_ vP_
  case h' =>
    intro Q0 hQ0; simp only [List.take_succ_cons, List.take_zero]
    repeat ((first | ((first | apply zh rfl | apply zo rfl rfl rfl); case h1 => (intro w1 hw1 hF K hK; obtain ⟨c0, c1, c2, c3, c4, c5, c6, c7, c8, c9, c10⟩ := Hx.out.grow hw1; simp only [PL.k, PL.n, PL.x, PL.xs, PL.ag, PL.A, PL.m, PL.cap] at c0 c1 c2 c3 c4 c5 c6 c7 c8 c9 c10; have e1 := hw1.cell HC.out.1; have e2 := hw1.cell HC.out.2; go_simp; first | exact hK _ (za.refl _))) | apply zm rfl rfl rfl rfl); intro K hK; go_simp; apply hK; clear hK K)
    apply ze (yX []) rfl
    case h1 =>
      intro w1 hw1 hF K hK; go_simp
      go_at_call 58
      refine (cq w1 hw1).mono ?_; rintro en w' ⟨B, ys, cap, rfl, hz, hm, hk, hg'⟩; exact ⟨_, rfl, hK _ _ hg' ⟨B, ys, cap, rfl, hz, hm, hk⟩⟩
    intro v90 K hK; go_simp; apply hK; clear hK K; apply ze (yX []) rfl
    case h1 => exact vX_
    intro v91 K hK; go_simp; apply hK; clear hK K; refine zk ?_; intro w1 hw1 hF; apply hQ0; clear hQ0; simp only [List.drop_succ_cons, List.drop_zero]; obtain ⟨B, ys, cap, hv, hz, hm, hk⟩ := hF _ (List.mem_cons_self ..); subst hv; have Out := hh_ (And.intro hz (And.intro hm hk)); clear hF hz hm hk; go_wp2; go_ret; exact ⟨B, ys, cap, rfl, Out.out.1, Out.out.2.1, Out.out.2.2, hw1⟩
  case hp' => exact uH_
theorem EJ (n : Int) (x : E) (xs : jw) (ag : ju) (A : Option Addr) (mm cap : Nat) (kid : Nat -> PL) (gs gx ox gw cw gi ci q0 : Nat) (tc : Value) (a : S) (B0 : Option Addr) (w : World) (hx : zJ w gx ox (.mk 3 n x xs ag A mm cap kid)) (w0 : w.cell? ⟨gw, 0, none⟩ = some (.slice a.A a.xs.length a.cap)) (i0 : w.cell? ⟨gi, 0, none⟩ = some (.slice B0 0 q0)) (cq : ∀ W, za w W -> Calls Tryz.prog 59 #[.slice xs.A xs.l.length xs.c, .slice B0 0 q0] W fun en w' => zK W w' en []) :
    Calls Tryz.prog 33 #[.pointer (some ⟨gs, 0, none⟩), .pointer (some ⟨gx, ox, none⟩), tc, .slice (some ⟨gw, 0, none⟩) 1 cw, .slice (some ⟨gi, 0, none⟩) 1 ci] w fun en w' => zK w w' en [] := by
  have Hx := hh_ hx; have HC := hh_ (And.intro w0 i0); obtain ⟨c0, c1, c2, c3, c4, c5, c6, c7, c8, c9, c10⟩ := hx; simp only [PL.k, PL.n, PL.x, PL.xs, PL.ag, PL.A, PL.m, PL.cap] at c0 c1 c2 c3 c4 c5 c6 c7 c8 c9 c10; clear w0 i0; go_enter Tryz.func33, Tryz.ntmps33; clear c1 c2 c3 c4 c5 c6 c7 c8 c9 c10; go_wp2; apply zb 9 vP_ vP_
  case h' =>
    intro Q0 hQ0; simp only [List.take_succ_cons, List.take_zero]
    repeat ((first | ((first | apply zh rfl | apply zo rfl rfl rfl); case h1 => (intro w1 hw1 hF K hK; obtain ⟨c0, c1, c2, c3, c4, c5, c6, c7, c8, c9, c10⟩ := Hx.out.grow hw1; simp only [PL.k, PL.n, PL.x, PL.xs, PL.ag, PL.A, PL.m, PL.cap] at c0 c1 c2 c3 c4 c5 c6 c7 c8 c9 c10; have e1 := hw1.cell HC.out.1; have e2 := hw1.cell HC.out.2; go_simp; first | exact hK _ (za.refl _))) | apply zm rfl rfl rfl rfl); intro K hK; go_simp; apply hK; clear hK K)
    apply ze (yX []) rfl
    case h1 =>
      intro w1 hw1 hF K hK; go_simp
      go_at_call 59
      refine (cq w1 hw1).mono ?_; rintro en w' ⟨B, ys, cap, rfl, hz, hm, hk, hg'⟩; exact ⟨_, rfl, hK _ _ hg' ⟨B, ys, cap, rfl, hz, hm, hk⟩⟩
    intro v90 K hK; go_simp; apply hK; clear hK K; apply ze (yX []) rfl
    case h1 => exact vX_
    intro v91 K hK; go_simp; apply hK; clear hK K; refine zk ?_; intro w1 hw1 hF; apply hQ0; clear hQ0; simp only [List.drop_succ_cons, List.drop_zero]; obtain ⟨B, ys, cap, hv, hz, hm, hk⟩ := hF _ (List.mem_cons_self ..); subst hv; have Out := hh_ (And.intro hz (And.intro hm hk)); clear hF hz hm hk; go_wp2; go_ret; exact ⟨B, ys, cap, rfl, Out.out.1, Out.out.2.1, Out.out.2.2, hw1⟩
  case hp' => exact uH_
theorem EK (n : Int) (x : E) (xs : jw) (ag : ju) (A : Option Addr) (mm cap : Nat) (kid : Nat -> PL) (gs gx ox gw cw gi ci q0 : Nat) (tc : Value) (a : S) (B0 : Option Addr) (w : World) (hx : zJ w gx ox (.mk 10 n x xs ag A mm cap kid)) (w0 : w.cell? ⟨gw, 0, none⟩ = some (.slice a.A a.xs.length a.cap)) (i0 : w.cell? ⟨gi, 0, none⟩ = some (.slice B0 0 q0)) (cq : ∀ W, za w W -> Calls Tryz.prog 63 #[.slice a.A a.xs.length a.cap, .slice B0 0 q0, .func (.func 64) #[] #[]] W fun en w' => zK W w' en []) :
    Calls Tryz.prog 33 #[.pointer (some ⟨gs, 0, none⟩), .pointer (some ⟨gx, ox, none⟩), tc, .slice (some ⟨gw, 0, none⟩) 1 cw, .slice (some ⟨gi, 0, none⟩) 1 ci] w fun en w' => zK w w' en [] := by
  have Hx := hh_ hx; have HC := hh_ (And.intro w0 i0); obtain ⟨c0, c1, c2, c3, c4, c5, c6, c7, c8, c9, c10⟩ := hx; simp only [PL.k, PL.n, PL.x, PL.xs, PL.ag, PL.A, PL.m, PL.cap] at c0 c1 c2 c3 c4 c5 c6 c7 c8 c9 c10; clear w0 i0; go_enter Tryz.func33, Tryz.ntmps33; clear c1 c2 c3 c4 c5 c6 c7 c8 c9 c10; go_wp2; apply zb 8 vP_ vP_
  case h' => exact vW_
  case hp' => exact uH_
theorem EN (n : Int) (x : E) (xs : jw) (ag : ju) (A : Option Addr) (mm cap : Nat) (kid : Nat -> PL) (gs gx ox gw cw gi ci q0 : Nat) (tc : Value) (a : S) (B0 : Option Addr) (w : World) (hx : zJ w gx ox (.mk 11 n x xs ag A mm cap kid)) (w0 : w.cell? ⟨gw, 0, none⟩ = some (.slice a.A a.xs.length a.cap)) (i0 : w.cell? ⟨gi, 0, none⟩ = some (.slice B0 0 q0)) (cq : ∀ W, za w W -> Calls Tryz.prog 63 #[.slice a.A a.xs.length a.cap, .slice B0 0 q0, .func (.func 65) #[] #[]] W fun en w' => zK W w' en []) :
    Calls Tryz.prog 33 #[.pointer (some ⟨gs, 0, none⟩), .pointer (some ⟨gx, ox, none⟩), tc, .slice (some ⟨gw, 0, none⟩) 1 cw, .slice (some ⟨gi, 0, none⟩) 1 ci] w fun en w' => zK w w' en [] := by
  have Hx := hh_ hx; have HC := hh_ (And.intro w0 i0); obtain ⟨c0, c1, c2, c3, c4, c5, c6, c7, c8, c9, c10⟩ := hx; simp only [PL.k, PL.n, PL.x, PL.xs, PL.ag, PL.A, PL.m, PL.cap] at c0 c1 c2 c3 c4 c5 c6 c7 c8 c9 c10; clear w0 i0; go_enter Tryz.func33, Tryz.ntmps33; clear c1 c2 c3 c4 c5 c6 c7 c8 c9 c10; go_wp2; apply zb 8 vP_ vP_
  case h' => exact vW_
  case hp' => exact uH_
theorem EG (n : Int) (x : E) (xs : jw) (ag : ju) (A : Option Addr) (mm cap : Nat) (kid : Nat -> PL) (gs gx ox gw cw gi ci q0 : Nat) (tc : Value) (a : S) (B0 : Option Addr) (w : World) (hx : zJ w gx ox (.mk 12 n x xs ag A mm cap kid)) (w0 : w.cell? ⟨gw, 0, none⟩ = some (.slice a.A a.xs.length a.cap)) (i0 : w.cell? ⟨gi, 0, none⟩ = some (.slice B0 0 q0)) (cq : ∀ W, za w W -> Calls Tryz.prog 66 #[.pointer (some ⟨gx, ox, none⟩), .slice a.A a.xs.length a.cap, .slice B0 0 q0] W fun en w' => zK W w' en []) :
    Calls Tryz.prog 33 #[.pointer (some ⟨gs, 0, none⟩), .pointer (some ⟨gx, ox, none⟩), tc, .slice (some ⟨gw, 0, none⟩) 1 cw, .slice (some ⟨gi, 0, none⟩) 1 ci] w fun en w' => zK w w' en [] := by
  have Hx := hh_ hx; have HC := hh_ (And.intro w0 i0); obtain ⟨c0, c1, c2, c3, c4, c5, c6, c7, c8, c9, c10⟩ := hx; simp only [PL.k, PL.n, PL.x, PL.xs, PL.ag, PL.A, PL.m, PL.cap] at c0 c1 c2 c3 c4 c5 c6 c7 c8 c9 c10; clear w0 i0; go_enter Tryz.func33, Tryz.ntmps33; clear c1 c2 c3 c4 c5 c6 c7 c8 c9 c10; go_wp2; apply zb 9 vP_ vP_
  case h' =>
    intro Q0 hQ0; simp only [List.take_succ_cons, List.take_zero]
    repeat ((first | ((first | apply zh rfl | apply zo rfl rfl rfl); case h1 => (intro w1 hw1 hF K hK; obtain ⟨c0, c1, c2, c3, c4, c5, c6, c7, c8, c9, c10⟩ := Hx.out.grow hw1; simp only [PL.k, PL.n, PL.x, PL.xs, PL.ag, PL.A, PL.m, PL.cap] at c0 c1 c2 c3 c4 c5 c6 c7 c8 c9 c10; have e1 := hw1.cell HC.out.1; have e2 := hw1.cell HC.out.2; go_simp; first | exact hK _ (za.refl _))) | apply zm rfl rfl rfl rfl); intro K hK; go_simp; apply hK; clear hK K)
    apply ze (yX []) rfl
    case h1 =>
      intro w1 hw1 hF K hK; go_simp
      go_at_call 66
      refine (cq w1 hw1).mono ?_; rintro en w' ⟨B, ys, cap, rfl, hz, hm, hk, hg'⟩; exact ⟨_, rfl, hK _ _ hg' ⟨B, ys, cap, rfl, hz, hm, hk⟩⟩
    intro v90 K hK; go_simp; apply hK; clear hK K; apply ze (yX []) rfl
    case h1 => exact vX_
    intro v91 K hK; go_simp; apply hK; clear hK K; refine zk ?_; intro w1 hw1 hF; apply hQ0; clear hQ0; simp only [List.drop_succ_cons, List.drop_zero]; obtain ⟨B, ys, cap, hv, hz, hm, hk⟩ := hF _ (List.mem_cons_self ..); subst hv; have Out := hh_ (And.intro hz (And.intro hm hk)); clear hF hz hm hk; go_wp2; go_ret; exact ⟨B, ys, cap, rfl, Out.out.1, Out.out.2.1, Out.out.2.2, hw1⟩
  case hp' => exact uH_
theorem EP (n : Int) (x : E) (xs : jw) (ag : ju) (A : Option Addr) (mm cap : Nat) (kid : Nat -> PL) (gs gx ox gw cw gi ci q0 : Nat) (tc : Value) (a : S) (B0 : Option Addr) (w : World) (hx : zJ w gx ox (.mk 13 n x xs ag A mm cap kid)) (w0 : w.cell? ⟨gw, 0, none⟩ = some (.slice a.A a.xs.length a.cap)) (i0 : w.cell? ⟨gi, 0, none⟩ = some (.slice B0 0 q0)) (ha : In w a) (k0 : zN B0 0 q0) (sok : yP (a.xs ++ [])) (R : List Z) (ct : ∀ (B : Option Addr) (ys : List I) (cap : Nat) W, za w W -> yI W B ys -> zN B ys.length cap -> ys.map zp = zW (a.z ++ []) -> Calls Tryz.prog 67 #[.pointer (some ⟨gx, ox, none⟩), .slice a.A a.xs.length a.cap, .slice B ys.length cap] W fun en w' => zK W w' en R) :
    Calls Tryz.prog 33 #[.pointer (some ⟨gs, 0, none⟩), .pointer (some ⟨gx, ox, none⟩), tc, .slice (some ⟨gw, 0, none⟩) 1 cw, .slice (some ⟨gi, 0, none⟩) 1 ci] w fun en w' => zK w w' en R := by
  have Hx := hh_ hx; have HC := hh_ (And.intro w0 i0); obtain ⟨c0, c1, c2, c3, c4, c5, c6, c7, c8, c9, c10⟩ := hx; simp only [PL.k, PL.n, PL.x, PL.xs, PL.ag, PL.A, PL.m, PL.cap] at c0 c1 c2 c3 c4 c5 c6 c7 c8 c9 c10; clear w0 i0; have HA := hh_ ha; have CT := hh_ ct; clear ha ct; go_enter Tryz.func33, Tryz.ntmps33; clear c1 c2 c3 c4 c5 c6 c7 c8 c9 c10; go_wp2; apply zb 14 vP_ vP_
  case h' =>
    intro Q0 hQ0; simp only [List.take_succ_cons, List.take_zero]
    repeat ((first | ((first | apply zh rfl | apply zo rfl rfl rfl); case h1 => (intro w1 hw1 hF K hK; obtain ⟨c0, c1, c2, c3, c4, c5, c6, c7, c8, c9, c10⟩ := Hx.out.grow hw1; simp only [PL.k, PL.n, PL.x, PL.xs, PL.ag, PL.A, PL.m, PL.cap] at c0 c1 c2 c3 c4 c5 c6 c7 c8 c9 c10; have e1 := hw1.cell HC.out.1; have e2 := hw1.cell HC.out.2; go_simp; first | exact hK _ (za.refl _))) | apply zm rfl rfl rfl rfl); intro K hK; go_simp; apply hK; clear hK K)
    apply ze (S0 a ⟨B0, [], q0⟩) rfl
    case h1 => exact vY_
    intro v92 K hK; go_simp; apply hK; clear hK K; apply ze (yX (zW (a.z ++ []))) rfl
    case h1 =>
      intro w1 hw1 hF K hK; obtain ⟨g, e, hb⟩ := hF _ (List.mem_cons_self ..) ⟨_, rfl, by decide⟩; subst e; go_simp
      go_at_call 60
      refine (qL a ⟨B0, [], q0⟩ g _ w1 hb (HA.out.z.grow hw1) (zu _ _) HA.out.sl k0 sok).mono ?_; rintro en w' ⟨B, ys, cap, rfl, hz, hm, hk, hg'⟩; exact ⟨_, rfl, hK _ _ hg' ⟨B, ys, cap, rfl, hz, hm, hk⟩⟩
    intro v90 K hK; go_simp; apply hK; clear hK K; apply ze (yX R) rfl
    case h1 =>
      intro w1 hw1 hF K hK; obtain ⟨B9, ys9, cap9, hv9, hz9, hm9, hk9⟩ := hF _ (List.mem_cons_self ..) ⟨_, rfl, by decide⟩; subst hv9; go_simp
      go_at_call 67
      refine (CT.out B9 ys9 cap9 w1 hw1 hz9 hk9 hm9).mono ?_; rintro en w' ⟨B, ys, cap, rfl, hz, hm, hk, hg'⟩; exact ⟨_, rfl, hK _ _ hg' ⟨B, ys, cap, rfl, hz, hm, hk⟩⟩
    intro v90 K hK; go_simp; apply hK; clear hK K; apply ze (yX R) rfl
    case h1 => exact vX_
    intro v91 K hK; go_simp; apply hK; clear hK K; refine zk ?_; intro w1 hw1 hF; apply hQ0; clear hQ0; simp only [List.drop_succ_cons, List.drop_zero]; obtain ⟨B, ys, cap, hv, hz, hm, hk⟩ := hF _ (List.mem_cons_self ..); subst hv; have Out := hh_ (And.intro hz (And.intro hm hk)); clear hF hz hm hk; go_wp2; go_ret; exact ⟨B, ys, cap, rfl, Out.out.1, Out.out.2.1, Out.out.2.2, hw1⟩
  case hp' => exact ⟨S0.pers _ _, yX.pers _, yX.pers _, yX.pers _, trivial⟩
theorem EU (n : Int) (x : E) (xs : jw) (ag : ju) (A : Option Addr) (mm cap : Nat) (kid : Nat -> PL) (gs gx ox gw cw gi ci q0 q1 : Nat) (tc : Value) (a : S) (B0 : Option Addr) (b : S) (B1 : Option Addr) (w : World) (hx : zJ w gx ox (.mk 9 n x xs ag A mm cap kid)) (w0 : w.cell? ⟨gw, 0, none⟩ = some (.slice a.A a.xs.length a.cap)) (i0 : w.cell? ⟨gi, 0, none⟩ = some (.slice B0 0 q0)) (w1 : w.cell? ⟨gw, 1, none⟩ = some (.slice b.A b.xs.length b.cap)) (i1 : w.cell? ⟨gi, 1, none⟩ = some (.slice B1 0 q1)) (k0 : zN B0 0 q0) (k1 : zN B1 0 q1) :
    Calls Tryz.prog 33 #[.pointer (some ⟨gs, 0, none⟩), .pointer (some ⟨gx, ox, none⟩), tc, .slice (some ⟨gw, 0, none⟩) 2 cw, .slice (some ⟨gi, 0, none⟩) 2 ci] w fun en w' => zK w w' en [] := by
  have Hx := hh_ hx; have HC := hh_ (And.intro w0 i0); have HD := hh_ (And.intro w1 i1); obtain ⟨c0, c1, c2, c3, c4, c5, c6, c7, c8, c9, c10⟩ := hx; simp only [PL.k, PL.n, PL.x, PL.xs, PL.ag, PL.A, PL.m, PL.cap] at c0 c1 c2 c3 c4 c5 c6 c7 c8 c9 c10; clear w0 i0 w1 i1; go_enter Tryz.func33, Tryz.ntmps33; clear c1 c2 c3 c4 c5 c6 c7 c8 c9 c10; go_wp2; apply zb 10 vP_ vP_
  case h' =>
    intro Q0 hQ0; simp only [List.take_succ_cons, List.take_zero]
    repeat ((first | ((first | apply zh rfl | apply zo rfl rfl rfl); case h1 => (intro w1 hw1 hF K hK; obtain ⟨c0, c1, c2, c3, c4, c5, c6, c7, c8, c9, c10⟩ := Hx.out.grow hw1; simp only [PL.k, PL.n, PL.x, PL.xs, PL.ag, PL.A, PL.m, PL.cap] at c0 c1 c2 c3 c4 c5 c6 c7 c8 c9 c10; have e1 := hw1.cell HC.out.1; have e2 := hw1.cell HC.out.2; have e3 := hw1.cell HD.out.1; have e4 := hw1.cell HD.out.2; go_simp; first | exact hK _ (za.refl _))) | apply zm rfl rfl rfl rfl); intro K hK; go_simp; apply hK; clear hK K)
    apply ze (yX []) rfl
    case h1 =>
      intro w1 hw1 hF K hK; go_simp
      go_at_call 62
      refine (Mk B1 q1 w1).mono ?_; rintro en w' ⟨B, ys, cap, rfl, hz, hm, hk, hg'⟩; exact ⟨_, rfl, hK _ _ hg' ⟨B, ys, cap, rfl, hz, hm, hk⟩⟩
    intro v90 K hK; go_simp; apply hK; clear hK K; apply ze (Et) rfl
    case h1 =>
      intro w1 hw1 hF K hK; obtain ⟨B3, c3, hv3, k3⟩ := yX.none (hF _ (List.mem_cons_self ..) ⟨_, rfl, by decide⟩); subst hv3; go_simp; exact hK _ _ ((za.refl _).al _) ⟨_, _, _, _, _, rfl, zc.new _ _ _, k0, k3⟩
    intro v92 K hK; go_simp; apply hK; clear hK K; apply ze (yX []) rfl
    case h1 => exact um_
    intro v90 K hK; go_simp; apply hK; clear hK K; apply ze (yX []) rfl
    case h1 => exact vX_
    intro v91 K hK; go_simp; apply hK; clear hK K; refine zk ?_; intro w1 hw1 hF; apply hQ0; clear hQ0; simp only [List.drop_succ_cons, List.drop_zero]; obtain ⟨B, ys, cap, hv, hz, hm, hk⟩ := hF _ (List.mem_cons_self ..); subst hv; have Out := hh_ (And.intro hz (And.intro hm hk)); clear hF hz hm hk; go_wp2; go_ret; exact ⟨B, ys, cap, rfl, Out.out.1, Out.out.2.1, Out.out.2.2, hw1⟩
  case hp' => exact ⟨yX.pers _, Et.pers, yX.pers _, yX.pers _, trivial⟩
def FD (v : Value) (W : World) : Prop := ∃ (g c d f : Nat) (A B C : Option Addr), v = .slice (some ⟨g, 0, none⟩) 3 3 /\ zc W g 34 #[.slice A 0 c, .slice B 0 d, .slice C 0 f] /\ zN A 0 c /\ zN B 0 d /\ zN C 0 f
theorem FD.pers : qT FD := fun v w w' hg ⟨g, c, d, f, A, B, C, e, h, k⟩ => ⟨g, c, d, f, A, B, C, e, h.grow hg, k⟩
theorem Nm (A B C : Option Addr) (c d f g : Nat) (t : TypeId) (w : World) (hb : zc w g t #[.slice A 0 c, .slice B 0 d, .slice C 0 f]) (k1 : zN A 0 c) (k2 : zN B 0 d) (k3 : zN C 0 f) :
    Calls Tryz.prog 60 #[.slice (some ⟨g, 0, none⟩) 3 3] w fun en w' => zK w w' en [] := by
  have h := LQ [⟨A, [], c⟩, ⟨B, [], d⟩, ⟨C, [], f⟩] (some ⟨g, 0, none⟩) 3 w vV_ (D9 (a := ⟨A, [], c⟩) (b := ⟨B, [], d⟩) (c := ⟨C, [], f⟩) hb (zu _ _) (zu _ _) (zu _ _)) (fun s hs => by
    rcases List.mem_cons.1 hs with rfl | hs
    · exact k1
    · rcases List.mem_cons.1 hs with rfl | hs
      · exact k2
      · simp at hs; subst hs; exact k3) yP.nil
  exact h
theorem EH (n : Int) (x : E) (xs : jw) (ag : ju) (A : Option Addr) (mm cap : Nat) (kid : Nat -> PL) (gs gx ox gw cw gi ci q0 q1 : Nat) (tc : Value) (a : S) (B0 : Option Addr) (b : S) (B1 : Option Addr) (w : World) (hx : zJ w gx ox (.mk 4 n x xs ag A mm cap kid)) (w0 : w.cell? ⟨gw, 0, none⟩ = some (.slice a.A a.xs.length a.cap)) (i0 : w.cell? ⟨gi, 0, none⟩ = some (.slice B0 0 q0)) (w1 : w.cell? ⟨gw, 1, none⟩ = some (.slice b.A b.xs.length b.cap)) (i1 : w.cell? ⟨gi, 1, none⟩ = some (.slice B1 0 q1)) (j1 : ∀ W, za w W -> Calls Tryz.prog 61 #[.pointer (some ⟨gx, ox + 2, none⟩), .slice B0 0 q0, .slice b.A b.xs.length b.cap] W fun en w' => zK W w' en []) (j2 : ∀ W, za w W -> Calls Tryz.prog 61 #[.pointer (some ⟨gx, ox + 2, none⟩), .slice a.A a.xs.length a.cap, .slice B1 0 q1] W fun en w' => zK W w' en []) (j3 : ∀ W, za w W -> Calls Tryz.prog 61 #[.pointer (some ⟨gx, ox + 2, none⟩), .slice B0 0 q0, .slice B1 0 q1] W fun en w' => zK W w' en []) :
    Calls Tryz.prog 33 #[.pointer (some ⟨gs, 0, none⟩), .pointer (some ⟨gx, ox, none⟩), tc, .slice (some ⟨gw, 0, none⟩) 2 cw, .slice (some ⟨gi, 0, none⟩) 2 ci] w fun en w' => zK w w' en [] := by
  have Hx := hh_ hx; have HC := hh_ (And.intro w0 i0); have HD := hh_ (And.intro w1 i1); obtain ⟨c0, c1, c2, c3, c4, c5, c6, c7, c8, c9, c10⟩ := hx; simp only [PL.k, PL.n, PL.x, PL.xs, PL.ag, PL.A, PL.m, PL.cap] at c0 c1 c2 c3 c4 c5 c6 c7 c8 c9 c10; clear w0 i0 w1 i1; have J1 := hh_ j1; have J2 := hh_ j2; have J3 := hh_ j3; clear j1 j2 j3; go_enter Tryz.func33, Tryz.ntmps33; clear c1 c2 c3 c4 c5 c6 c7 c8 c9 c10; go_wp2; apply zb 33 vP_ vP_
  case h' =>
    intro Q0 hQ0; simp only [List.take_succ_cons, List.take_zero]
    repeat ((first | ((first | apply zh rfl | apply zo rfl rfl rfl); case h1 => (intro w1 hw1 hF K hK; obtain ⟨c0, c1, c2, c3, c4, c5, c6, c7, c8, c9, c10⟩ := Hx.out.grow hw1; simp only [PL.k, PL.n, PL.x, PL.xs, PL.ag, PL.A, PL.m, PL.cap] at c0 c1 c2 c3 c4 c5 c6 c7 c8 c9 c10; have e1 := hw1.cell HC.out.1; have e2 := hw1.cell HC.out.2; have e3 := hw1.cell HD.out.1; have e4 := hw1.cell HD.out.2; go_simp; first | exact hK _ (za.refl _))) | apply zm rfl rfl rfl rfl); intro K hK; go_simp; apply hK; clear hK K)
    apply ze (yX []) rfl
    case h1 =>
      intro w1 hw1 hF K hK; go_simp
      go_at_call 61
      refine (J1.out w1 hw1).mono ?_; rintro en w' ⟨B, ys, cap, rfl, hz, hm, hk, hg'⟩; exact ⟨_, rfl, hK _ _ hg' ⟨B, ys, cap, rfl, hz, hm, hk⟩⟩
    intro v81 K hK; go_simp; apply hK; clear hK K
    repeat ((first | ((first | apply zh rfl | apply zo rfl rfl rfl); case h1 => (intro w1 hw1 hF K hK; obtain ⟨c0, c1, c2, c3, c4, c5, c6, c7, c8, c9, c10⟩ := Hx.out.grow hw1; simp only [PL.k, PL.n, PL.x, PL.xs, PL.ag, PL.A, PL.m, PL.cap] at c0 c1 c2 c3 c4 c5 c6 c7 c8 c9 c10; have e1 := hw1.cell HC.out.1; have e2 := hw1.cell HC.out.2; have e3 := hw1.cell HD.out.1; have e4 := hw1.cell HD.out.2; go_simp; first | exact hK _ (za.refl _))) | apply zm rfl rfl rfl rfl); intro K hK; go_simp; apply hK; clear hK K)
    apply ze (yX []) rfl
    case h1 =>
      intro w1 hw1 hF K hK; go_simp
      go_at_call 61
      refine (J2.out w1 hw1).mono ?_; rintro en w' ⟨B, ys, cap, rfl, hz, hm, hk, hg'⟩; exact ⟨_, rfl, hK _ _ hg' ⟨B, ys, cap, rfl, hz, hm, hk⟩⟩
    intro v82 K hK; go_simp; apply hK; clear hK K
    repeat ((first | ((first | apply zh rfl | apply zo rfl rfl rfl); case h1 => (intro w1 hw1 hF K hK; obtain ⟨c0, c1, c2, c3, c4, c5, c6, c7, c8, c9, c10⟩ := Hx.out.grow hw1; simp only [PL.k, PL.n, PL.x, PL.xs, PL.ag, PL.A, PL.m, PL.cap] at c0 c1 c2 c3 c4 c5 c6 c7 c8 c9 c10; have e1 := hw1.cell HC.out.1; have e2 := hw1.cell HC.out.2; have e3 := hw1.cell HD.out.1; have e4 := hw1.cell HD.out.2; go_simp; first | exact hK _ (za.refl _))) | apply zm rfl rfl rfl rfl); intro K hK; go_simp; apply hK; clear hK K)
    apply ze (yX []) rfl
    case h1 =>
      intro w1 hw1 hF K hK; go_simp
      go_at_call 61
      refine (J3.out w1 hw1).mono ?_; rintro en w' ⟨B, ys, cap, rfl, hz, hm, hk, hg'⟩; exact ⟨_, rfl, hK _ _ hg' ⟨B, ys, cap, rfl, hz, hm, hk⟩⟩
    intro v83 K hK; go_simp; apply hK; clear hK K; apply ze FD rfl
    case h1 =>
      intro w1 hw1 hF K hK; obtain ⟨B3, c3, hv3, k3⟩ := yX.none (hF _ (List.mem_cons_self ..) ⟨_, rfl, by decide⟩); obtain ⟨B4, c4, hv4, k4⟩ := yX.none (hF _ (List.mem_cons_of_mem _ (List.mem_cons_self ..)) ⟨_, rfl, by decide⟩); obtain ⟨B5, c5, hv5, k5⟩ := yX.none (hF _ (List.mem_cons_of_mem _ (List.mem_cons_of_mem _ (List.mem_cons_self ..))) ⟨_, rfl, by decide⟩); subst hv3 hv4 hv5; go_simp; exact hK _ _ ((za.refl _).al _) ⟨_, _, _, _, _, _, _, rfl, zc.new _ _ _, k5, k4, k3⟩
    intro v92 K hK; go_simp; apply hK; clear hK K; apply ze (yX []) rfl
    case h1 =>
      intro w1 hw1 hF K hK; obtain ⟨g, c6, d6, f6, A6, B6, C6, e, hb, k6, k7, k8⟩ := hF _ (List.mem_cons_self ..) ⟨_, rfl, by decide⟩; subst e; go_simp
      go_at_call 60
      refine (Nm A6 B6 C6 c6 d6 f6 g _ w1 hb k6 k7 k8).mono ?_; rintro en w' ⟨B, ys, cap, rfl, hz, hm, hk, hg'⟩; exact ⟨_, rfl, hK _ _ hg' ⟨B, ys, cap, rfl, hz, hm, hk⟩⟩
    intro v90 K hK; go_simp; apply hK; clear hK K; apply ze (yX []) rfl
    case h1 => exact vX_
    intro v91 K hK; go_simp; apply hK; clear hK K; refine zk ?_; intro w1 hw1 hF; apply hQ0; clear hQ0; simp only [List.drop_succ_cons, List.drop_zero]; obtain ⟨B, ys, cap, hv, hz, hm, hk⟩ := hF _ (List.mem_cons_self ..); subst hv; have Out := hh_ (And.intro hz (And.intro hm hk)); clear hF hz hm hk; go_wp2; go_ret; exact ⟨B, ys, cap, rfl, Out.out.1, Out.out.2.1, Out.out.2.2, hw1⟩
  case hp' => exact ⟨yX.pers _, yX.pers _, yX.pers _, FD.pers, yX.pers _, yX.pers _, trivial⟩
theorem Cp (n : Int) (x : E) (xs : jw) (ag : ju) (A : Option Addr) (mm cap : Nat) (kid : Nat -> PL) (gs gx ox gi ci : Nat) (tc tw : Value) (s t : S) (w : World) (hx : zJ w gx ox (.mk 8 n x xs ag A mm cap kid)) (i0 : w.cell? ⟨gi, 0, none⟩ = some (.slice s.A s.xs.length s.cap)) (i1 : w.cell? ⟨gi, 1, none⟩ = some (.slice t.A t.xs.length t.cap)) (hs : In w s) (ht : In w t) (sok : yP (s.xs ++ t.xs)) :
    Calls Tryz.prog 33 #[.pointer (some ⟨gs, 0, none⟩), .pointer (some ⟨gx, ox, none⟩), tc, tw, .slice (some ⟨gi, 0, none⟩) 2 ci] w fun en w' => zK w w' en (zW (s.z ++ t.z)) := by
  have HC := hh_ (And.intro i0 i1); have HS := hh_ (And.intro hs ht); obtain ⟨c0, c1, c2, c3, c4, c5, c6, c7, c8, c9, c10⟩ := hx; simp only [PL.k] at c0; clear i0 i1 hs ht; go_enter Tryz.func33, Tryz.ntmps33; clear c1 c2 c3 c4 c5 c6 c7 c8 c9 c10; go_wp2; apply zb 9 vP_ vP_
  case h' =>
    intro Q0 hQ0; simp only [List.take_succ_cons, List.take_zero]
    repeat ((first | ((first | apply zh rfl | apply zo rfl rfl rfl); case h1 => (intro w1 hw1 hF K hK; have e1 := hw1.cell HC.out.1; have e2 := hw1.cell HC.out.2; go_simp; first | exact hK _ (za.refl _))) | apply zm rfl rfl rfl rfl); intro K hK; go_simp; apply hK; clear hK K)
    apply ze (S0 s t) rfl
    case h1 => exact vY_
    intro v92 K hK; go_simp; apply hK; clear hK K; apply ze (yX (zW (s.z ++ t.z))) rfl
    case h1 =>
      intro w1 hw1 hF K hK; obtain ⟨g, e, hb⟩ := hF _ (List.mem_cons_self ..) ⟨_, rfl, by decide⟩; subst e; go_simp
      go_at_call 60
      refine (qL s t g _ w1 hb (HS.out.1.z.grow hw1) (HS.out.2.z.grow hw1) HS.out.1.sl HS.out.2.sl sok).mono ?_; rintro en w' ⟨B, ys, cap, rfl, hz, hm, hk, hg'⟩; exact ⟨_, rfl, hK _ _ hg' ⟨B, ys, cap, rfl, hz, hm, hk⟩⟩
    intro v90 K hK; go_simp; apply hK; clear hK K; apply ze (yX (zW (s.z ++ t.z))) rfl
    case h1 => exact vX_
    intro v91 K hK; go_simp; apply hK; clear hK K; refine zk ?_; intro w1 hw1 hF; apply hQ0; clear hQ0; simp only [List.drop_succ_cons, List.drop_zero]; obtain ⟨B, ys, cap, hv, hz, hm, hk⟩ := hF _ (List.mem_cons_self ..); subst hv; have Out := hh_ (And.intro hz (And.intro hm hk)); clear hF hz hm hk; go_wp2; go_ret; exact ⟨B, ys, cap, rfl, Out.out.1, Out.out.2.1, Out.out.2.2, hw1⟩
  case hp' => exact ⟨S0.pers _ _, yX.pers _, yX.pers _, trivial⟩
theorem EO (k : Int) (hk : k = 5 \/ k = 6 \/ k = 7) (n : Int) (x : E) (xs : jw) (ag : ju) (A : Option Addr) (mm cap : Nat) (kid : Nat -> PL) (gs gx ox gc cc lc : Nat) (c : L2 Int) (tw ti : Value) (w : World) (hx : zJ w gx ox (.mk k n x xs ag A mm cap kid)) (hc : w.cell? ⟨gc, 1, none⟩ = some (.slice c.A c.xs.length c.cap))
    (cq : ∀ W, za w W -> Calls Tryz.prog 68 #[.pointer (some ⟨gx, ox, none⟩), .int .i64 c.xs.length, tw, ti] W fun en w' => zK W w' en []) :
    Calls Tryz.prog 33 #[.pointer (some ⟨gs, 0, none⟩), .pointer (some ⟨gx, ox, none⟩), .slice (some ⟨gc, 0, none⟩) 2 cc, tw, ti] w fun en w' => zK w w' en [] := by
  have CQ := hh_ cq; have c0 := hx.c0; simp only [PL.k] at c0; clear cq hx; go_enter Tryz.func33, Tryz.ntmps33; rcases hk with rfl | rfl | rfl
  all_goals
    go_wp2_with (go_at_call 68; ((with_reducible refine (CQ.out _ (za.refl _)).mono ?_); rintro en w4 ⟨B, ys, cap9, rfl, hz, hm, hk, hg⟩; have Out := hh_ (And.intro hz (And.intro hm hk)); clear hz hm hk))
    go_ret; exact ⟨B, ys, cap9, rfl, Out.out.1, Out.out.2.1, Out.out.2.2, hg⟩
