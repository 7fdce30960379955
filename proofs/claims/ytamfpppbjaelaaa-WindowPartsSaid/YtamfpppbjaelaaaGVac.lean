/-
  Joined texts of this claim: LawW0. What each proves its own head says; no condition beside those that each theorem names.
-/
import Derived.Test.YtamfpppbjaelaaaGVab
import Derived.Test.YtamfpppbjaelaaaGR
import Derived.Test.YtamfpppbjaelaaaGVc
set_option maxRecDepth 100000
set_option maxHeartbeats 8000000
namespace Go.Proofs.Ytamfpppbjaelaaa
open Go.RowKit Go.Calm
set_option linter.unusedSimpArgs false
set_option linter.unusedVariables false
def w15 : List Ag := [⟨1, .leaf⟩, ⟨2, .leaf⟩]
def z15 : List Z := [([nV' 5], 2), ([nV' 7], 1)]
def o15 : List Z := [([nV' 5, nV' 1, nV' 1], 1), ([nV' 5, nV' 2, nV' 1], 1), ([nV' 7, nV' 3, nV' 3], 1)]
def pwB {α : Type} (f : α → α → Bool) : List α → Bool
  | [] => true
  | x :: l => l.all (f x) && pwB f l
theorem pwB_of {α : Type} {f : α → α → Bool} : ∀ {l : List α}, pwB f l = true → l.Pairwise (fun a b => f a b = true)
  | [], _ => List.Pairwise.nil
  | x :: l, h => by
    unfold pwB at h
    rw [Bool.and_eq_true, List.all_eq_true] at h
    exact List.pairwise_cons.2 ⟨h.1, pwB_of h.2⟩
theorem up15 : pwB (fun a b : Z => decide (ordR a.1 b.1 < 0)) z15 = true := by kernel_rfl
theorem lu15 : pwB (fun a b => decide (cmpW [] [colK 0] a b ≤ 0)) (expZ z15) = true := by kernel_rfl
theorem ex15 : expZ z15 = [[nV' 5], [nV' 5], [nV' 7]] := by kernel_rfl
theorem lines15 : linesW [] [colK 0] z15 = [[nV' 5], [nV' 5], [nV' 7]] :=
  (linesW_eq ((pwB_of up15).imp (fun h => by simpa using h)) (List.Perm.refl _) ((pwB_of lu15).imp (fun h => by simpa using h))).symm.trans ex15
theorem t15 : toldW [] [colK 0] w15 [] [[nV' 5], [nV' 5], [nV' 7]] = [[nV' 5, nV' 1, nV' 1], [nV' 5, nV' 2, nV' 1], [nV' 7, nV' 3, nV' 3]] := by kernel_rfl
theorem s15 : sumZ [([nV' 5, nV' 1, nV' 1], 1), ([nV' 5, nV' 2, nV' 1], 1), ([nV' 7, nV' 3, nV' 3], 1)] = (o15, 0) := by kernel_rfl
theorem k15 : (typesE [3] [colK 0]).2 = 0 ∧ winsE [3] w15 = 0 ∧ inputE [3] z15 = 0 := ⟨by kernel_rfl, by kernel_rfl, by kernel_rfl⟩
theorem val15 : winZ [3] [] [colK 0] w15 z15 = (o15, 0) := by
  unfold winZ
  rw [if_neg (by decide), if_neg (by decide), if_neg (by rw [k15.1]; simp), if_neg (by rw [k15.2.1]; simp), if_neg (by rw [k15.2.2]; simp), if_neg (by unfold cntZ; rw [ex15]; decide), lines15, t15]
  exact s15
theorem col15_any (j : Int) (w : World) : Calls Try.prog 9 #[.int .i64 j] w fun en w' => en = .returned (colK j).val ∧ Grow w w' := by
  go_enter Try.func9, Try.ntmps9
  go_wp2
  exact bodyPost_ret (v := (colK j).val) (by simp [results, Try.results9, go_sem, colK, E.val, E.kind, E.v, E.col, E.A, E.n, E.cap, zV]) rfl ⟨rfl, growW⟩
theorem num15_any (n : Int) (w : World) : Calls Try.prog 17 #[.int .i64 n] w fun e w' => e = .returned (nV' n).val ∧ Grow w w' := by
  go_enter Try.func17, Try.ntmps17
  go_wp2
  exact bodyPost_ret (by simp [results, Try.results17, go_sem, nV']) rfl ⟨rfl, growW⟩
theorem map_three {ys : List I} {r q s : List V} {n m k : Int} (h : ys.map zOf = [(r, n), (q, m), (s, k)]) : ∃ x y z, ys = [x, y, z] ∧ y.row = q ∧ z.row = s := by
  match ys, h with
  | [x, y, z], h =>
    simp [zOf] at h
    exact ⟨x, y, z, rfl, h.2.1.1, h.2.2.1⟩
abbrev y15 (g1 g2 : Nat) : List I := [⟨some ⟨g1, 0, none⟩, [nV' 5], 1, 2⟩, ⟨some ⟨g2, 0, none⟩, [nV' 7], 1, 1⟩]
theorem alive15 (w : World) : Calls Try.prog 7 #[] w fun e w' => e = .returned (.bool true) ∧ Grow w w' := by
  go_enter Try.func7, Try.ntmps7
  go_upto_region 2 with (first
    | (go_at_call 17; ((with_reducible refine (num15_any 5 _).mono ?_); rintro e w2 ⟨rfl, hg2⟩))
    | (go_at_call 17; ((with_reducible refine (num15_any 7 _).mono ?_); rintro e w3 ⟨rfl, hg3⟩)))
  have d1 : DV (w2.alloc (.cells #[.int .i64 (nV' 5).k, .int .i64 (nV' 5).n, .string (nV' 5).s] 30)) w2.heap.size [nV' 5] := Blk.new _ _ _
  have d2 : DV (w3.alloc (.cells #[.int .i64 (nV' 7).k, .int .i64 (nV' 7).n, .string (nV' 7).s] 30)) w3.heap.size [nV' 7] := Blk.new _ _ _
  refine wp_forget (fun X => DV X w2.heap.size [nV' 5] ∧ DV X w3.heap.size [nV' 7] ∧ DB X (w3.heap.size + 1) (y15 w2.heap.size w3.heap.size) ∧ Grow w X) ⟨d1.grow ((hg3.al _).al _), d2.grow ((Grow.refl _).al _), Blk.new' _ _ _ (by simp), ((((hg2.al _).trans hg3).al _).al _)⟩ ?_
  generalize w2.heap.size = g1
  generalize w3.heap.size + 1 = g3
  generalize w3.heap.size = g2
  clear d1 d2 hg3 hg2
  rintro X ⟨d1, d2, d3, G⟩
  have hz : In X ⟨some ⟨g3, 0, none⟩, y15 g1 g2, 2⟩ := ⟨zin_db d3 (fun x hx => by simp [y15] at hx; rcases hx with rfl | rfl; exact d1.vsl; exact d2.vsl), ⟨by simp [y15], by simp⟩, by simp [y15], fun x hx => by simp [y15] at hx; rcases hx with rfl | rfl <;> simp⟩
  have cw : ∀ W gc go gw, Grow X W → Blk W gc 3 #[.int .i64 3] → Blk W go 32 #[.int .i64 (colK 0).kind, .int .i64 (colK 0).v.k, .int .i64 (colK 0).v.n, .string (colK 0).v.s, .int .i64 (colK 0).col, .slice (colK 0).A (colK 0).n (colK 0).cap] → Blk W gw 34 #[.int .i64 1, .int .i64 0, .int .i64 0, .int .i64 0, .string ⟨#[]⟩, .int .i64 0, .slice none 0 0, .int .i64 2, .int .i64 0, .int .i64 0, .int .i64 0, .string ⟨#[]⟩, .int .i64 0, .slice none 0 0] → Calls Try.prog 8 #[.slice (some ⟨gc, 0, none⟩) 1 1, .slice none 0 0, .slice (some ⟨go, 0, none⟩) 1 1, .slice (some ⟨gw, 0, none⟩) 2 2, .slice (some ⟨g3, 0, none⟩) 2 2] W fun en w' => Gives W w' en (o15, 0) := fun W gc go gw h b1 b2 b3 => by
    have := window_any [3] (some ⟨gc, 0, none⟩) 1 [] none 0 [colK 0] (some ⟨go, 0, none⟩) 1 w15 (some ⟨gw, 0, none⟩) 2 (y15 g1 g2) (some ⟨g3, 0, none⟩) 2 W (by simp) (by simp) (by simp) (by simp [w15]) (fun i x hx => by
      match i, hx with
      | 0, hx => simp at hx; subst hx; exact ⟨gc, 0, rfl, b1.cells rfl⟩) (fun i x hx => by simp at hx) (fun i x hx => by
      match i, hx with
      | 0, hx => simp at hx; subst hx; exact ⟨go, 0, rfl, ⟨b2.cells rfl, b2.cells rfl, b2.cells rfl, b2.cells rfl, b2.cells rfl, b2.cells rfl⟩, ex_col _ _ ⟨by decide, by decide⟩⟩) (fun i x hx => by
      match i, hx with
      | 0, hx => simp [w15] at hx; subst hx; exact ⟨gw, 0, rfl, ⟨b3.cells rfl, b3.cells rfl, b3.cells rfl, b3.cells rfl, b3.cells rfl, b3.cells rfl, b3.cells rfl⟩, .leaf⟩
      | 1, hx => simp [w15] at hx; subst hx; exact ⟨gw, 0, rfl, ⟨b3.cells rfl, b3.cells rfl, b3.cells rfl, b3.cells rfl, b3.cells rfl, b3.cells rfl, b3.cells rfl⟩, .leaf⟩) (hz.grow h)
    rw [show (y15 g1 g2).map zOf = z15 from rfl, val15] at this
    exact this
  have CW := Lib.hid cw
  clear d1 d2 d3 hz cw
  go_upto_region 3 with (first
    | (go_at_call 9; ((with_reducible refine (col15_any 0 _).mono ?_); rintro e w4 ⟨rfl, hg4⟩))
    | (go_at_call 8; ((with_reducible refine (CW.out _ _ _ _ (((((Grow.refl X).al _).trans hg4).al _).al _) ((((Blk.new X _ _).grow hg4).al _).al _) ((Blk.new w4 _ _).al _) (Blk.new' _ _ _ (by simp))).mono ?_); rintro e w5 ⟨B, ys, cap, rfl, hz, hm, hk, hg5⟩)))
  have G5 : Grow X w5 := ((((((Grow.refl X).al _).trans hg4).al _).al _).trans hg5)
  obtain ⟨x, y, z, rfl, hy, hz3⟩ := map_three hm
  obtain ⟨gy, oy, rfl, c1, _, v1⟩ := hz 1 y rfl
  obtain ⟨_, _, e2, c2, _, v2⟩ := hz 2 z rfl
  simp only [Option.some.injEq, Addr.mk.injEq, and_true] at e2
  obtain ⟨rfl, rfl⟩ := e2
  rw [hy] at c1 v1
  rw [hz3] at c2 v2
  obtain ⟨ga, oa, ea, a1, a2, a3⟩ := v1 1 _ rfl
  obtain ⟨_, _, eb, b1, b2, b3⟩ := v1 2 _ rfl
  obtain ⟨gd, od, ed, d1, d2, d3⟩ := v2 2 _ rfl
  rw [ea] at c1 eb
  rw [ed] at c2
  simp only [Option.some.injEq, Addr.mk.injEq, and_true] at eb
  obtain ⟨rfl, rfl⟩ := eb
  have A1 := Lib.hid c1
  have A2 := Lib.hid c2
  have A3 := Lib.hid (And.intro a1 (And.intro a2 a3))
  have A4 := Lib.hid (And.intro b1 (And.intro b2 b3))
  have A5 := Lib.hid (And.intro d1 (And.intro d2 d3))
  clear hz hm hk hy hz3 c1 c2 v1 v2 ea ed a1 a2 a3 b1 b2 b3 d1 d2 d3 hg4 hg5
  apply wp_region_calm 38 (by kernel_rfl) (by kernel_rfl)
  case h' =>
    intro Q0 hQ0
    simp only [List.take_succ_cons, List.take_zero]
    repeat ((first | ((first | apply calm_p rfl | apply calm_y rfl rfl rfl); case h1 => (intro w1 hw1 hF K hK; have a1 := hw1.cell A1.out; have a2 := hw1.cell A2.out; have a3 := hw1.cell A3.out.1; have a4 := hw1.cell A3.out.2.1; have a5 := hw1.cell A3.out.2.2; have b1 := hw1.cell A4.out.1; have b2 := hw1.cell A4.out.2.1; have b3 := hw1.cell A4.out.2.2; have d1 := hw1.cell A5.out.1; have d2 := hw1.cell A5.out.2.1; have d3 := hw1.cell A5.out.2.2; go_simp; first | exact hK _ (Grow.refl _) | (go_at_call 17; ((with_reducible refine (num15_any _ w1).mono ?_); rintro e w' ⟨rfl, hg⟩; exact ⟨_, rfl, hK _ hg⟩)))) | apply calm_n rfl rfl rfl rfl); intro K hK; go_simp; apply hK; clear hK K)
    refine calm_nil ?_
    intro w1 hw1 hF
    apply hQ0
    clear hQ0
    simp only [List.drop_succ_cons, List.drop_zero]
    clear hF
    go_wp2
    go_ret
    exact ret_bool (by decide) (G.trans (G5.trans hw1))
  case hp' => trivial
end Go.Proofs.Ytamfpppbjaelaaa
