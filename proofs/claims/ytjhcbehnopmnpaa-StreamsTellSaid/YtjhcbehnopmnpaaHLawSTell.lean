/-
  A text of the proof of the law StreamsTell; no condition beside the row's own.
-/
import Derived.Test.YtjhcbehnopmnpaaGO
/-
  The law StreamsTell, walked.
-/
namespace Go.Proofs.Ytjhcbehnopmnpaa
open Go.RowKit Go.Calm
set_option linter.unusedSimpArgs false
set_option linter.unusedVariables false

set_option maxRecDepth 100000 in
set_option maxHeartbeats 32000000 in
theorem law_stell (ss : List S) (A : Option Addr) (c : Nat) (w : World) (h : InS w A ss c) :
    Calls Try.prog 22 #[.slice A ss.length c] w fun en w' => en = .returned (.bool true) ∧ Grow w w' := by
  have H := Lib.hid h
  clear h
  go_enter Try.func22, Try.ntmps22
  go_upto_region 2 with fail
  refine wp_forget (fun X => Blk X w.heap.size 83 #[.func (.func 86) #[] #[], .func (.func 87) #[] #[], .func (.func 91) #[] #[]] ∧ Grow w X) ⟨Blk.new _ _ _, (Grow.refl w).al _⟩ ?_
  rintro X ⟨Bx, G⟩
  have HBx := Lib.hid Bx
  clear Bx
  go_wp2
  go_loopw [11] (fun i wr => ∃ k : Nat, k ≤ 3 ∧ i = .int .i64 k ∧ Grow X wr) (fun i _ => 3 - (intOf i).toNat)
  case atStart => exact ⟨0, by omega, rfl, Grow.refl _⟩
  case round =>
    obtain ⟨k, hk, rfl, hg⟩ := hrel
    have HG := Lib.hid (G.trans hg)
    obtain ⟨bx, fx⟩ := (HBx.out.grow hg).rules
    by_cases hlt : k < 3
    · have hk3 : k = 0 ∨ k = 1 ∨ k = 2 := by omega
      rcases hk3 with rfl | rfl | rfl
      · have c1 := fun W (h : Grow wr W) => sint_any ss A c W (H.out.grow (HG.out.trans h))
        have c2 := fun W (h : Grow wr W) => ralong_int ss A c W (H.out.grow (HG.out.trans h))
        obtain ⟨R, hR⟩ : ∃ R, alongZ Fi (ss.map S.z) = R := ⟨_, rfl⟩
        rw [hR] at c1 c2
        obtain ⟨L, e, a⟩ := R
        clear hR
        go_upto_region 5 with (go_at_call 86; ((with_reducible refine (c1 _ (Grow.refl _)).mono ?_); rintro e1 w3 ⟨B, ds, cap, rfl, hi3, hm3, hg3⟩; have Y := Lib.hid (And.intro hi3 hm3); clear hi3 hm3))
        refine wp_forget (fun Z => Blk Z w3.heap.size 81 #[.int .i64 e, .int .i64 a] ∧ Grow w3 Z) ⟨Blk.new _ _ _, (Grow.refl w3).al _⟩ ?_
        rintro Z ⟨B6, G6⟩
        have HB6 := Lib.hid B6
        clear B6 bx fx
        go_upto_region 6 with (go_at_call 92; ((refine (c2 _ (hg3.trans G6)).mono ?_); rintro e1 w5 ⟨B', es, cap', rfl, hi5, hm5, hg5⟩; have Y5 := Lib.hid (And.intro hi5 hm5); clear hi5 hm5))
        refine wp_forget (fun Z' => Blk Z' w3.heap.size 81 #[.int .i64 e, .int .i64 a] ∧ Blk Z' w5.heap.size 81 #[.int .i64 e, .int .i64 a] ∧ Grow w5 Z') ⟨(HB6.out.grow hg5).al _, Blk.new _ _ _, (Grow.refl w5).al _⟩ ?_
        rintro Z7 ⟨B7, B8, G7⟩
        obtain ⟨b7, f7⟩ := B7.rules
        obtain ⟨b8, f8⟩ := B8.rules
        have cs := same7_any ds es B B' cap cap' Z7 (Y.out.1.grow (G6.trans (hg5.trans G7))) (Y5.out.1.grow G7) (Y.out.2.trans Y5.out.2.symm)
        go_wp2_with (go_at_call 88; ((with_reducible refine cs.mono ?_); rintro e1 w8 ⟨rfl, hg8⟩))
        go_roundw
        case rel => exact ⟨1, by omega, by go_num, hg.trans (hg3.trans (G6.trans (hg5.trans (G7.trans hg8))))⟩
        case measure => simp [intOf]
      · have c1 := fun W (h : Grow wr W) => sdif_any ss A c W (H.out.grow (HG.out.trans h))
        have c2 := fun W (h : Grow wr W) => ralong_dif ss A c W (H.out.grow (HG.out.trans h))
        obtain ⟨R, hR⟩ : ∃ R, alongZ Fd (ss.map S.z) = R := ⟨_, rfl⟩
        rw [hR] at c1 c2
        obtain ⟨L, e, a⟩ := R
        clear hR
        go_upto_region 5 with (go_at_call 87; ((with_reducible refine (c1 _ (Grow.refl _)).mono ?_); rintro e1 w3 ⟨B, ds, cap, rfl, hi3, hm3, hg3⟩; have Y := Lib.hid (And.intro hi3 hm3); clear hi3 hm3))
        refine wp_forget (fun Z => Blk Z w3.heap.size 81 #[.int .i64 e, .int .i64 a] ∧ Grow w3 Z) ⟨Blk.new _ _ _, (Grow.refl w3).al _⟩ ?_
        rintro Z ⟨B6, G6⟩
        have HB6 := Lib.hid B6
        clear B6 bx fx
        go_upto_region 6 with (go_at_call 92; ((refine (c2 _ (hg3.trans G6)).mono ?_); rintro e1 w5 ⟨B', es, cap', rfl, hi5, hm5, hg5⟩; have Y5 := Lib.hid (And.intro hi5 hm5); clear hi5 hm5))
        refine wp_forget (fun Z' => Blk Z' w3.heap.size 81 #[.int .i64 e, .int .i64 a] ∧ Blk Z' w5.heap.size 81 #[.int .i64 e, .int .i64 a] ∧ Grow w5 Z') ⟨(HB6.out.grow hg5).al _, Blk.new _ _ _, (Grow.refl w5).al _⟩ ?_
        rintro Z7 ⟨B7, B8, G7⟩
        obtain ⟨b7, f7⟩ := B7.rules
        obtain ⟨b8, f8⟩ := B8.rules
        have cs := same7_any ds es B B' cap cap' Z7 (Y.out.1.grow (G6.trans (hg5.trans G7))) (Y5.out.1.grow G7) (Y.out.2.trans Y5.out.2.symm)
        go_wp2_with (go_at_call 88; ((with_reducible refine cs.mono ?_); rintro e1 w8 ⟨rfl, hg8⟩))
        go_roundw
        case rel => exact ⟨2, by omega, by go_num, hg.trans (hg3.trans (G6.trans (hg5.trans (G7.trans hg8))))⟩
        case measure => simp [intOf]
      · have c1 := fun W (h : Grow wr W) => sdel_any ss A c W (H.out.grow (HG.out.trans h))
        have c2 := fun W (h : Grow wr W) => ralong_del ss A c W (H.out.grow (HG.out.trans h))
        obtain ⟨R, hR⟩ : ∃ R, alongZ Fz (ss.map S.z) = R := ⟨_, rfl⟩
        rw [hR] at c1 c2
        obtain ⟨L, e, a⟩ := R
        clear hR
        go_upto_region 5 with (go_at_call 91; ((with_reducible refine (c1 _ (Grow.refl _)).mono ?_); rintro e1 w3 ⟨B, ds, cap, rfl, hi3, hm3, hg3⟩; have Y := Lib.hid (And.intro hi3 hm3); clear hi3 hm3))
        refine wp_forget (fun Z => Blk Z w3.heap.size 81 #[.int .i64 e, .int .i64 a] ∧ Grow w3 Z) ⟨Blk.new _ _ _, (Grow.refl w3).al _⟩ ?_
        rintro Z ⟨B6, G6⟩
        have HB6 := Lib.hid B6
        clear B6 bx fx
        go_upto_region 6 with (go_at_call 92; ((refine (c2 _ (hg3.trans G6)).mono ?_); rintro e1 w5 ⟨B', es, cap', rfl, hi5, hm5, hg5⟩; have Y5 := Lib.hid (And.intro hi5 hm5); clear hi5 hm5))
        refine wp_forget (fun Z' => Blk Z' w3.heap.size 81 #[.int .i64 e, .int .i64 a] ∧ Blk Z' w5.heap.size 81 #[.int .i64 e, .int .i64 a] ∧ Grow w5 Z') ⟨(HB6.out.grow hg5).al _, Blk.new _ _ _, (Grow.refl w5).al _⟩ ?_
        rintro Z7 ⟨B7, B8, G7⟩
        obtain ⟨b7, f7⟩ := B7.rules
        obtain ⟨b8, f8⟩ := B8.rules
        have cs := same7_any ds es B B' cap cap' Z7 (Y.out.1.grow (G6.trans (hg5.trans G7))) (Y5.out.1.grow G7) (Y.out.2.trans Y5.out.2.symm)
        go_wp2_with (go_at_call 88; ((with_reducible refine cs.mono ?_); rintro e1 w8 ⟨rfl, hg8⟩))
        go_roundw
        case rel => exact ⟨3, by omega, by go_num, hg.trans (hg3.trans (G6.trans (hg5.trans (G7.trans hg8))))⟩
        case measure => simp [intOf]
    · obtain rfl : k = 3 := by omega
      go_wp2
      go_ret
      exact ret_bool (by simp) HG.out
end Go.Proofs.Ytjhcbehnopmnpaa
