/-
 A text of the proof of the law QueryAlgebra; no condition beside the row's own.
-/
import Derived.Test.YtifpomonpneanaaGreatGQb
import Derived.Test.YtifpomonpneanaaGreatGK
import Derived.Test.YtifpomonpneanaaGreatGWb
import Derived.Test.YtifpomonpneanaaGreatGKa
namespace Go.Proofs.YtifpomonpneanaaGreat
open Go.RowKit Go.Calm
set_option linter.unusedSimpArgs false
set_option linter.unusedVariables false
abbrev tbQ (n : Int) : PL := .mk 1 n .leaf nilX nilG none 0 0 (fun _ => .leaf)
set_option maxRecDepth 100000 in
theorem table5_any (n : Int) (w : World) : Calls Tryz.prog 41 #[.int .i64 n] w fun en w' => en = .returned (tbQ n).val ∧ Grow w w' := by
 go_enter Tryz.func41, Tryz.ntmps41
 go_wp2
 refine bodyPost_ret (by simp [results, Tryz.results41, go_sem] <;> rfl) rfl ?_
 exact ⟨rfl, (by repeat (first | (with_reducible exact Grow.refl _) | (with_reducible assumption) | (with_reducible refine Grow.set ?_ (by first | (simp; done) | (simp; omega)) _) | (with_reducible refine Grow.al ?_ _) | (with_reducible refine Grow.drew ?_) | (with_reducible refine Grow.drewN ?_ _) | (with_reducible refine Grow.trans ?_ (by assumption))))⟩
set_option maxRecDepth 100000 in
theorem on5_any (k : Int) (A : Option Addr) (m cap : Nat) (kid : Nat → PL) (w : World) :
  Calls Tryz.prog 22 #[.int .i64 k, .slice A m cap] w fun en w' => en = .returned (PL.mk k 0 .leaf nilX nilG A m cap kid).val ∧ Grow w w' := by
 go_enter Tryz.func22, Tryz.ntmps22
 go_wp2
 refine bodyPost_ret (by simp [results, Tryz.results22, go_sem] <;> rfl) rfl ?_
 exact ⟨rfl, (by repeat (first | (with_reducible exact Grow.refl _) | (with_reducible assumption) | (with_reducible refine Grow.set ?_ (by first | (simp; done) | (simp; omega)) _) | (with_reducible refine Grow.al ?_ _) | (with_reducible refine Grow.drew ?_) | (with_reducible refine Grow.drewN ?_ _) | (with_reducible refine Grow.trans ?_ (by assumption))))⟩
theorem px_tb (w : World) {n : Int} (hn : inI64 n) : PX w (tbQ n) := .mk (Nat.zero_le _) (fun i hi => absurd hi (Nat.not_lt_zero _)) (fun i hi => absurd hi (Nat.not_lt_zero _)) .leaf (fun i x h => by simp at h) (fun i x h => by simp at h) ⟨by decide, by decide⟩ ⟨⟨by decide, by decide⟩, hn⟩
abbrev alvQ (gk : Nat) : PL := two2 8 0 .leaf nilX nilG gk 2 (tbQ 0) (tbQ 0)
theorem alvQ_eval (gk : Nat) : evalZ [[3]] (alvQ gk) [[([nV 7], 2)]] = ([([nV 7], 4)], 0) := by kernel_rfl
theorem slok_one {g n c : Nat} (h : n ≤ c) : SlOk (some ⟨g, 0, none⟩) n c := ⟨h, fun e => by cases e⟩
set_option maxRecDepth 100000 in
set_option maxHeartbeats 4000000 in
theorem alive5 (w : World) : Calls Tryz.prog 18 #[] w fun en w' => en = .returned (.bool true) ∧ Grow w w' := by
 have ct : ∀ (gi gt gk gv gz gs : Nat) (W : World), (Blk W gi 3 #[.int .i64 3]) → (Blk W gt 33 #[.slice (some ⟨gi, 0, none⟩) 1 1]) → (Blk W gk 31 #[.int .i64 1, .int .i64 0, .int .i64 0, .int .i64 0, .int .i64 0, .string ⟨#[]⟩, .int .i64 0, .slice none 0 0, .slice none 0 0, .slice none 0 0, .slice none 0 0, .int .i64 1, .int .i64 0, .int .i64 0, .int .i64 0, .int .i64 0, .string ⟨#[]⟩, .int .i64 0, .slice none 0 0, .slice none 0 0, .slice none 0 0, .slice none 0 0]) →
  (DV W gv [nV 7]) → (DB W gz [⟨some ⟨gv, 0, none⟩, [nV 7], 1, 2⟩]) → (Blk W gs 38 #[.slice (some ⟨gz, 0, none⟩) 1 1]) →
  Calls Tryz.prog 15 #[.slice (some ⟨gt, 0, none⟩) 1 1, .agg #[.int .i64 8, .int .i64 0, .int .i64 0, .int .i64 0, .int .i64 0, .string ⟨#[]⟩, .int .i64 0, .slice none 0 0, .slice none 0 0, .slice none 0 0, .slice (some ⟨gk, 0, none⟩) 2 2], .slice (some ⟨gs, 0, none⟩) 1 1] W fun en w' => Gives W w' en ([([nV 7], 4)], 0) := fun gi gt gk gv gz gs W h0 h9 hk hv hz hs => by
  have hzi : ZIn W (some ⟨gz, 0, none⟩) [⟨some ⟨gv, 0, none⟩, [nV 7], 1, 2⟩] := zin_db hz (fun x hx => by simp at hx; subst hx; exact hv.vsl)
  have hin : In W ⟨some ⟨gz, 0, none⟩, [⟨some ⟨gv, 0, none⟩, [nV 7], 1, 2⟩], 1⟩ := ⟨hzi, slok_one (by simp), by show (1 : Nat) ≤ _; decide, fun x hx => by simp at hx; subst hx; simp⟩
  have h := qeval_any [⟨some ⟨gi, 0, none⟩, [3], 1⟩] (some ⟨gt, 0, none⟩) 1 (alvQ gk) [⟨some ⟨gz, 0, none⟩, [⟨some ⟨gv, 0, none⟩, [nV 7], 1, 2⟩], 1⟩] (some ⟨gs, 0, none⟩) 1 W (show 1 ≤ reachN by decide) (fun t ht => by simp at ht; subst ht; show 1 ≤ reachN; decide) (fun i s hs => by
   match i, hs with
   | 0, hs =>
    simp at hs
    subst hs
    exact ⟨gt, 0, rfl, h9.cells rfl, fun i x hx => by
     match i, hx with
     | 0, hx => simp at hx; subst hx; exact ⟨gi, 0, rfl, h0.cells rfl⟩⟩) (px_two (p := tbQ 0) (q := tbQ 0) 2 hk (nx_zero ⟨by decide, by decide⟩) (px_tb W ⟨by decide, by decide⟩) (px_tb W ⟨by decide, by decide⟩))
   ⟨fun i s hs' => by
    match i, hs' with
    | 0, hs' => simp at hs'; subst hs'; exact ⟨gs, 0, rfl, hs.cells rfl, hzi⟩, fun s hs' => by simp at hs'; subst hs'; exact hin, slok_one (by simp), by simp⟩
  have e := alvQ_eval gk
  show Calls _ _ _ _ (fun en w' => Gives W w' en ([([nV 7], 4)], 0))
  rw [← e]
  exact h
 have CT := Lib.hid ct
 clear ct
 have ctb := fun W => table5_any 0 W
 have ctb' := fun {a b : World} (h : Grow a b) W => table5_any 0 W
 have con := fun (A : Option Addr) W => on5_any 8 A 2 2 (fun _ => .leaf) W
 have G0 := Grow.refl w
 go_enter Tryz.func18, Tryz.ntmps18
 go_upto_region 3 with (first
  | (go_at_call 41; ((with_reducible refine (ctb' hg2 _).mono ?_); rintro en w3 ⟨rfl, hg3⟩))
  | (go_at_call 41; ((with_reducible refine (ctb _).mono ?_); rintro en w2 ⟨rfl, hg2⟩))
  | (go_at_call 22; ((with_reducible refine (con _ _).mono ?_); rintro en w4 ⟨rfl, hg4⟩))
  | (go_at_call 15; ((refine (CT.out (w.heap.size + 1 + 1) (w.heap.size + 1 + 1 + 1) w3.heap.size w.heap.size (w.heap.size + 1) w4.heap.size _ (((((((Blk.new' _ _ _ (by simp)).al _).grow hg2).grow hg3).al _).grow hg4).al _) ((((((Blk.new' _ _ _ (by simp)).grow hg2).grow hg3).al _).grow hg4).al _) (((Blk.new w3 _ _).grow hg4).al _) (((((((((Blk.new w _ _).al _).al _).al _).grow hg2).grow hg3).al _).grow hg4).al _) ((((((((Blk.new' _ _ _ (by simp)).al _).al _).grow hg2).grow hg3).al _).grow hg4).al _) (Blk.new w4 _ _)).mono ?_); rintro en w5 ⟨B, ys, cap9, rfl, hz, hm, hk, hg5⟩)))
 have G5 : Grow w w5 := Grow.trans (by repeat (first | (with_reducible exact Grow.refl _) | (with_reducible assumption) | (with_reducible refine Grow.set ?_ (by first | (simp; done) | (simp; omega)) _) | (with_reducible refine Grow.al ?_ _) | (with_reducible refine Grow.drew ?_) | (with_reducible refine Grow.drewN ?_ _) | (with_reducible refine Grow.trans ?_ (by assumption)))) hg5
 obtain ⟨y, rfl, hr, hw⟩ := map_one hm
 obtain ⟨gy, oy, eB, c1, c2, hv⟩ := hz 0 y rfl
 have eB : B = some ⟨gy, oy, none⟩ := eB
 subst eB
 rw [hw] at c2
 try simp only [Nat.zero_mul, Nat.add_zero, List.length_singleton] at c1
 try simp only [Nat.zero_mul, Nat.add_zero, List.length_singleton] at c2
 clear hz hm hv hr hw
 go_wp2
 exact bodyPost_ret (v := .bool true) (by simp [results, Tryz.results18, go_sem]) rfl ⟨rfl, G5⟩
/-! is -/
set_option maxRecDepth 100000 in
set_option maxHeartbeats 4000000 in
theorem is5_any (ts : List (L2 Int)) (At : Option Addr) (nt : Nat) (p q : PL) (ds : List S) (Ad : Option Addr) (nd : Nat) (w : World) (hlt : ts.length ≤ reachN) (hl : ∀ t ∈ ts, t.xs.length ≤ reachN) (hts : TSl w At ts) (hp : PX w p) (hq : PX w q) (hds : InS w Ad ds nd)
  (hab : ∀ a b, evalZ (tabs ts) p (ds.map S.z) = (a, 0) → evalZ (tabs ts) q (ds.map S.z) = (b, 0) → a = b) :
  Calls Tryz.prog 23 #[.slice At ts.length nt, p.val, q.val, .slice Ad ds.length nd] w fun en w' => en = .returned (.bool true) ∧ Grow w w' := by
 obtain ⟨a1, e1, hE1⟩ : ∃ a e, evalZ (tabs ts) p (ds.map S.z) = (a, e) := ⟨_, _, rfl⟩
 obtain ⟨a2, e2, hE2⟩ : ∃ a e, evalZ (tabs ts) q (ds.map S.z) = (a, e) := ⟨_, _, rfl⟩
 have c1 := fun W (h : Grow w W) => qeval_any ts At nt p ds Ad nd W hlt hl (hts.grow h) (hp.grow h) (hds.grow h)
 have c2 := fun W (h : Grow w W) => qeval_any ts At nt q ds Ad nd W hlt hl (hts.grow h) (hq.grow h) (hds.grow h)
 unfold Gives at c1 c2
 rw [hE1] at c1
 rw [hE2] at c2
 simp only at c1 c2
 have hab' : e1 = 0 → e2 = 0 → a1 = a2 := fun h1 h2 => by subst h1 h2; exact hab a1 a2 hE1 hE2
 unfold PL.val at c1 c2 ⊢
 have C1 := Lib.hid c1
 have C2 := Lib.hid c2
 have HAB := Lib.hid hab'
 have HE1 := Lib.hid hE1
 have HE2 := Lib.hid hE2
 clear c1 c2 hab' hab hE1 hE2 hts hp hq hds hlt hl
 go_enter Tryz.func23, Tryz.ntmps23
 go_upto_region 1 with fail
 refine wp_forget (fun X => Blk X w.heap.size 31 (pC p) ∧ Blk X (w.heap.size + 1) 31 (pC q) ∧ Grow w X) ⟨(Blk.new w _ _).al _, Blk.new' _ _ _ (by simp), (by repeat (first | (with_reducible exact Grow.refl _) | (with_reducible assumption) | (with_reducible refine Grow.set ?_ (by first | (simp; done) | (simp; omega)) _) | (with_reducible refine Grow.al ?_ _) | (with_reducible refine Grow.drew ?_) | (with_reducible refine Grow.drewN ?_ _) | (with_reducible refine Grow.trans ?_ (by assumption))))⟩ ?_
 rintro X ⟨BX0, BY0, G⟩
 have BX := Lib.hid BX0
 have BY := Lib.hid BY0
 obtain ⟨bx, fx⟩ := BX0.rules
 have lx := BX0.lt
 clear BX0 BY0
 generalize w.heap.size + 1 = gy at *
 generalize w.heap.size = gx at *
 go_upto_region 2 with (go_at_call 15; ((refine (C1.out _ G).mono ?_); rintro en w4 ⟨B4, ys4, cap4, rfl, hz4, hm4, hk4, hg4⟩))
 have O4 := Lib.hid (And.intro hz4 (And.intro hm4 hk4))
 clear bx fx lx hz4 hm4 hk4
 obtain ⟨br, fr⟩ := (BY.out.grow hg4).rules
 have lr := (BY.out.grow hg4).lt
 go_upto_region 3 with (go_at_call 15; ((refine (C2.out _ (G.trans hg4)).mono ?_); rintro en w5 ⟨B5, ys5, cap5, rfl, hz5, hm5, hk5, hg5⟩))
 have O5 := Lib.hid (And.intro hz5 (And.intro hm5 hk5))
 clear br fr lr hz5 hm5 hk5
 have G5 := G.trans (hg4.trans hg5)
 by_cases q1 : e1 = 0
 ·by_cases q2 : e2 = 0
  ·have cs := same_in ⟨B4, ys4, cap4⟩ ⟨B5, ys5, cap5⟩ w5 ((ev_in HE1.out q1 O4.out.1 O4.out.2.1 O4.out.2.2).grow hg5) (ev_in HE2.out q2 O5.out.1 O5.out.2.1 O5.out.2.2) (by
    show ys4.map zOf = ys5.map zOf
    rw [O4.out.2.1, O5.out.2.1]
    exact HAB.out q1 q2)
   have CS := Lib.hid cs
   subst q1 q2
   clear cs
   go_wp2_with (go_at_call 17; ((with_reducible refine CS.out.mono ?_); rintro en w7 ⟨rfl, hg7⟩))
   exact bodyPost_ret (v := .bool true) (by simp [results, Tryz.results23, go_sem]) rfl ⟨rfl, G5.trans hg7⟩
  ·have d2 : (e2 != 0) = true := by simpa using q2
   subst q1
   go_wp2
   exact bodyPost_ret (v := .bool true) (by simp [results, Tryz.results23, go_sem]) rfl ⟨rfl, G5⟩
 ·have d1 : (e1 != 0) = true := by simpa using q1
  go_wp2
  exact bodyPost_ret (v := .bool true) (by simp [results, Tryz.results23, go_sem]) rfl ⟨rfl, G5⟩
end Go.Proofs.YtifpomonpneanaaGreat
