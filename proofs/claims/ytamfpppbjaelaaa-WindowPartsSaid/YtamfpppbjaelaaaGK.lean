/-
  Joined texts of this claim: Az, Zs17, Zs18. What each proves its own head says; no condition beside those that each theorem names.
-/
import Derived.Test.YtamfpppbjaelaaaGJ
import Derived.Test.YtamfpppbjaelaaaGI
set_option maxRecDepth 100000
set_option maxHeartbeats 8000000
namespace Go.Proofs.Ytamfpppbjaelaaa
open Go.RowKit Go.Calm
set_option linter.unusedSimpArgs false
set_option linter.unusedVariables false
theorem zin_db {w : World} {g : Nat} {xs : List I} (h : DB w g xs) (hv : ∀ x ∈ xs, VSl w x.A x.row) : ZIn w (some ⟨g, 0, none⟩) xs := fun i x hx => by
  obtain ⟨a, b⟩ := h.at hx
  exact ⟨g, 0, rfl, by rw [Nat.zero_add]; exact a, by rw [Nat.zero_add]; exact b, hv x (List.mem_of_getElem? hx)⟩
theorem map_one {ys : List I} {r : List V} {n : Int} (h : ys.map zOf = [(r, n)]) : ∃ y, ys = [y] ∧ y.row = r ∧ y.w = n := by
  match ys, h with
  | [y], h =>
    simp [zOf] at h
    exact ⟨y, rfl, h.1, h.2⟩
theorem each_pos (f : Int → Int) (hf : ∀ n W, -1000000 ≤ n → n ≤ 1000000 → Calls Try.prog 35 #[.int .i64 n] W fun e w' => e = .returned (.int .i64 (f n)) ∧ Grow W w') (A : Option Addr) (xs : List I) (c : Nat) (w : World) (ha : In w ⟨A, xs, c⟩) :
    Calls Try.prog 34 #[.slice A xs.length c, .func (.func 35) #[] #[]] w fun en w' => Gives w w' en (eachZ f (xs.map zOf)) := by
  have Ha := Lib.hid ha
  have Hf := Lib.hid hf
  clear ha hf
  go_enter Try.func34, Try.ntmps34
  obtain ⟨E, hE⟩ : ∃ E, wrongZ (xs.map zOf) = E := ⟨_, rfl⟩
  have cr := fun W (h1 : Blk W w.heap.size 24 #[.slice A xs.length c]) (hg : Grow w W) => zright_one ⟨A, xs, c⟩ w.heap.size W _ h1 (Ha.out.grow hg)
  rw [show wrongZ (S.z ⟨A, xs, c⟩) = E from hE] at cr
  have HE := Lib.hid hE
  clear hE
  go_upto_region 2 with (go_at_call 60; ((with_reducible refine (cr _ (Blk.new _ _ _) growW).mono ?_); rintro e w2 ⟨rfl, hg2⟩))
  have G2 := ((Grow.refl w).al _).trans hg2
  clear cr
  by_cases h0 : E = 0
  · have d0 : (E != 0) = false := by simpa using h0
    obtain ⟨a1, a2, a3, a4⟩ := S.facts (s := ⟨A, xs, c⟩) (HE.out.trans h0)
    have A2 := Lib.hid a2
    have A4 := Lib.hid a4
    have fin : eachZ f (xs.map zOf) = (eachL f (xs.map zOf), 0) := by unfold eachZ; rw [HE.out, if_neg (by simpa using h0)]
    have Fin := Lib.hid fin
    clear fin a2 a3 a4
    go_wp2
    go_loopw [7, 19] (fun t i wr => ∃ (k : Nat) (out : List I), k ≤ xs.length ∧ i = .int .i64 k ∧ wr.ownsRow w.heap.size 39 2 t out.length (flatI out) ∧ out.map zOf = eachL f ((xs.take k).map zOf) ∧ (∀ y ∈ out, ∃ g, y.A = some ⟨g, 0, none⟩ ∧ DV wr g y.row) ∧ out.length ≤ k ∧ Grow w wr) (fun _ i _ => xs.length - (intOf i).toNat)
    case atStart => exact ⟨0, [], Nat.zero_le _, rfl, World.ownsRow_nil _ _ _ _, rfl, fun y hy => by simp at hy, Nat.le_refl _, G2⟩
    case round =>
      obtain ⟨k, out, hk, rfl, hown, hmap, hdv, hol, hg⟩ := hrel
      have Own := Lib.hid hown
      have Map := Lib.hid hmap
      have Dvs := Lib.hid hdv
      clear hown hmap hdv
      by_cases hlt : k < xs.length
      · obtain ⟨x, hxk⟩ : ∃ x, xs[k]? = some x := ⟨_, List.getElem?_eq_getElem hlt⟩
        obtain ⟨gx, ox, rfl, c1, c2, hxv⟩ := (Ha.out.z.grow hg) k x hxk
        have hmem := List.mem_of_getElem? hxk
        have hlx := A2.out x hmem
        have cb := fun W (h : Grow wr W) => bare_rowD x.row x.A x.cap W (by omega) (hxv.grow h)
        have cf := fun W => Hf.out x.w W (A4.out x hmem).1 (A4.out x hmem).2
        have es := eachL_snoc f hxk
        rw [← Map.out] at es
        have Es := Lib.hid es
        obtain ⟨m, hm⟩ : ∃ m, f x.w = m := ⟨_, rfl⟩
        rw [hm] at cf
        have Hm := Lib.hid hm
        clear hxk hxv hmem es hm
        go_upto_region 8 with fail
        refine wp_forget (fun X => Blk X wr.heap.size 39 #[.slice x.A x.row.length x.cap, .int .i64 x.w] ∧ Grow wr X) ⟨Blk.new _ _ _, (Grow.refl wr).al _⟩ ?_
        rintro X ⟨Bx, G⟩
        obtain ⟨bx, fx⟩ := Bx.rules
        go_upto_region 9 with (go_at_call 35; (with_reducible refine (cf _).mono ?_); rintro e w3 ⟨rfl, hg3⟩)
        have Bx3 := Bx.grow hg3
        obtain ⟨bx3, fx3⟩ := Bx3.rules
        have G3 := G.trans hg3
        have Own3 := Lib.hid (own_grow Own.out G3)
        by_cases hm0 : m = 0
        · have dm : (m != 0) = false := by simpa using hm0
          go_wp2
          go_roundw
          case rel => exact ⟨k + 1, out, by omega, by go_num, Own3.out, by rw [Es.out, Hm.out, if_neg (by simpa using hm0), List.append_nil], fun y hy => by obtain ⟨g, h1, h2⟩ := Dvs.out y hy; exact ⟨g, h1, h2.grow G3⟩, by omega, hg.trans G3⟩
          case measure => simp [intOf]; omega
        · have dm : (m != 0) = true := by simpa using hm0
          go_wp2_with (first
            | (go_at_call 61; ((with_reducible refine (cb _ G3).mono ?_); rintro e w4 ⟨gi, rfl, hdv4, hge, hg4⟩; have Dv4 := Lib.hid hdv4; have Own4 := Lib.hid (own_grow Own3.out hg4); clear hdv4))
            | (at_builtin; refine wpList_append_src rfl _ _ rfl w.heap.size _ out.length out rfl (Own4.out.alloc _) _ [I.mk (some ⟨gi, 0, none⟩) (bareR x.row) x.row.length m] rfl (src_one (bareR_len x.row) (Blk.new _ _ _)) (by simp; omega) (by have := (hg.trans (G3.trans hg4)).size; simp; omega) ?_; intro v7 w7 own7 gr7))
          have G7 : Grow w w7 := grow_own ((hg.trans (G3.trans hg4)).al _) gr7 (Own4.out.alloc _)
          have Own7 := Lib.hid own7
          have Dv7 := Lib.hid (DV.kept (Dv4.out.grow ((Grow.refl _).al _)) (Own4.out.alloc _) gr7)
          have Dvs7 : ∀ y ∈ out, ∃ g, y.A = some ⟨g, 0, none⟩ ∧ DV w7 g y.row := fun y hy => by
            obtain ⟨g, h1, h2⟩ := Dvs.out y hy
            exact ⟨g, h1, DV.kept (h2.grow ((G3.trans hg4).al _)) (Own4.out.alloc _) gr7⟩
          have DVS7 := Lib.hid Dvs7
          clear own7 gr7 Dvs7
          go_roundw
          case rel =>
            refine ⟨k + 1, out ++ [I.mk (some ⟨gi, 0, none⟩) (bareR x.row) x.row.length m], by omega, by go_num, by simpa using Own7.out, ?_, fun y hy => ?_, by simp; omega, G7⟩
            · rw [Es.out, Hm.out, if_pos hm0]; simp [zOf]
            · rcases List.mem_append.1 hy with hy | hy
              · exact DVS7.out y hy
              · simp at hy; subst hy; exact ⟨gi, rfl, Dv7.out⟩
          case measure => simp [intOf]; omega
      · obtain rfl : k = xs.length := by omega
        obtain ⟨B, cap, rfl, hz, hk2⟩ := own_zin2 Own.out (fun y hy => by obtain ⟨g, h1, h2⟩ := Dvs.out y hy; rw [h1]; exact h2.vsl)
        have Out := Lib.hid (And.intro hz hk2)
        have hm2 : out.map zOf = eachL f (xs.map zOf) := by rw [Map.out, List.take_length]
        have Hm2 := Lib.hid hm2
        clear hz hk2 hm2
        go_wp2
        refine bodyPost_ret (by simp [results, Try.results34, go_sem] <;> rfl) rfl ?_
        exact ⟨B, out, cap, by rw [Fin.out], Out.out.1, by rw [Fin.out]; exact Hm2.out, Out.out.2, hg⟩
  · have d0 : (E != 0) = true := by simpa using h0
    go_wp2
    refine bodyPost_ret (by simp [results, Try.results34, go_sem] <;> rfl) rfl ?_
    have e : eachZ f (xs.map zOf) = ([], E) := by unfold eachZ; rw [HE.out, if_pos h0]
    exact ⟨none, [], 0, by rw [e]; rfl, zin_nil _ _, by rw [e]; rfl, SlOk.nil, G2⟩

theorem pos_fn (n : Int) (w : World) (h1 : -1000000 ≤ n) (h2 : n ≤ 1000000) : Calls Try.prog 35 #[.int .i64 n] w fun e w' => e = .returned (.int .i64 (posF n)) ∧ Grow w w' := by
  go_enter Try.func35, Try.ntmps35
  by_cases h : n < 0
  · have e : posF n = 0 := by unfold posF; rw [if_pos h]
    rw [e]
    go_wp2
    go_ret
    exact ret_int (by omega) (Grow.refl _)
  · have e : posF n = n := by unfold posF; rw [if_neg h]
    rw [e]
    go_wp2
    go_ret
    exact ret_int (by omega) (Grow.refl _)
theorem pos_any (a : S) (w : World) (ha : In w a) :
    Calls Try.prog 14 #[.slice a.A a.xs.length a.cap] w fun en w' => Gives w w' en (eachZ posF a.z) := by
  have cs := each_pos posF (fun n W h1 h2 => pos_fn n W h1 h2) a.A a.xs a.cap w ha
  go_enter Try.func14, Try.ntmps14
  go_wp2_with (go_at_call 34; ((with_reducible refine cs.mono ?_); rintro en w3 ⟨C, zs, cap2, rfl, hz3, hm, hk3, hg3⟩; have Fin := Lib.hid (And.intro hz3 (And.intro hm hk3)); clear hz3 hm hk3))
  refine bodyPost_ret (by simp [results, Try.results14, go_sem] <;> rfl) rfl ?_
  exact ⟨C, zs, cap2, rfl, Fin.out.1, Fin.out.2.1, Fin.out.2.2, hg3⟩
theorem In.of {w : World} {B : Option Addr} {ys : List I} {cap : Nat} (hz : ZIn w B ys) (hk : SlOk B ys.length cap) (h : wrongZ (ys.map zOf) = 0) : In w ⟨B, ys, cap⟩ := by
  obtain ⟨a1, a2, a3, a4⟩ := S.facts (s := ⟨B, ys, cap⟩) h
  exact ⟨hz, hk, by show ys.length ≤ _; have : ys.length ≤ 400 := a1; omega, fun x hx => by have := a2 x hx; omega⟩
end Go.Proofs.Ytamfpppbjaelaaa
