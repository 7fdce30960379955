/-
  Joined texts of this claim: Zs21. What each proves its own head says; no condition beside those that each theorem names.
-/
import Derived.Test.YtjhcbehnopmnpaaGJ
import Derived.Test.YtjhcbehnopmnpaaGI
/-
  The reference's Each, with each of its closures; Positive, Distinct.
-/
namespace Go.Proofs.Ytjhcbehnopmnpaa
open Go.RowKit Go.Calm
set_option linter.unusedSimpArgs false
set_option linter.unusedVariables false

set_option maxRecDepth 100000 in
theorem rneg_fn (n : Int) (w : World) (h1 : -1000000 ≤ n) (h2 : n ≤ 1000000) : Calls Try.prog 82 #[.int .i64 n] w fun e w' => e = .returned (.int .i64 (-n)) ∧ Grow w w' := by
  have hwp : IntKind.i64.wrap (-n) = -n := by rw [IntKind.wrap_i64]; omega
  go_enter Try.func82, Try.ntmps82
  go_wp2
  go_ret
  exact ret_int rfl (Grow.refl _)
set_option maxRecDepth 100000 in
theorem rpos_fn (n : Int) (w : World) (h1 : -1000000 ≤ n) (h2 : n ≤ 1000000) : Calls Try.prog 131 #[.int .i64 n] w fun e w' => e = .returned (.int .i64 (posF n)) ∧ Grow w w' := by
  go_enter Try.func131, Try.ntmps131
  by_cases h : n < 0
  · have e : posF n = 0 := by unfold posF; rw [if_pos h]
    have d : decide (n < 0) = true := decide_eq_true h
    rw [e]
    go_wp2
    go_ret
    exact ret_int rfl (Grow.refl _)
  · have e : posF n = n := by unfold posF; rw [if_neg h]
    have d : decide (n < 0) = false := decide_eq_false h
    rw [e]
    go_wp2
    go_ret
    exact ret_int rfl (Grow.refl _)
set_option maxRecDepth 100000 in
theorem rdis_fn (n : Int) (w : World) (h1 : -1000000 ≤ n) (h2 : n ≤ 1000000) : Calls Try.prog 132 #[.int .i64 n] w fun e w' => e = .returned (.int .i64 (disF n)) ∧ Grow w w' := by
  go_enter Try.func132, Try.ntmps132
  by_cases h : 0 < n
  · have e : disF n = 1 := by unfold disF; rw [if_pos h]
    have d : decide (0 < n) = true := decide_eq_true h
    rw [e]
    go_wp2
    go_ret
    exact ret_int rfl (Grow.refl _)
  · have e : disF n = 0 := by unfold disF; rw [if_neg h]
    have d : decide (0 < n) = false := decide_eq_false h
    rw [e]
    go_wp2
    go_ret
    exact ret_int rfl (Grow.refl _)

set_option maxRecDepth 100000 in
set_option maxHeartbeats 8000000 in
theorem reach_neg (f : Int → Int) (hf : ∀ n W, -1000000 ≤ n → n ≤ 1000000 → Calls Try.prog 82 #[.int .i64 n] W fun e w' => e = .returned (.int .i64 (f n)) ∧ Grow W w') (fb : ∀ n, -1000000 ≤ n → n ≤ 1000000 → -1000000 ≤ f n ∧ f n ≤ 1000000) (A : Option Addr) (xs : List I) (c : Nat) (w : World) (ha : In w ⟨A, xs, c⟩) :
    Calls Try.prog 81 #[.slice A xs.length c, .func (.func 82) #[] #[]] w fun en w' => Gives w w' en (eachZ f (xs.map zOf)) := by
  have hza : ZIn w A xs := ha.z
  have Ha := Lib.hid ha
  have Hza := Lib.hid hza
  have Hf := Lib.hid hf
  have Fb := Lib.hid fb
  obtain ⟨E, hE⟩ : ∃ E, wrongZ (xs.map zOf) = E := ⟨_, rfl⟩
  have ca := fun W (h : Grow w W) => rwrongz_any xs A c W Ha.out.ok.1 (Hza.out.grow h) Ha.out.ok.2 E hE
  have HE := Lib.hid hE
  clear ha hza hf fb hE
  go_enter Try.func81, Try.ntmps81
  by_cases h0 : E = 0
  · have d0 : (E != 0) = false := by simpa using h0
    obtain ⟨a1, a2, a3, a4⟩ := S.facts (s := ⟨A, xs, c⟩) (HE.out.trans h0)
    have a1 : xs.length ≤ 400 := a1
    have A2 := Lib.hid a2
    have A3 := Lib.hid a3
    have A4 := Lib.hid a4
    have rz := (wrongZ_zero _).1 (HE.out.trans h0)
    have fin : eachZ f (xs.map zOf) = (setZ ((xs.map zOf).map (fun x => (x.1, f x.2))), 0) := by
      unfold eachZ
      rw [HE.out, if_neg (by simpa using h0), each_set (fun x hx => (rz.row x hx).2) rz.up]
    have Fin := Lib.hid fin
    clear fin a2 a3 a4 rz
    go_upto_region 4 with (go_at_call 67; ((with_reducible refine (ca _ (Grow.refl _)).mono ?_); rintro e w2 ⟨rfl, hg2⟩))
    go_wp2
    go_loopw [7, 17] (fun u i wr => ∃ k : Nat, k ≤ xs.length ∧ i = .int .i64 k ∧ PutSt w wr u (((xs.take k).map zOf).map (fun x => (x.1, f x.2)))) (fun _ i _ => xs.length - (intOf i).toNat)
    case atStart => exact ⟨0, Nat.zero_le _, rfl, PutSt.nil _ _ hg2⟩
    case round =>
      obtain ⟨k, hk, rfl, hst⟩ := hrel
      have hg := hst.grow
      have St := Lib.hid hst
      clear hst
      by_cases hlt : k < xs.length
      · obtain ⟨x, hxk⟩ : ∃ x, xs[k]? = some x := ⟨_, List.getElem?_eq_getElem hlt⟩
        obtain ⟨gx, ox, rfl, c1, c2, hxv⟩ := (Hza.out.grow hg) k x hxk
        have hmem := List.mem_of_getElem? hxk
        have hw4 := A4.out x hmem
        have cf := fun W => Hf.out x.w W hw4.1 hw4.2
        obtain ⟨m, hm⟩ : ∃ m, f x.w = m := ⟨_, rfl⟩
        have hmb : -1000000 ≤ m ∧ m ≤ 1000000 := by rw [← hm]; exact Fb.out x.w hw4.1 hw4.2
        have cp := fun W (h : Grow wr W) => put_step (St.out.more h) x.row x.A x.cap m (hxv.grow h) (by have := A2.out x hmem; omega) (A3.out x hmem) hmb (by have := take_len' xs k; simp at this ⊢; omega)
        have es : ((xs.take (k + 1)).map zOf).map (fun x => (x.1, f x.2)) = ((xs.take k).map zOf).map (fun x => (x.1, f x.2)) ++ [(x.row, m)] := by rw [take_snoc hxk, List.map_append]; simp [hm]
        rw [← es] at cp
        rw [hm] at cf
        have Cp := Lib.hid cp
        clear hxk hxv hmem es hm hw4 hmb cp
        go_upto_region 8 with fail
        refine wp_forget (fun X => Blk X wr.heap.size 71 #[.slice x.A x.row.length x.cap, .int .i64 x.w] ∧ Grow wr X) ⟨Blk.new _ _ _, (Grow.refl wr).al _⟩ ?_
        rintro X ⟨Bx, G⟩
        apply wp_region_calm 9 (by kernel_rfl) (by kernel_rfl)
        case h' =>
          intro Q0 hQ0
          simp only [List.take_succ_cons, List.take_zero]
          repeat (
            first
              | (apply calm_p rfl; case h1 => (intro w1 hw1 hF K hK; obtain ⟨bx, fx⟩ := (Blk.grow Bx hw1).rules; go_simp; first | exact hK _ (Grow.refl _) | (go_at_call 82; ((with_reducible refine (cf _).mono ?_); rintro e w' ⟨rfl, hg⟩; exact ⟨_, rfl, hK _ hg⟩))))
              | (apply calm_y rfl rfl rfl; case h1 => (intro w1 hw1 hF K hK; obtain ⟨bx, fx⟩ := (Blk.grow Bx hw1).rules; go_simp; first | exact hK _ (Grow.refl _) | (go_at_call 82; ((with_reducible refine (cf _).mono ?_); rintro e w' ⟨rfl, hg⟩; exact ⟨_, rfl, hK _ hg⟩))))
              | apply calm_n rfl rfl rfl rfl
            intro K hK
            go_simp
            apply hK
            clear hK K)
          apply calm_fp (fun v W => PutSt w W v (((xs.take (k + 1)).map zOf).map (fun x => (x.1, f x.2)))) rfl
          case h1 =>
            intro w1 hw1 hF K hK
            go_simp
            go_at_call 128
            refine (Cp.out w1 (G.trans hw1)).mono ?_
            rintro en w' ⟨v, rfl, hst, hg'⟩
            exact ⟨_, rfl, hK _ _ hg' hst⟩
          intro v28 K hK
          go_simp
          apply hK
          clear hK K
          apply calm_fp (fun v W => PutSt w W v (((xs.take (k + 1)).map zOf).map (fun x => (x.1, f x.2)))) rfl
          case h1 =>
            intro w1 hw1 hF K hK
            have h := hF _ (List.mem_cons_self ..) ⟨_, rfl, by decide⟩
            go_simp
            exact hK _ _ (Grow.refl _) h
          intro v29 K hK
          go_simp
          apply hK
          clear hK K
          refine calm_nil ?_
          intro w1 hw1 hF
          apply hQ0
          clear hQ0
          simp only [List.drop_succ_cons, List.drop_zero]
          have hst := hF _ (List.mem_cons_self ..)
          have St2 := Lib.hid hst
          clear hF hst
          go_wp2
          go_roundw
          case rel => exact ⟨k + 1, by omega, by go_num, St2.out⟩
          case measure => simp [intOf]; omega
        case hp' => exact ⟨fun v w w' hg h => h.more hg, fun v w w' hg h => h.more hg, trivial⟩
      · obtain rfl : k = xs.length := by omega
        have hst := St.out
        rw [List.take_length] at hst
        obtain ⟨⟨B, ys, cap, rfl, hzy, hm, hky⟩, _, hp⟩ := hst
        have Out := Lib.hid (And.intro hzy (And.intro hm hky))
        clear hzy hm hky hp St
        go_wp2
        refine bodyPost_ret (by simp [results, Try.results81, go_sem] <;> rfl) rfl ?_
        exact ⟨B, ys, cap, by rw [Fin.out], Out.out.1, by rw [Fin.out]; exact Out.out.2.1, Out.out.2.2, hg⟩
  · have d0 : (E != 0) = true := by simpa using h0
    go_wp2_with (go_at_call 67; ((with_reducible refine (ca _ (Grow.refl _)).mono ?_); rintro e w2 ⟨rfl, hg2⟩))
    refine bodyPost_ret (by simp [results, Try.results81, go_sem] <;> rfl) rfl ?_
    have e : eachZ f (xs.map zOf) = ([], E) := by unfold eachZ; rw [HE.out, if_pos h0]
    exact ⟨none, [], 0, by rw [e]; rfl, zin_nil _ _, by rw [e]; rfl, SlOk.nil, hg2⟩

set_option maxRecDepth 100000 in
set_option maxHeartbeats 8000000 in
theorem reach_pos (f : Int → Int) (hf : ∀ n W, -1000000 ≤ n → n ≤ 1000000 → Calls Try.prog 131 #[.int .i64 n] W fun e w' => e = .returned (.int .i64 (f n)) ∧ Grow W w') (fb : ∀ n, -1000000 ≤ n → n ≤ 1000000 → -1000000 ≤ f n ∧ f n ≤ 1000000) (A : Option Addr) (xs : List I) (c : Nat) (w : World) (ha : In w ⟨A, xs, c⟩) :
    Calls Try.prog 81 #[.slice A xs.length c, .func (.func 131) #[] #[]] w fun en w' => Gives w w' en (eachZ f (xs.map zOf)) := by
  have hza : ZIn w A xs := ha.z
  have Ha := Lib.hid ha
  have Hza := Lib.hid hza
  have Hf := Lib.hid hf
  have Fb := Lib.hid fb
  obtain ⟨E, hE⟩ : ∃ E, wrongZ (xs.map zOf) = E := ⟨_, rfl⟩
  have ca := fun W (h : Grow w W) => rwrongz_any xs A c W Ha.out.ok.1 (Hza.out.grow h) Ha.out.ok.2 E hE
  have HE := Lib.hid hE
  clear ha hza hf fb hE
  go_enter Try.func81, Try.ntmps81
  by_cases h0 : E = 0
  · have d0 : (E != 0) = false := by simpa using h0
    obtain ⟨a1, a2, a3, a4⟩ := S.facts (s := ⟨A, xs, c⟩) (HE.out.trans h0)
    have a1 : xs.length ≤ 400 := a1
    have A2 := Lib.hid a2
    have A3 := Lib.hid a3
    have A4 := Lib.hid a4
    have rz := (wrongZ_zero _).1 (HE.out.trans h0)
    have fin : eachZ f (xs.map zOf) = (setZ ((xs.map zOf).map (fun x => (x.1, f x.2))), 0) := by
      unfold eachZ
      rw [HE.out, if_neg (by simpa using h0), each_set (fun x hx => (rz.row x hx).2) rz.up]
    have Fin := Lib.hid fin
    clear fin a2 a3 a4 rz
    go_upto_region 4 with (go_at_call 67; ((with_reducible refine (ca _ (Grow.refl _)).mono ?_); rintro e w2 ⟨rfl, hg2⟩))
    go_wp2
    go_loopw [7, 17] (fun u i wr => ∃ k : Nat, k ≤ xs.length ∧ i = .int .i64 k ∧ PutSt w wr u (((xs.take k).map zOf).map (fun x => (x.1, f x.2)))) (fun _ i _ => xs.length - (intOf i).toNat)
    case atStart => exact ⟨0, Nat.zero_le _, rfl, PutSt.nil _ _ hg2⟩
    case round =>
      obtain ⟨k, hk, rfl, hst⟩ := hrel
      have hg := hst.grow
      have St := Lib.hid hst
      clear hst
      by_cases hlt : k < xs.length
      · obtain ⟨x, hxk⟩ : ∃ x, xs[k]? = some x := ⟨_, List.getElem?_eq_getElem hlt⟩
        obtain ⟨gx, ox, rfl, c1, c2, hxv⟩ := (Hza.out.grow hg) k x hxk
        have hmem := List.mem_of_getElem? hxk
        have hw4 := A4.out x hmem
        have cf := fun W => Hf.out x.w W hw4.1 hw4.2
        obtain ⟨m, hm⟩ : ∃ m, f x.w = m := ⟨_, rfl⟩
        have hmb : -1000000 ≤ m ∧ m ≤ 1000000 := by rw [← hm]; exact Fb.out x.w hw4.1 hw4.2
        have cp := fun W (h : Grow wr W) => put_step (St.out.more h) x.row x.A x.cap m (hxv.grow h) (by have := A2.out x hmem; omega) (A3.out x hmem) hmb (by have := take_len' xs k; simp at this ⊢; omega)
        have es : ((xs.take (k + 1)).map zOf).map (fun x => (x.1, f x.2)) = ((xs.take k).map zOf).map (fun x => (x.1, f x.2)) ++ [(x.row, m)] := by rw [take_snoc hxk, List.map_append]; simp [hm]
        rw [← es] at cp
        rw [hm] at cf
        have Cp := Lib.hid cp
        clear hxk hxv hmem es hm hw4 hmb cp
        go_upto_region 8 with fail
        refine wp_forget (fun X => Blk X wr.heap.size 71 #[.slice x.A x.row.length x.cap, .int .i64 x.w] ∧ Grow wr X) ⟨Blk.new _ _ _, (Grow.refl wr).al _⟩ ?_
        rintro X ⟨Bx, G⟩
        apply wp_region_calm 9 (by kernel_rfl) (by kernel_rfl)
        case h' =>
          intro Q0 hQ0
          simp only [List.take_succ_cons, List.take_zero]
          repeat (
            first
              | (apply calm_p rfl; case h1 => (intro w1 hw1 hF K hK; obtain ⟨bx, fx⟩ := (Blk.grow Bx hw1).rules; go_simp; first | exact hK _ (Grow.refl _) | (go_at_call 131; ((with_reducible refine (cf _).mono ?_); rintro e w' ⟨rfl, hg⟩; exact ⟨_, rfl, hK _ hg⟩))))
              | (apply calm_y rfl rfl rfl; case h1 => (intro w1 hw1 hF K hK; obtain ⟨bx, fx⟩ := (Blk.grow Bx hw1).rules; go_simp; first | exact hK _ (Grow.refl _) | (go_at_call 131; ((with_reducible refine (cf _).mono ?_); rintro e w' ⟨rfl, hg⟩; exact ⟨_, rfl, hK _ hg⟩))))
              | apply calm_n rfl rfl rfl rfl
            intro K hK
            go_simp
            apply hK
            clear hK K)
          apply calm_fp (fun v W => PutSt w W v (((xs.take (k + 1)).map zOf).map (fun x => (x.1, f x.2)))) rfl
          case h1 =>
            intro w1 hw1 hF K hK
            go_simp
            go_at_call 128
            refine (Cp.out w1 (G.trans hw1)).mono ?_
            rintro en w' ⟨v, rfl, hst, hg'⟩
            exact ⟨_, rfl, hK _ _ hg' hst⟩
          intro v28 K hK
          go_simp
          apply hK
          clear hK K
          apply calm_fp (fun v W => PutSt w W v (((xs.take (k + 1)).map zOf).map (fun x => (x.1, f x.2)))) rfl
          case h1 =>
            intro w1 hw1 hF K hK
            have h := hF _ (List.mem_cons_self ..) ⟨_, rfl, by decide⟩
            go_simp
            exact hK _ _ (Grow.refl _) h
          intro v29 K hK
          go_simp
          apply hK
          clear hK K
          refine calm_nil ?_
          intro w1 hw1 hF
          apply hQ0
          clear hQ0
          simp only [List.drop_succ_cons, List.drop_zero]
          have hst := hF _ (List.mem_cons_self ..)
          have St2 := Lib.hid hst
          clear hF hst
          go_wp2
          go_roundw
          case rel => exact ⟨k + 1, by omega, by go_num, St2.out⟩
          case measure => simp [intOf]; omega
        case hp' => exact ⟨fun v w w' hg h => h.more hg, fun v w w' hg h => h.more hg, trivial⟩
      · obtain rfl : k = xs.length := by omega
        have hst := St.out
        rw [List.take_length] at hst
        obtain ⟨⟨B, ys, cap, rfl, hzy, hm, hky⟩, _, hp⟩ := hst
        have Out := Lib.hid (And.intro hzy (And.intro hm hky))
        clear hzy hm hky hp St
        go_wp2
        refine bodyPost_ret (by simp [results, Try.results81, go_sem] <;> rfl) rfl ?_
        exact ⟨B, ys, cap, by rw [Fin.out], Out.out.1, by rw [Fin.out]; exact Out.out.2.1, Out.out.2.2, hg⟩
  · have d0 : (E != 0) = true := by simpa using h0
    go_wp2_with (go_at_call 67; ((with_reducible refine (ca _ (Grow.refl _)).mono ?_); rintro e w2 ⟨rfl, hg2⟩))
    refine bodyPost_ret (by simp [results, Try.results81, go_sem] <;> rfl) rfl ?_
    have e : eachZ f (xs.map zOf) = ([], E) := by unfold eachZ; rw [HE.out, if_pos h0]
    exact ⟨none, [], 0, by rw [e]; rfl, zin_nil _ _, by rw [e]; rfl, SlOk.nil, hg2⟩

set_option maxRecDepth 100000 in
set_option maxHeartbeats 8000000 in
theorem reach_dis (f : Int → Int) (hf : ∀ n W, -1000000 ≤ n → n ≤ 1000000 → Calls Try.prog 132 #[.int .i64 n] W fun e w' => e = .returned (.int .i64 (f n)) ∧ Grow W w') (fb : ∀ n, -1000000 ≤ n → n ≤ 1000000 → -1000000 ≤ f n ∧ f n ≤ 1000000) (A : Option Addr) (xs : List I) (c : Nat) (w : World) (ha : In w ⟨A, xs, c⟩) :
    Calls Try.prog 81 #[.slice A xs.length c, .func (.func 132) #[] #[]] w fun en w' => Gives w w' en (eachZ f (xs.map zOf)) := by
  have hza : ZIn w A xs := ha.z
  have Ha := Lib.hid ha
  have Hza := Lib.hid hza
  have Hf := Lib.hid hf
  have Fb := Lib.hid fb
  obtain ⟨E, hE⟩ : ∃ E, wrongZ (xs.map zOf) = E := ⟨_, rfl⟩
  have ca := fun W (h : Grow w W) => rwrongz_any xs A c W Ha.out.ok.1 (Hza.out.grow h) Ha.out.ok.2 E hE
  have HE := Lib.hid hE
  clear ha hza hf fb hE
  go_enter Try.func81, Try.ntmps81
  by_cases h0 : E = 0
  · have d0 : (E != 0) = false := by simpa using h0
    obtain ⟨a1, a2, a3, a4⟩ := S.facts (s := ⟨A, xs, c⟩) (HE.out.trans h0)
    have a1 : xs.length ≤ 400 := a1
    have A2 := Lib.hid a2
    have A3 := Lib.hid a3
    have A4 := Lib.hid a4
    have rz := (wrongZ_zero _).1 (HE.out.trans h0)
    have fin : eachZ f (xs.map zOf) = (setZ ((xs.map zOf).map (fun x => (x.1, f x.2))), 0) := by
      unfold eachZ
      rw [HE.out, if_neg (by simpa using h0), each_set (fun x hx => (rz.row x hx).2) rz.up]
    have Fin := Lib.hid fin
    clear fin a2 a3 a4 rz
    go_upto_region 4 with (go_at_call 67; ((with_reducible refine (ca _ (Grow.refl _)).mono ?_); rintro e w2 ⟨rfl, hg2⟩))
    go_wp2
    go_loopw [7, 17] (fun u i wr => ∃ k : Nat, k ≤ xs.length ∧ i = .int .i64 k ∧ PutSt w wr u (((xs.take k).map zOf).map (fun x => (x.1, f x.2)))) (fun _ i _ => xs.length - (intOf i).toNat)
    case atStart => exact ⟨0, Nat.zero_le _, rfl, PutSt.nil _ _ hg2⟩
    case round =>
      obtain ⟨k, hk, rfl, hst⟩ := hrel
      have hg := hst.grow
      have St := Lib.hid hst
      clear hst
      by_cases hlt : k < xs.length
      · obtain ⟨x, hxk⟩ : ∃ x, xs[k]? = some x := ⟨_, List.getElem?_eq_getElem hlt⟩
        obtain ⟨gx, ox, rfl, c1, c2, hxv⟩ := (Hza.out.grow hg) k x hxk
        have hmem := List.mem_of_getElem? hxk
        have hw4 := A4.out x hmem
        have cf := fun W => Hf.out x.w W hw4.1 hw4.2
        obtain ⟨m, hm⟩ : ∃ m, f x.w = m := ⟨_, rfl⟩
        have hmb : -1000000 ≤ m ∧ m ≤ 1000000 := by rw [← hm]; exact Fb.out x.w hw4.1 hw4.2
        have cp := fun W (h : Grow wr W) => put_step (St.out.more h) x.row x.A x.cap m (hxv.grow h) (by have := A2.out x hmem; omega) (A3.out x hmem) hmb (by have := take_len' xs k; simp at this ⊢; omega)
        have es : ((xs.take (k + 1)).map zOf).map (fun x => (x.1, f x.2)) = ((xs.take k).map zOf).map (fun x => (x.1, f x.2)) ++ [(x.row, m)] := by rw [take_snoc hxk, List.map_append]; simp [hm]
        rw [← es] at cp
        rw [hm] at cf
        have Cp := Lib.hid cp
        clear hxk hxv hmem es hm hw4 hmb cp
        go_upto_region 8 with fail
        refine wp_forget (fun X => Blk X wr.heap.size 71 #[.slice x.A x.row.length x.cap, .int .i64 x.w] ∧ Grow wr X) ⟨Blk.new _ _ _, (Grow.refl wr).al _⟩ ?_
        rintro X ⟨Bx, G⟩
        apply wp_region_calm 9 (by kernel_rfl) (by kernel_rfl)
        case h' =>
          intro Q0 hQ0
          simp only [List.take_succ_cons, List.take_zero]
          repeat (
            first
              | (apply calm_p rfl; case h1 => (intro w1 hw1 hF K hK; obtain ⟨bx, fx⟩ := (Blk.grow Bx hw1).rules; go_simp; first | exact hK _ (Grow.refl _) | (go_at_call 132; ((with_reducible refine (cf _).mono ?_); rintro e w' ⟨rfl, hg⟩; exact ⟨_, rfl, hK _ hg⟩))))
              | (apply calm_y rfl rfl rfl; case h1 => (intro w1 hw1 hF K hK; obtain ⟨bx, fx⟩ := (Blk.grow Bx hw1).rules; go_simp; first | exact hK _ (Grow.refl _) | (go_at_call 132; ((with_reducible refine (cf _).mono ?_); rintro e w' ⟨rfl, hg⟩; exact ⟨_, rfl, hK _ hg⟩))))
              | apply calm_n rfl rfl rfl rfl
            intro K hK
            go_simp
            apply hK
            clear hK K)
          apply calm_fp (fun v W => PutSt w W v (((xs.take (k + 1)).map zOf).map (fun x => (x.1, f x.2)))) rfl
          case h1 =>
            intro w1 hw1 hF K hK
            go_simp
            go_at_call 128
            refine (Cp.out w1 (G.trans hw1)).mono ?_
            rintro en w' ⟨v, rfl, hst, hg'⟩
            exact ⟨_, rfl, hK _ _ hg' hst⟩
          intro v28 K hK
          go_simp
          apply hK
          clear hK K
          apply calm_fp (fun v W => PutSt w W v (((xs.take (k + 1)).map zOf).map (fun x => (x.1, f x.2)))) rfl
          case h1 =>
            intro w1 hw1 hF K hK
            have h := hF _ (List.mem_cons_self ..) ⟨_, rfl, by decide⟩
            go_simp
            exact hK _ _ (Grow.refl _) h
          intro v29 K hK
          go_simp
          apply hK
          clear hK K
          refine calm_nil ?_
          intro w1 hw1 hF
          apply hQ0
          clear hQ0
          simp only [List.drop_succ_cons, List.drop_zero]
          have hst := hF _ (List.mem_cons_self ..)
          have St2 := Lib.hid hst
          clear hF hst
          go_wp2
          go_roundw
          case rel => exact ⟨k + 1, by omega, by go_num, St2.out⟩
          case measure => simp [intOf]; omega
        case hp' => exact ⟨fun v w w' hg h => h.more hg, fun v w w' hg h => h.more hg, trivial⟩
      · obtain rfl : k = xs.length := by omega
        have hst := St.out
        rw [List.take_length] at hst
        obtain ⟨⟨B, ys, cap, rfl, hzy, hm, hky⟩, _, hp⟩ := hst
        have Out := Lib.hid (And.intro hzy (And.intro hm hky))
        clear hzy hm hky hp St
        go_wp2
        refine bodyPost_ret (by simp [results, Try.results81, go_sem] <;> rfl) rfl ?_
        exact ⟨B, ys, cap, by rw [Fin.out], Out.out.1, by rw [Fin.out]; exact Out.out.2.1, Out.out.2.2, hg⟩
  · have d0 : (E != 0) = true := by simpa using h0
    go_wp2_with (go_at_call 67; ((with_reducible refine (ca _ (Grow.refl _)).mono ?_); rintro e w2 ⟨rfl, hg2⟩))
    refine bodyPost_ret (by simp [results, Try.results81, go_sem] <;> rfl) rfl ?_
    have e : eachZ f (xs.map zOf) = ([], E) := by unfold eachZ; rw [HE.out, if_pos h0]
    exact ⟨none, [], 0, by rw [e]; rfl, zin_nil _ _, by rw [e]; rfl, SlOk.nil, hg2⟩
set_option maxRecDepth 100000 in
theorem rpos_any (xs : List I) (A : Option Addr) (c : Nat) (w : World) (ha : In w ⟨A, xs, c⟩) :
    Calls Try.prog 83 #[.slice A xs.length c] w fun en w' => Gives w w' en (eachZ posF (xs.map zOf)) := by
  have cs := reach_pos posF (fun n W h1 h2 => rpos_fn n W h1 h2) (fun n h1 h2 => by unfold posF; split <;> omega) A xs c w ha
  go_enter Try.func83, Try.ntmps83
  go_wp2_with (go_at_call 81; ((with_reducible refine cs.mono ?_); rintro en w3 ⟨C, zs, cap2, rfl, hz3, hm, hk3, hg3⟩; have Fin := Lib.hid (And.intro hz3 (And.intro hm hk3)); clear hz3 hm hk3))
  refine bodyPost_ret (by simp [results, Try.results83, go_sem] <;> rfl) rfl ?_
  exact ⟨C, zs, cap2, rfl, Fin.out.1, Fin.out.2.1, Fin.out.2.2, hg3⟩
set_option maxRecDepth 100000 in
theorem rdis_any (xs : List I) (A : Option Addr) (c : Nat) (w : World) (ha : In w ⟨A, xs, c⟩) :
    Calls Try.prog 84 #[.slice A xs.length c] w fun en w' => Gives w w' en (eachZ disF (xs.map zOf)) := by
  have cs := reach_dis disF (fun n W h1 h2 => rdis_fn n W h1 h2) (fun n h1 h2 => by unfold disF; split <;> omega) A xs c w ha
  go_enter Try.func84, Try.ntmps84
  go_wp2_with (go_at_call 81; ((with_reducible refine cs.mono ?_); rintro en w3 ⟨C, zs, cap2, rfl, hz3, hm, hk3, hg3⟩; have Fin := Lib.hid (And.intro hz3 (And.intro hm hk3)); clear hz3 hm hk3))
  refine bodyPost_ret (by simp [results, Try.results84, go_sem] <;> rfl) rfl ?_
  exact ⟨C, zs, cap2, rfl, Fin.out.1, Fin.out.2.1, Fin.out.2.2, hg3⟩
end Go.Proofs.Ytjhcbehnopmnpaa
