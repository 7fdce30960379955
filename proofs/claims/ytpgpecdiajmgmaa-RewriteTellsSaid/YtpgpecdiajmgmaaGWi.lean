/-
  Joined texts of this claim: RfH, RfI. What each proves its own head says; no condition beside those that each theorem names.
-/
import Derived.Test.YtpgpecdiajmgmaaGWd
namespace Go.Proofs.Ytpgpecdiajmgmaa
open Go.RowKit Go.Calm
set_option linter.unusedSimpArgs false
set_option linter.unusedVariables false

theorem nE_mk_inv {k : Int} {v : V} {c : Int} {A : Option Addr} {n cap : Nat} {kid : Nat → E} {b : E} (h : nE (.mk k v c A n cap kid) = nE b) : ∃ A' cap' kid', b = .mk k v c A' n cap' kid' ∧ ∀ i, i < n → nE (kid i) = nE (kid' i) := by
  cases b with
  | leaf => rw [nE_mk, nE_leaf] at h; cases h
  | mk k' v' c' A' n' cap' kid' =>
    rw [nE_mk, nE_mk] at h
    injection h with h1 h2 h3 h4 h5 h6 h7
    subst h1 h2 h3 h5
    refine ⟨A', cap', kid', rfl, fun i hi => ?_⟩
    have := congrFun h7 i
    simpa only [if_pos hi] using this
def SamC (a : E) : Prop := ∀ (b : E) (w : World), nE a = nE b → EX w a → EX w b → Calls Try.prog 29 #[a.val, b.val] w fun en w' => en = .returned (.bool true) ∧ Grow w w'
set_option maxRecDepth 100000 in
set_option maxHeartbeats 4000000 in
theorem same_mk (k : Int) (v : V) (c : Int) (A : Option Addr) (m cap : Nat) (kid : Nat → E) (ih : ∀ i, i < m → SamC (kid i)) : SamC (.mk k v c A m cap kid) := by
  intro b w hn hA hB
  obtain ⟨A', cap', kid', rfl, hk⟩ := nE_mk_inv hn
  have hm : m ≤ 9223372036854775807 := by cases hA with | mk hm => unfold maxLen at hm; omega
  have HA := Lib.hid hA
  have HB := Lib.hid hB
  have IH := Lib.hid ih
  have HK := Lib.hid hk
  unfold E.val
  simp only [E.kind, E.v, E.col, E.A, E.n, E.cap]
  clear hn hA hB ih hk
  go_enter Try.func29, Try.ntmps29
  go_upto_region 1 with fail
  refine wp_forget (fun X => Blk X w.heap.size 27 #[.int .i64 k, .int .i64 v.k, .int .i64 v.n, .string v.s, .int .i64 c, .slice A m cap] ∧ Blk X (w.heap.size + 1) 27 #[.int .i64 k, .int .i64 v.k, .int .i64 v.n, .string v.s, .int .i64 c, .slice A' m cap'] ∧ Grow w X) ⟨(Blk.new _ _ _).al _, Blk.new' _ _ _ (by simp), (by repeat (first | (with_reducible exact Grow.refl _) | (with_reducible assumption) | (with_reducible refine Grow.set ?_ (by first | (simp; done) | (simp; omega)) _) | (with_reducible refine Grow.al ?_ _) | (with_reducible refine Grow.drew ?_) | (with_reducible refine Grow.drewN ?_ _) | (with_reducible refine Grow.trans ?_ (by assumption))))⟩ ?_
  rintro X ⟨BX0, BY0, G⟩
  generalize w.heap.size = gx at *
  have BX := Lib.hid BX0
  have BY := Lib.hid BY0
  obtain ⟨bx, fx⟩ := BX0.rules
  obtain ⟨by', fy⟩ := BY0.rules
  have lx := BX0.lt
  have ly := BY0.lt
  clear BX0 BY0
  go_cut [43] (fun s wx => s = .bool false ∧ wx = X)
  case first =>
    by_cases h2 : k = 2
    · have d2 : (k == 2) = true := by simpa using h2
      have d1 : (k == 1) = false := by simp [h2]
      clear h2
      go_wp2
      go_meet
      exact ⟨by simp, rfl⟩
    · have d2 : (k == 2) = false := by simpa using h2
      by_cases h1 : k = 1
      · have d1 : (k == 1) = true := by simpa using h1
        clear h1 h2
        go_wp2
        go_meet
        exact ⟨by simp, rfl⟩
      · have d1 : (k == 1) = false := by simpa using h1
        clear h1 h2
        go_wp2
        go_meet
        exact ⟨by simp, rfl⟩
  obtain ⟨rfl, rfl⟩ := hcut
  rename World => X
  go_wp2
  clear bx fx by' fy lx ly
  go_loopw [47] (fun i wr => ∃ j : Nat, j ≤ m ∧ i = .int .i64 j ∧ Grow X wr) (fun i _ => m - (intOf i).toNat)
  case atStart => exact ⟨0, Nat.zero_le _, rfl, Grow.refl X⟩
  case round =>
    obtain ⟨j, hj, rfl, hg⟩ := hrel
    by_cases hlt : j < m
    · obtain ⟨ga, oa, hA, hca, hEa⟩ : ∃ gk ok, A = some ⟨gk, ok, none⟩ ∧ ECells w gk (ok + j * 6) (kid j) ∧ EX w (kid j) := by
        cases HA.out with
        | mk hn' hc hk hv hi =>
          obtain ⟨gk, ok, h1, h2⟩ := hc j hlt
          exact ⟨gk, ok, h1, h2, hk j hlt⟩
      obtain ⟨gb, ob, hB, hcb, hEb⟩ : ∃ gk ok, A' = some ⟨gk, ok, none⟩ ∧ ECells w gk (ok + j * 6) (kid' j) ∧ EX w (kid' j) := by
        cases HB.out with
        | mk hn' hc hk hv hi =>
          obtain ⟨gk, ok, h1, h2⟩ := hc j hlt
          exact ⟨gk, ok, h1, h2, hk j hlt⟩
      subst hA hB
      have cs := fun W (h : Grow w W) => IH.out j hlt (kid' j) W (HK.out j hlt) (hEa.grow h) (hEb.grow h)
      unfold E.val at cs
      have CS := Lib.hid cs
      have CA := Lib.hid hca
      have CB := Lib.hid hcb
      clear cs hca hcb hEa hEb
      go_upto_region 6 with fail
      apply wp_region_calm 12 (by kernel_rfl) (by kernel_rfl)
      case h' =>
        intro Q0 hQ0
        simp only [List.take_succ_cons, List.take_zero]
        repeat (
          first
            | (apply calm_p rfl; case h1 => (intro w1 hw1 hF K hK; have gw := (G.trans hg).trans hw1; obtain ⟨bx, fx⟩ := ((BX.out.grow hg).grow hw1).rules; obtain ⟨by', fy⟩ := ((BY.out.grow hg).grow hw1).rules; obtain ⟨c0, c1, c2, c3, c4, c5⟩ := CA.out.grow gw; obtain ⟨e0, e1, e2, e3, e4, e5⟩ := CB.out.grow gw; go_simp; first | exact hK _ (Grow.refl _) | (go_at_call 29; ((with_reducible refine (CS.out _ ((G.trans hg).trans hw1)).mono ?_); rintro e w' ⟨rfl, hg⟩; exact ⟨_, rfl, hK _ hg⟩))))
            | (apply calm_y rfl rfl rfl; case h1 => (intro w1 hw1 hF K hK; have gw := (G.trans hg).trans hw1; obtain ⟨bx, fx⟩ := ((BX.out.grow hg).grow hw1).rules; obtain ⟨by', fy⟩ := ((BY.out.grow hg).grow hw1).rules; obtain ⟨c0, c1, c2, c3, c4, c5⟩ := CA.out.grow gw; obtain ⟨e0, e1, e2, e3, e4, e5⟩ := CB.out.grow gw; go_simp; first | exact hK _ (Grow.refl _) | (go_at_call 29; ((with_reducible refine (CS.out _ ((G.trans hg).trans hw1)).mono ?_); rintro e w' ⟨rfl, hg⟩; exact ⟨_, rfl, hK _ hg⟩))))
            | apply calm_n rfl rfl rfl rfl
          intro K hK
          go_simp
          apply hK
          clear hK K)
        refine calm_nil ?_
        intro w1 hw1 hF
        apply hQ0
        clear hQ0
        simp only [List.drop_succ_cons, List.drop_zero]
        go_wp2
        go_roundw
        case rel => exact ⟨j + 1, by omega, by go_num, hg.trans hw1⟩
        case measure => simp [intOf]; omega
      case hp' => exact trivial
    · obtain rfl : j = m := by omega
      clear hlt
      go_wp2
      exact bodyPost_ret (by simp [results, Try.results29, go_sem]) rfl ⟨rfl, G.trans hg⟩
theorem sameE_any (a : E) : SamC a := by
  induction a with
  | leaf =>
    intro b w hn hA hB
    cases b with
    | mk k v c A n cap kid => rw [nE_mk, nE_leaf] at hn; cases hn
    | leaf =>
      have h := same_mk 0 ⟨0, 0, es⟩ 0 none 0 0 (fun _ => .leaf) (fun i hi => absurd hi (Nat.not_lt_zero _)) (.mk 0 ⟨0, 0, es⟩ 0 none 0 0 (fun _ => .leaf)) w rfl ?_ ?_
      · exact h
      · exact .mk (Nat.zero_le _) (fun i hi => absurd hi (Nat.not_lt_zero _)) (fun i hi => absurd hi (Nat.not_lt_zero _)) vb_z ⟨⟨by decide, by decide⟩, ⟨by decide, by decide⟩⟩
      · exact .mk (Nat.zero_le _) (fun i hi => absurd hi (Nat.not_lt_zero _)) (fun i hi => absurd hi (Nat.not_lt_zero _)) vb_z ⟨⟨by decide, by decide⟩, ⟨by decide, by decide⟩⟩
  | mk k v c A n cap kid ih => exact same_mk k v c A n cap kid (fun i _ => ih i)
end Go.Proofs.Ytpgpecdiajmgmaa

namespace Go.Proofs.Ytpgpecdiajmgmaa
open Go.RowKit Go.Calm
set_option linter.unusedSimpArgs false
set_option linter.unusedVariables false

theorem map_get_inv {α β : Type} {f : α → β} {l l' : List α} (h : l.map f = l'.map f) : l.length = l'.length ∧ ∀ (i : Nat) (a : α), l[i]? = some a → ∃ b : α, l'[i]? = some b ∧ f a = f b := by
  have hl : l.length = l'.length := by have := congrArg List.length h; simpa using this
  refine ⟨hl, fun i a ha => ?_⟩
  have h1 : (l.map f)[i]? = some (f a) := by simp [ha]
  rw [h] at h1
  simp at h1
  obtain ⟨b, hb, e⟩ := h1
  exact ⟨b, hb, e.symm⟩
theorem nA_inv {a b : Ag} (h : nA a = nA b) : a.k = b.k ∧ nE a.x = nE b.x := by
  unfold nA at h
  injection h with h1 h2
  exact ⟨h1, h2⟩
theorem nP_mk_inv {k n : Int} {x : E} {xs : XsS} {ag : AgS} {A : Option Addr} {m cap : Nat} {kid : Nat → PL} {b : PL} (h : nP (.mk k n x xs ag A m cap kid) = nP b) : ∃ x' xs' ag' A' cap' kid', b = .mk k n x' xs' ag' A' m cap' kid' ∧ nE x = nE x' ∧ xs.l.map nE = xs'.l.map nE ∧ ag.l.map nA = ag'.l.map nA ∧ ∀ i, i < m → nP (kid i) = nP (kid' i) := by
  cases b with
  | leaf => cases h
  | mk k' n' x' xs' ag' A' m' cap' kid' =>
    have h' : PL.mk k n (nE x) ⟨none, xs.l.map nE, 0⟩ ⟨none, ag.l.map nA, 0⟩ none m 0 (fun i => if i < m then nP (kid i) else .leaf) = PL.mk k' n' (nE x') ⟨none, xs'.l.map nE, 0⟩ ⟨none, ag'.l.map nA, 0⟩ none m' 0 (fun i => if i < m' then nP (kid' i) else .leaf) := h
    injection h' with h1 h2 h3 h4 h5 h6 h7 h8 h9
    subst h1 h2 h7
    injection h4 with _ h4 _
    injection h5 with _ h5 _
    refine ⟨x', xs', ag', A', cap', kid', rfl, h3, h4, h5, fun i hi => ?_⟩
    have := congrFun h9 i
    simpa only [if_pos hi] using this
def SamP (a : PL) : Prop := ∀ (b : PL) (w : World), nP a = nP b → PX w a → PX w b → Calls Try.prog 11 #[a.val, b.val] w fun en w' => en = .returned (.bool true) ∧ Grow w w'
set_option maxRecDepth 100000 in
set_option maxHeartbeats 16000000 in
theorem sameP_mk (k n : Int) (x : E) (xs : XsS) (ag : AgS) (A : Option Addr) (m cap : Nat) (kid : Nat → PL) (ih : ∀ i, i < m → SamP (kid i)) : SamP (.mk k n x xs ag A m cap kid) := by
  intro b w hn hA hB
  obtain ⟨x', xs', ag', A', cap', kid', rfl, hx, hs, hg, hk⟩ := nP_mk_inv hn
  obtain ⟨hsl, hsg⟩ := map_get_inv hs
  obtain ⟨hgl, hgg⟩ := map_get_inv hg
  have hm : m ≤ 140737488355328 := by cases hA with | mk hm => exact hm
  have hlx : xs.l.length ≤ 140737488355328 := by cases hA with | mk _ _ _ _ _ _ hl => exact hl.1
  have hla : ag.l.length ≤ 140737488355328 := by cases hA with | mk _ _ _ _ _ _ hl => exact hl.2
  have HA := Lib.hid hA
  have HB := Lib.hid hB
  have HNA := Lib.hid hA.nx
  have HNB := Lib.hid hB.nx
  have IH := Lib.hid ih
  have HK := Lib.hid hk
  have HSG := Lib.hid hsg
  have HGG := Lib.hid hgg
  have HSL := Lib.hid (And.intro hsl hgl)
  have HMM := Lib.hid (And.intro hm (And.intro hlx hla))
  have csx := fun W (h : Grow w W) => sameE_any x x' W hx (hA.nx.hx.grow h) (hB.nx.hx.grow h)
  unfold E.val at csx
  have CSX := Lib.hid csx
  unfold PL.val
  simp only [PL.k, PL.n, PL.x, PL.xs, PL.ag, PL.A, PL.m, PL.cap]
  rw [← hsl, ← hgl]
  clear hn hA hB ih hk hx hs hg hsg hgg csx hsl hgl hm hlx hla
  go_enter Try.func11, Try.ntmps11
  go_upto_region 1 with fail
  refine wp_forget (fun X => Blk X w.heap.size 31 #[.int .i64 k, .int .i64 n, .int .i64 x.kind, .int .i64 x.v.k, .int .i64 x.v.n, .string x.v.s, .int .i64 x.col, .slice x.A x.n x.cap, .slice xs.A xs.l.length xs.c, .slice ag.A ag.l.length ag.c, .slice A m cap] ∧ Blk X (w.heap.size + 1) 31 #[.int .i64 k, .int .i64 n, .int .i64 x'.kind, .int .i64 x'.v.k, .int .i64 x'.v.n, .string x'.v.s, .int .i64 x'.col, .slice x'.A x'.n x'.cap, .slice xs'.A xs.l.length xs'.c, .slice ag'.A ag.l.length ag'.c, .slice A' m cap'] ∧ Grow w X) ⟨(Blk.new _ _ _).al _, Blk.new' _ _ _ (by simp), (by repeat (first | (with_reducible exact Grow.refl _) | (with_reducible assumption) | (with_reducible refine Grow.set ?_ (by first | (simp; done) | (simp; omega)) _) | (with_reducible refine Grow.al ?_ _) | (with_reducible refine Grow.drew ?_) | (with_reducible refine Grow.drewN ?_ _) | (with_reducible refine Grow.trans ?_ (by assumption))))⟩ ?_
  rintro X ⟨BX0, BY0, G⟩
  generalize w.heap.size = gx at *
  have BX := Lib.hid BX0
  have BY := Lib.hid BY0
  obtain ⟨bx, fx⟩ := BX0.rules
  obtain ⟨by', fy⟩ := BY0.rules
  have lx := BX0.lt
  have ly := BY0.lt
  clear BX0 BY0
  go_cut [38] (fun s wx => s = .bool false ∧ wx = X)
  case first =>
    as_aux_lemma =>
      by_cases h2 : k = 1
      · have d2 : (k == 1) = true := by simpa using h2
        have d1 : (k == 13) = false := by simp [h2]
        clear h2
        go_wp2
        go_meet
        exact ⟨by simp, rfl⟩
      · have d2 : (k == 1) = false := by simpa using h2
        by_cases h1 : k = 13
        · have d1 : (k == 13) = true := by simpa using h1
          clear h1 h2
          go_wp2
          go_meet
          exact ⟨by simp, rfl⟩
        · have d1 : (k == 13) = false := by simpa using h1
          clear h1 h2
          go_wp2
          go_meet
          exact ⟨by simp, rfl⟩
  obtain ⟨rfl, rfl⟩ := hcut
  rename World => X
  go_upto_region 3 with fail
  go_cut [59] (fun s wx => s = .bool false ∧ Grow X wx)
  case first =>
    as_aux_lemma =>
      by_cases h2 : k = 2
      · have d2 : (k == 2) = true := by simpa using h2
        clear h2
        go_wp2_with (go_at_call 29; ((with_reducible refine (CSX.out _ G).mono ?_); rintro e w' ⟨rfl, hg'⟩))
        go_meet
        exact ⟨by simp, hg'⟩
      · have d2 : (k == 2) = false := by simpa using h2
        by_cases h4 : 4 ≤ k
        · have d4 : decide (4 ≤ k) = true := decide_eq_true h4
          by_cases h7 : k ≤ 7
          · have d7 : decide (k ≤ 7) = true := decide_eq_true h7
            clear h2 h4 h7
            go_wp2_with (go_at_call 29; ((with_reducible refine (CSX.out _ G).mono ?_); rintro e w' ⟨rfl, hg'⟩))
            go_meet
            exact ⟨by simp, hg'⟩
          · have d7 : decide (k ≤ 7) = false := decide_eq_false h7
            clear h2 h4 h7
            go_wp2
            go_meet
            exact ⟨by simp, Grow.refl _⟩
        · have d4 : decide (4 ≤ k) = false := decide_eq_false h4
          clear h2 h4
          go_wp2
          go_meet
          exact ⟨by simp, Grow.refl _⟩
  obtain ⟨rfl, G2⟩ := hcut
  rename World => X2
  clear bx fx by' fy lx ly CSX
  obtain ⟨bx, fx⟩ := (BX.out.grow G2).rules
  obtain ⟨by', fy⟩ := (BY.out.grow G2).rules
  have lx := (BX.out.grow G2).lt
  have ly := (BY.out.grow G2).lt
  go_upto_region 5 with fail
  obtain ⟨b3, hb3⟩ : ∃ b3, (decide (k = 3) || decide (k = 12) || decide (k = 13)) = b3 := ⟨_, rfl⟩
  go_cut [72] (fun s wx => s = .bool b3 ∧ wx = X2)
  case first =>
    as_aux_lemma =>
      by_cases h2 : k = 3
      · have d2 : (k == 3) = true := by simpa using h2
        have e : b3 = true := by rw [← hb3]; simp [h2]
        clear h2 hb3
        go_wp2
        go_meet
        exact ⟨by rw [e], rfl⟩
      · have d2 : (k == 3) = false := by simpa using h2
        by_cases h1 : k = 12
        · have d1 : (k == 12) = true := by simpa using h1
          have e : b3 = true := by rw [← hb3]; simp [h1]
          clear h1 h2 hb3
          go_wp2
          go_meet
          exact ⟨by rw [e], rfl⟩
        · have d1 : (k == 12) = false := by simpa using h1
          by_cases h0 : k = 13
          · have d0 : (k == 13) = true := by simpa using h0
            have e : b3 = true := by rw [← hb3]; simp [h0]
            clear h0 h1 h2 hb3
            go_wp2
            go_meet
            exact ⟨by rw [e], rfl⟩
          · have d0 : (k == 13) = false := by simpa using h0
            have e : b3 = false := by rw [← hb3]; simp [h0, h1, h2]
            clear h0 h1 h2 hb3
            go_wp2
            go_meet
            exact ⟨by rw [e], rfl⟩
  obtain ⟨rfl, rfl⟩ := hcut
  rename World => X2
  clear hb3
  apply_assumption
  go_cut [] (fun wx => Grow X wx)
  case first =>
    as_aux_lemma =>
      cases b3
      · go_wp2
        go_meet
        exact G2
      · have hlx := HMM.out.2.1
        go_wp2
        clear bx fx by' fy lx ly
        go_loopw [83] (fun i wr => ∃ j : Nat, j ≤ xs.l.length ∧ i = .int .i64 j ∧ Grow X wr) (fun i _ => xs.l.length - (intOf i).toNat)
        case atStart => exact ⟨0, Nat.zero_le _, rfl, G2⟩
        case round =>
          obtain ⟨j, hj, rfl, hg⟩ := hrel
          by_cases hlt : j < xs.l.length
          · obtain ⟨e1, he1⟩ : ∃ e, xs.l[j]? = some e := ⟨_, List.getElem?_eq_getElem hlt⟩
            obtain ⟨e2, he2, hnn⟩ := HSG.out j e1 he1
            obtain ⟨ga, oa, hA, hca, hEa⟩ := HNA.out.hs j e1 he1
            obtain ⟨gb, ob, hB, hcb, hEb⟩ := HNB.out.hs j e2 he2
            have cs := fun W (h : Grow w W) => sameE_any e1 e2 W hnn (hEa.grow h) (hEb.grow h)
            unfold E.val at cs
            have CS := Lib.hid cs
            have CA := Lib.hid hca
            have CB := Lib.hid hcb
            have HAA := Lib.hid hA
            have HBB := Lib.hid hB
            clear cs hca hcb hEa hEb he1 he2 hnn hA hB
            go_upto_region 11 with fail
            apply wp_region_calm 12 (by kernel_rfl) (by kernel_rfl)
            case h' =>
              intro Q0 hQ0
              simp only [List.take_succ_cons, List.take_zero]
              repeat (
                first
                  | (apply calm_p rfl; case h1 => (intro w1 hw1 hF K hK; have gw := (G.trans hg).trans hw1; have hA := HAA.out; have hB := HBB.out; obtain ⟨bx, fx⟩ := ((BX.out.grow hg).grow hw1).rules; obtain ⟨by', fy⟩ := ((BY.out.grow hg).grow hw1).rules; obtain ⟨c0, c1, c2, c3, c4, c5⟩ := CA.out.grow gw; obtain ⟨f0, f1, f2, f3, f4, f5⟩ := CB.out.grow gw; go_simp; first | exact hK _ (Grow.refl _) | (go_at_call 29; ((with_reducible refine (CS.out _ ((G.trans hg).trans hw1)).mono ?_); rintro e w' ⟨rfl, hg⟩; exact ⟨_, rfl, hK _ hg⟩))))
                  | (apply calm_y rfl rfl rfl; case h1 => (intro w1 hw1 hF K hK; have gw := (G.trans hg).trans hw1; have hA := HAA.out; have hB := HBB.out; obtain ⟨bx, fx⟩ := ((BX.out.grow hg).grow hw1).rules; obtain ⟨by', fy⟩ := ((BY.out.grow hg).grow hw1).rules; obtain ⟨c0, c1, c2, c3, c4, c5⟩ := CA.out.grow gw; obtain ⟨f0, f1, f2, f3, f4, f5⟩ := CB.out.grow gw; go_simp; first | exact hK _ (Grow.refl _) | (go_at_call 29; ((with_reducible refine (CS.out _ ((G.trans hg).trans hw1)).mono ?_); rintro e w' ⟨rfl, hg⟩; exact ⟨_, rfl, hK _ hg⟩))))
                  | apply calm_n rfl rfl rfl rfl
                intro K hK
                go_simp
                apply hK
                clear hK K)
              refine calm_nil ?_
              intro w1 hw1 hF
              apply hQ0
              clear hQ0
              simp only [List.drop_succ_cons, List.drop_zero]
              go_wp2
              go_roundw
              case rel => exact ⟨j + 1, by omega, by go_num, hg.trans hw1⟩
              case measure => simp [intOf]; omega
            case hp' => exact trivial
          · obtain rfl : j = xs.l.length := by omega
            clear hlt
            go_wp2
            go_meet
            exact hg
  rename World => X3
  have G3 := hcut
  clear hcut bx fx by' fy lx ly G2
  obtain ⟨bx, fx⟩ := (BX.out.grow G3).rules
  obtain ⟨by', fy⟩ := (BY.out.grow G3).rules
  have lx := (BX.out.grow G3).lt
  have ly := (BY.out.grow G3).lt
  go_upto_region 14 with fail
  go_cut [101] (fun s wx => s = .bool (k == 12) ∧ wx = X3)
  case first =>
    as_aux_lemma =>
      go_wp2
      go_meet
      exact ⟨rfl, rfl⟩
  obtain ⟨rfl, rfl⟩ := hcut
  rename World => X3
  apply_assumption
  go_cut [] (fun wx => Grow X wx)
  case first =>
    as_aux_lemma =>
      cases hk12 : (k == 12)
      · clear hk12
        go_wp2
        go_meet
        exact G3
      · clear hk12
        have hlx := HMM.out.2.2
        go_wp2
        clear bx fx by' fy lx ly
        go_loopw [112] (fun i wr => ∃ j : Nat, j ≤ ag.l.length ∧ i = .int .i64 j ∧ Grow X wr) (fun i _ => ag.l.length - (intOf i).toNat)
        case atStart => exact ⟨0, Nat.zero_le _, rfl, G3⟩
        case round =>
          obtain ⟨j, hj, rfl, hg⟩ := hrel
          by_cases hlt : j < ag.l.length
          · obtain ⟨e1, he1⟩ : ∃ e, ag.l[j]? = some e := ⟨_, List.getElem?_eq_getElem hlt⟩
            obtain ⟨e2, he2, hnn⟩ := HGG.out j e1 he1
            obtain ⟨hke, hxe⟩ := nA_inv hnn
            obtain ⟨ga, oa, hA, hca, hEa⟩ := HNA.out.ha j e1 he1
            obtain ⟨gb, ob, hB, hcb, hEb⟩ := HNB.out.ha j e2 he2
            have cs := fun W (h : Grow w W) => sameE_any e1.x e2.x W hxe (hEa.grow h) (hEb.grow h)
            unfold E.val at cs
            have CS := Lib.hid cs
            have CA := Lib.hid hca
            have CB := Lib.hid hcb
            have HAA := Lib.hid hA
            have HBB := Lib.hid hB
            have HKE := Lib.hid hke
            clear cs hca hcb hEa hEb he1 he2 hnn hA hB hke hxe
            go_upto_region 20 with fail
            by_cases hr1 : e2.k = 1
            · have dr : (e2.k == 1) = true := by simpa using hr1
              have dr2 : (e2.k != 1) = false := by simp [hr1]
              clear hr1
              apply wp_region_calm 38 (by kernel_rfl) (by kernel_rfl)
              case h' =>
                intro Q0 hQ0
                simp only [List.take_succ_cons, List.take_zero]
                repeat (
                  first
                    | (apply calm_p rfl; case h1 => (intro w1 hw1 hF K hK; have gw := (G.trans hg).trans hw1; have hA := HAA.out; have hB := HBB.out; have hke := HKE.out; obtain ⟨bx, fx⟩ := ((BX.out.grow hg).grow hw1).rules; obtain ⟨by', fy⟩ := ((BY.out.grow hg).grow hw1).rules; obtain ⟨q0, c0, c1, c2, c3, c4, c5⟩ := CA.out.grow gw; obtain ⟨r0, f0, f1, f2, f3, f4, f5⟩ := CB.out.grow gw; go_simp; first | exact hK _ (Grow.refl _) | (go_at_call 29; ((with_reducible refine (CS.out _ ((G.trans hg).trans hw1)).mono ?_); rintro e w' ⟨rfl, hg⟩; exact ⟨_, rfl, hK _ hg⟩))))
                    | (apply calm_y rfl rfl rfl; case h1 => (intro w1 hw1 hF K hK; have gw := (G.trans hg).trans hw1; have hA := HAA.out; have hB := HBB.out; have hke := HKE.out; obtain ⟨bx, fx⟩ := ((BX.out.grow hg).grow hw1).rules; obtain ⟨by', fy⟩ := ((BY.out.grow hg).grow hw1).rules; obtain ⟨q0, c0, c1, c2, c3, c4, c5⟩ := CA.out.grow gw; obtain ⟨r0, f0, f1, f2, f3, f4, f5⟩ := CB.out.grow gw; go_simp; first | exact hK _ (Grow.refl _) | (go_at_call 29; ((with_reducible refine (CS.out _ ((G.trans hg).trans hw1)).mono ?_); rintro e w' ⟨rfl, hg⟩; exact ⟨_, rfl, hK _ hg⟩))))
                    | apply calm_n rfl rfl rfl rfl
                  intro K hK
                  go_simp
                  apply hK
                  clear hK K)
                refine calm_nil ?_
                intro w1 hw1 hF
                apply hQ0
                clear hQ0
                simp only [List.drop_succ_cons, List.drop_zero]
                go_wp2
                go_roundw
                case rel => exact ⟨j + 1, by omega, by go_num, hg.trans hw1⟩
                case measure => simp [intOf]; omega
              case hp' => exact trivial
            · have dr : (e2.k == 1) = false := by simpa using hr1
              have dr2 : (e2.k != 1) = true := by simp [hr1]
              clear hr1
              apply wp_region_calm 38 (by kernel_rfl) (by kernel_rfl)
              case h' =>
                intro Q0 hQ0
                simp only [List.take_succ_cons, List.take_zero]
                repeat (
                  first
                    | (apply calm_p rfl; case h1 => (intro w1 hw1 hF K hK; have gw := (G.trans hg).trans hw1; have hA := HAA.out; have hB := HBB.out; have hke := HKE.out; obtain ⟨bx, fx⟩ := ((BX.out.grow hg).grow hw1).rules; obtain ⟨by', fy⟩ := ((BY.out.grow hg).grow hw1).rules; obtain ⟨q0, c0, c1, c2, c3, c4, c5⟩ := CA.out.grow gw; obtain ⟨r0, f0, f1, f2, f3, f4, f5⟩ := CB.out.grow gw; go_simp; first | exact hK _ (Grow.refl _) | (go_at_call 29; ((with_reducible refine (CS.out _ ((G.trans hg).trans hw1)).mono ?_); rintro e w' ⟨rfl, hg⟩; exact ⟨_, rfl, hK _ hg⟩))))
                    | (apply calm_y rfl rfl rfl; case h1 => (intro w1 hw1 hF K hK; have gw := (G.trans hg).trans hw1; have hA := HAA.out; have hB := HBB.out; have hke := HKE.out; obtain ⟨bx, fx⟩ := ((BX.out.grow hg).grow hw1).rules; obtain ⟨by', fy⟩ := ((BY.out.grow hg).grow hw1).rules; obtain ⟨q0, c0, c1, c2, c3, c4, c5⟩ := CA.out.grow gw; obtain ⟨r0, f0, f1, f2, f3, f4, f5⟩ := CB.out.grow gw; go_simp; first | exact hK _ (Grow.refl _) | (go_at_call 29; ((with_reducible refine (CS.out _ ((G.trans hg).trans hw1)).mono ?_); rintro e w' ⟨rfl, hg⟩; exact ⟨_, rfl, hK _ hg⟩))))
                    | apply calm_n rfl rfl rfl rfl
                  intro K hK
                  go_simp
                  apply hK
                  clear hK K)
                refine calm_nil ?_
                intro w1 hw1 hF
                apply hQ0
                clear hQ0
                simp only [List.drop_succ_cons, List.drop_zero]
                go_wp2
                go_roundw
                case rel => exact ⟨j + 1, by omega, by go_num, hg.trans hw1⟩
                case measure => simp [intOf]; omega
              case hp' => exact trivial
          · obtain rfl : j = ag.l.length := by omega
            clear hlt
            go_wp2
            go_meet
            exact hg
  rename World => X4
  have G4 := hcut
  clear hcut bx fx by' fy lx ly G3
  obtain ⟨bx, fx⟩ := (BX.out.grow G4).rules
  obtain ⟨by', fy⟩ := (BY.out.grow G4).rules
  have lx := (BX.out.grow G4).lt
  have ly := (BY.out.grow G4).lt
  have hlx := HMM.out.1
  go_wp2
  clear bx fx by' fy lx ly
  go_loopw [157] (fun i wr => ∃ j : Nat, j ≤ m ∧ i = .int .i64 j ∧ Grow X wr) (fun i _ => m - (intOf i).toNat)
  case atStart => exact ⟨0, Nat.zero_le _, rfl, G4⟩
  case round =>
    obtain ⟨j, hj, rfl, hg⟩ := hrel
    by_cases hlt : j < m
    · obtain ⟨ga, oa, hA, hca, hEa⟩ : ∃ gk ok, A = some ⟨gk, ok, none⟩ ∧ PCells w gk (ok + j * 11) (kid j) ∧ PX w (kid j) := by
        cases HA.out with
        | mk hm hc hk =>
          obtain ⟨gk, ok, h1, h2⟩ := hc j hlt
          exact ⟨gk, ok, h1, h2, hk j hlt⟩
      obtain ⟨gb, ob, hB, hcb, hEb⟩ : ∃ gk ok, A' = some ⟨gk, ok, none⟩ ∧ PCells w gk (ok + j * 11) (kid' j) ∧ PX w (kid' j) := by
        cases HB.out with
        | mk hm hc hk =>
          obtain ⟨gk, ok, h1, h2⟩ := hc j hlt
          exact ⟨gk, ok, h1, h2, hk j hlt⟩
      subst hA hB
      have cs := fun W (h : Grow w W) => IH.out j hlt (kid' j) W (HK.out j hlt) (hEa.grow h) (hEb.grow h)
      unfold PL.val at cs
      have CS := Lib.hid cs
      have CA := Lib.hid hca
      have CB := Lib.hid hcb
      clear cs hca hcb hEa hEb
      go_upto_region 26 with fail
      apply wp_region_calm 12 (by kernel_rfl) (by kernel_rfl)
      case h' =>
        intro Q0 hQ0
        simp only [List.take_succ_cons, List.take_zero]
        repeat (
          first
            | (apply calm_p rfl; case h1 => (intro w1 hw1 hF K hK; have gw := (G.trans hg).trans hw1; obtain ⟨bx, fx⟩ := ((BX.out.grow hg).grow hw1).rules; obtain ⟨by', fy⟩ := ((BY.out.grow hg).grow hw1).rules; obtain ⟨c0, c1, c2, c3, c4, c5, c6, c7, c8, c9, c10⟩ := CA.out.grow gw; obtain ⟨f0, f1, f2, f3, f4, f5, f6, f7, f8, f9, f10⟩ := CB.out.grow gw; go_simp; first | exact hK _ (Grow.refl _) | (go_at_call 11; ((with_reducible refine (CS.out _ ((G.trans hg).trans hw1)).mono ?_); rintro e w' ⟨rfl, hg⟩; exact ⟨_, rfl, hK _ hg⟩))))
            | (apply calm_y rfl rfl rfl; case h1 => (intro w1 hw1 hF K hK; have gw := (G.trans hg).trans hw1; obtain ⟨bx, fx⟩ := ((BX.out.grow hg).grow hw1).rules; obtain ⟨by', fy⟩ := ((BY.out.grow hg).grow hw1).rules; obtain ⟨c0, c1, c2, c3, c4, c5, c6, c7, c8, c9, c10⟩ := CA.out.grow gw; obtain ⟨f0, f1, f2, f3, f4, f5, f6, f7, f8, f9, f10⟩ := CB.out.grow gw; go_simp; first | exact hK _ (Grow.refl _) | (go_at_call 11; ((with_reducible refine (CS.out _ ((G.trans hg).trans hw1)).mono ?_); rintro e w' ⟨rfl, hg⟩; exact ⟨_, rfl, hK _ hg⟩))))
            | apply calm_n rfl rfl rfl rfl
          intro K hK
          go_simp
          apply hK
          clear hK K)
        refine calm_nil ?_
        intro w1 hw1 hF
        apply hQ0
        clear hQ0
        simp only [List.drop_succ_cons, List.drop_zero]
        go_wp2
        go_roundw
        case rel => exact ⟨j + 1, by omega, by go_num, hg.trans hw1⟩
        case measure => simp [intOf]; omega
      case hp' => exact trivial
    · obtain rfl : j = m := by omega
      clear hlt
      go_wp2
      exact bodyPost_ret (by simp [results, Try.results11, go_sem]) rfl ⟨rfl, G.trans hg⟩
theorem sameP_any (a : PL) : SamP a := by
  induction a with
  | leaf =>
    intro b w hn hA hB
    cases b with
    | mk k n x xs ag A m cap kid => cases hn
    | leaf =>
      have px : PX w (.mk 0 0 .leaf nilX nilG none 0 0 (fun _ => .leaf)) := .mk (Nat.zero_le _) (fun i hi => absurd hi (Nat.not_lt_zero _)) (fun i hi => absurd hi (Nat.not_lt_zero _)) .leaf (fun i x h => by simp at h) (fun i x h => by simp at h) ⟨by decide, by decide⟩ ⟨⟨by decide, by decide⟩, ⟨by decide, by decide⟩⟩
      exact sameP_mk 0 0 .leaf nilX nilG none 0 0 (fun _ => .leaf) (fun i hi => absurd hi (Nat.not_lt_zero _)) (.mk 0 0 .leaf nilX nilG none 0 0 (fun _ => .leaf)) w rfl px px
  | mk k n x xs ag A m cap kid ih => exact sameP_mk k n x xs ag A m cap kid (fun i _ => ih i)
end Go.Proofs.Ytpgpecdiajmgmaa
