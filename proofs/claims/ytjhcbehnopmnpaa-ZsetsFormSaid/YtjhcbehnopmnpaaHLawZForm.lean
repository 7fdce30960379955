/-
  A text of the proof of the law ZsetsForm; no condition beside the row's own.
-/
import Derived.Test.YtjhcbehnopmnpaaHLawZTell
import Derived.Test.YtjhcbehnopmnpaaGK
/-
  The law ZsetsForm, walked.
-/
namespace Go.Proofs.Ytjhcbehnopmnpaa
open Go.RowKit Go.Calm
set_option linter.unusedSimpArgs false
set_option linter.unusedVariables false

theorem own_far {w : World} {base size n : Nat} {e : TypeId} {v : Value} {xs : List Value} (h : w.ownsRow base e size v n xs) {p : Addr} (hp : v.ownBlock ≠ some p.block) (u : Value) : (w.setCell p u).ownsRow base e size v n xs := by
  obtain ⟨h1, h2⟩ := h
  refine ⟨h1, ?_⟩
  rcases h2 with h2 | ⟨g, cap, cur, rfl, hB, hgb, r⟩
  · exact .inl h2
  · refine .inr ⟨g, cap, cur, rfl, hB, ?_, r⟩
    have hb : Blk w g e cur := hgb
    exact hb.far (fun e2 => hp (by simp [Value.ownBlock, e2])) u
theorem Blk_gb {w w' : World} {g : Nat} {t : TypeId} {cs : Array Value} {row : Option Nat} (h : Blk w g t cs) (hg : w.grownBy w' row) (hne : some g ≠ row) : Blk w' g t cs := (hg.block g h.lt hne).trans h
/-- a row just put behind another one does not lie in a block that holds another weight -/
theorem own_not {w : World} {base g n : Nat} {v a : Value} {L : List I} {y : I} {m : Int} (h : w.ownsRow base 71 2 v n (flatI (L ++ [y]))) (hb : Blk w g 71 #[a, .int .i64 m]) (hm : y.w ≠ m) : v.ownBlock ≠ some g := by
  intro e
  obtain ⟨h1, h2⟩ := h
  rcases h2 with ⟨rfl, _⟩ | ⟨g', cap, cur, rfl, hB, hgb, hle, hmx, hcs, htk⟩
  · simp [Value.ownBlock] at e
  · simp [Value.ownBlock] at e
    subst e
    have h3 : w.heap[g']? = some (.cells #[a, .int .i64 m] 71 (0, 0)) := hb
    rw [hgb] at h3
    simp at h3
    subst h3
    rw [flatI_len] at h1
    simp at hcs h1
    have hL : L = [] := List.length_eq_zero_iff.1 (by omega)
    subst hL
    have hn : n = 1 := by simp at h1; omega
    subst hn
    simp [flatI] at htk
    exact hm htk.2.symm
theorem own_under {w : World} {base size n : Nat} {e : TypeId} {v : Value} {xs : List Value} (h : w.ownsRow base e size v n xs) : some w.heap.size ≠ v.ownBlock := by
  intro e
  have := (h.lt _ e.symm).2
  omega

set_option maxRecDepth 100000 in
set_option maxHeartbeats 16000000 in
theorem law_zform (xs : List I) (A : Option Addr) (c : Nat) (at' : Int) (w : World) (ha : In w ⟨A, xs, c⟩) :
    Calls Try.prog 16 #[.slice A xs.length c, .int .i64 at'] w fun en w' => en = .returned (.bool true) ∧ Grow w w' := by
  have hza : ZIn w A xs := ha.z
  have l1 : xs.length ≤ 9223372036854775807 := ha.ok.1
  have l2 : ∀ x ∈ xs, x.row.length ≤ 9223372036854775807 := ha.ok.2
  have Hza := Lib.hid hza
  have Hvs := Lib.hid hza.vsl
  have c3 := fun W (h : Grow w W) => of_any xs A c W l1 (Hza.out.grow h) l2
  obtain ⟨z, e, hO⟩ : ∃ z e, ofZ (xs.map zOf) = (z, e) := ⟨_, _, rfl⟩
  have sz : smlZ z := by have := sml_of (xs.map zOf); rw [hO] at this; exact this
  have Sz := Lib.hid sz
  have L2 := Lib.hid l2
  rw [hO] at c3
  have HO := Lib.hid hO
  clear ha hza hO sz l2
  go_enter Try.func16, Try.ntmps16
  go_upto_region 3 with (go_at_call 74; ((with_reducible refine (zalive _).mono ?_); rintro e1 w2 ⟨rfl, hg2⟩))
  go_upto_region 4 with (go_at_call 68; ((with_reducible refine (c3 _ hg2).mono ?_); rintro e1 w3 ⟨B, zs, cap, rfl, hz3, hm3, hk3, hg3⟩; have Z3 := Lib.hid (And.intro hz3 (And.intro hm3 hk3)); clear hz3 hm3 hk3))
  have G3 := hg2.trans hg3
  by_cases h0 : e = 0
  · subst h0
    have hlen := (ofZ_ok HO.out).1
    have hlen : xs.length ≤ 1600 := by simpa using hlen
    go_wp2
    go_loopw [7, 8] (fun t i wr => ∃ k : Nat, k ≤ xs.length ∧ i = .int .i64 ((k : Int) - 1) ∧ wr.ownsRow w3.heap.size 71 2 t (bk at' k (xs.drop k)).length (flatI (bk at' k (xs.drop k))) ∧ Grow w3 wr) (fun _ i _ => (intOf i + 1).toNat)
    case atStart => exact ⟨xs.length, Nat.le_refl _, by go_num, by rw [List.drop_length]; exact World.ownsRow_nil _ _ _ _, Grow.refl _⟩
    case round =>
      obtain ⟨k, hk, rfl, hown, hg3'⟩ := hrel
      have hg := G3.trans hg3'
      have Own := Lib.hid hown
      clear hown
      by_cases hk0 : k = 0
      · subst hk0
        have em : (((0 : Nat) : Int) - 1) = -1 := by omega
        rw [em]
        have own := Own.out
        rw [List.drop_zero] at own
        obtain ⟨C, cap7, rfl, hzb, hkb⟩ := own_zin2 own (fun y hy => by
          obtain ⟨x, hx, e1, e2, _⟩ := bk_mem hy
          rw [e1, e2]
          exact (Hvs.out x hx).grow hg)
        have Bk := Lib.hid (And.intro hzb hkb)
        have hbl := bk_len at' xs 0
        obtain ⟨f1, f2, f3⟩ := form_plain (at' := at') HO.out
        have F := Lib.hid (And.intro f1 (And.intro f2 f3))
        clear own hzb hkb em f1 f2 f3
        by_cases hb : 1600 < (bk at' 0 xs).length
        · have db : decide ((1600 : Int) < ((bk at' 0 xs).length : Int)) = true := decide_eq_true (by omega)
          go_wp2
          go_ret
          exact ret_bool (by simp) hg
        · have db : decide ((1600 : Int) < ((bk at' 0 xs).length : Int)) = false := decide_eq_false (by omega)
          have Z4 := Lib.hid (And.intro (Z3.out.1.grow hg3') Z3.out.2)
          have hzl : zs.length ≤ 400 := by have := Sz.out.1; rw [← Z3.out.2.1] at this; simpa using this
          have hzr : ∀ x ∈ zs, x.row.length ≤ 9223372036854775807 := fun x hx => by
            have h1 : okR (zs.map zOf) := by rw [Z3.out.2.1]; exact Sz.out.2
            have := (h1 (zOf x) (List.mem_map_of_mem hx)).1
            simp only [zOf] at this
            omega
          have c4 := fun W (h : Grow wr W) => of_any (bk at' 0 xs) C cap7 W (by omega) (Bk.out.1.grow h) (fun y hy => by obtain ⟨x, hx, _, e2, _⟩ := bk_mem hy; rw [e2]; exact L2.out x hx)
          rw [F.out.1 (by omega)] at c4
          have c5 := fun W (h : Grow wr W) => of_any zs B cap W (by omega) (Z4.out.1.grow h) hzr
          rw [show ofZ (zs.map zOf) = (z, 0) by rw [Z3.out.2.1]; exact F.out.2.1] at c5
          have c6 := fun W (h : Grow wr W) => wrongz_any zs B cap W (by omega) (Z4.out.1.grow h) hzr 0 (by rw [Z3.out.2.1]; exact F.out.2.2)
          go_upto_region 19 with (first
            | (go_at_call 68; ((with_reducible refine (c4 _ (Grow.refl _)).mono ?_); rintro e1 w4 ⟨D, ds, cap4, rfl, hz4, hm4, hk4, hg4⟩; have D4 := Lib.hid (And.intro hz4 hm4); clear hz4 hm4 hk4))
            | (go_at_call 68; ((with_reducible refine (c5 _ hg4).mono ?_); rintro e1 w5 ⟨E, es, cap5, rfl, hz5, hm5, hk5, hg5⟩; have E5 := Lib.hid (And.intro hz5 hm5); clear hz5 hm5 hk5)))
          have G5 := hg4.trans hg5
          have s1 := fun W (h : Grow w5 W) => same_true ds zs D B cap4 cap W ((D4.out.1.grow hg5).grow h) (Z4.out.1.grow (G5.trans h)) (D4.out.2.trans Z3.out.2.1.symm) (by rw [D4.out.2]; exact Sz.out)
          have s2 := fun W (h : Grow w5 W) => same_true es zs E B cap5 cap W (E5.out.1.grow h) (Z4.out.1.grow (G5.trans h)) (E5.out.2.trans Z3.out.2.1.symm) (by rw [E5.out.2]; exact Sz.out)
          go_wp2_with (first
            | (go_at_call 66; ((with_reducible refine (c6 _ G5).mono ?_); rintro e1 w6 ⟨rfl, hg6⟩))
            | (go_at_call 70; ((with_reducible refine (s1 _ hg6).mono ?_); rintro e1 w7 ⟨rfl, hg7⟩))
            | (go_at_call 70; ((with_reducible refine (s2 _ (hg6.trans hg7)).mono ?_); rintro e1 w8 ⟨rfl, hg8⟩)))
          go_ret
          exact ret_bool (by simp) (hg.trans (((G5.trans hg6).trans hg7).trans hg8))
      · obtain ⟨m, rfl⟩ : ∃ m, k = m + 1 := ⟨k - 1, by omega⟩
        have em : (((m + 1 : Nat) : Int) - 1) = (m : Int) := by omega
        rw [em]
        have hmlt : m < xs.length := by omega
        obtain ⟨x, hxk⟩ : ∃ x, xs[m]? = some x := ⟨_, List.getElem?_eq_getElem hmlt⟩
        obtain ⟨gx, ox, rfl, c1, c2, hxv⟩ := (Hza.out.grow hg) m x hxk
        have hbk := bk_at (at' := at') hxk
        have hbl := bk_len at' (xs.drop (m + 1)) (m + 1)
        have hbl : (bk at' (m + 1) (xs.drop (m + 1))).length ≤ 3200 := by simp at hbl; omega
        have Hbk := Lib.hid hbk
        have hxw := ((ofZ_ok HO.out).2.1 (zOf x) (List.mem_map_of_mem (List.mem_of_getElem? hxk))).2
        simp only [zOf] at hxw
        have Hu := Lib.hid (own_under Own.out)
        have b0 : (0 : Int) ≤ (m : Int) := by omega
        have b1 : (m : Int) < (xs.length : Int) := by omega
        clear hxk hbk hxv em
        go_upto_region 11 with fail
        refine wp_forget (fun X => Blk X wr.heap.size 71 #[.slice x.A x.row.length x.cap, .int .i64 x.w] ∧ Grow wr X) ⟨Blk.new _ _ _, (Grow.refl wr).al _⟩ ?_
        rintro X ⟨Bx, G⟩
        obtain ⟨bx, fx⟩ := Bx.rules
        have OwnX := Lib.hid (own_grow Own.out G)
        by_cases hP : (m : Int) = at' ∧ 1 < x.w
        · obtain ⟨hP1, hP2⟩ := hP
          have dA : ((m : Int) == at') = true := by simpa using hP1
          have dB : decide (1 < x.w) = true := by simpa using hP2
          have hwp : IntKind.i64.wrap (x.w - 1) = x.w - 1 := by rw [IntKind.wrap_i64]; omega
          have ebs : bks at' m x = [I.mk x.A x.row x.cap (x.w - 1)] ++ [I.mk x.A x.row x.cap 1] := by unfold bks; rw [if_pos ⟨hP1, hP2⟩]; rfl
          rw [ebs, ← List.append_assoc] at Hbk
          clear hP1 ebs
          go_upto_region 13 with (at_builtin; refine wpList_append_src rfl _ _ rfl w3.heap.size _ (bk at' (m + 1) (xs.drop (m + 1))).length (bk at' (m + 1) (xs.drop (m + 1))) rfl (OwnX.out.alloc _) _ [I.mk x.A x.row x.cap (x.w - 1)] rfl (src_one rfl (Blk.new _ _ _)) (by simp; omega) (by have := (hg3'.trans G).size; simp; omega) ?_; intro v7 w7 own7 gr7)
          have Bx7 := Blk_gb (Bx.al _) gr7 Hu.out
          have hno := own_not own7 Bx7 (by show x.w - 1 ≠ x.w; omega)
          have G7 : Grow w3 w7 := grow_own ((hg3'.trans G).al _) gr7 (OwnX.out.alloc _)
          have Own7 := Lib.hid own7
          obtain ⟨b7, f7⟩ := Bx7.rules
          clear own7 gr7 bx fx
          go_upto_region 14 with fail
          refine wp_forget (fun X => Blk X wr.heap.size 71 #[.slice x.A x.row.length x.cap, .int .i64 1] ∧ X.ownsRow w3.heap.size 71 2 v7 ((bk at' (m + 1) (xs.drop (m + 1))).length + 1) (flatI (bk at' (m + 1) (xs.drop (m + 1)) ++ [I.mk x.A x.row x.cap (x.w - 1)])) ∧ Grow w3 X) ⟨Bx7.set 1 (.int .i64 1), own_far Own7.out hno _, Grow.set G7 hg3'.size _⟩ ?_
          clear Bx7 b7 f7 Own7 hno
          rintro X8 ⟨Bx8, own8, G8⟩
          have Own8 := Lib.hid own8
          obtain ⟨b8, f8⟩ := Bx8.rules
          clear own8
          go_wp2_with (at_builtin; refine wpList_append_src rfl _ _ rfl w3.heap.size _ _ _ rfl (Own8.out.alloc _) _ [I.mk x.A x.row x.cap 1] rfl (src_one rfl (Blk.new _ _ _)) (by simp; omega) (by have := G8.size; simp; omega) ?_; intro v9 w9 own9 gr9)
          have G9 : Grow w3 w9 := grow_own (G8.al _) gr9 (Own8.out.alloc _)
          have Own9 := Lib.hid own9
          clear own9 gr9
          go_roundw
          case rel => exact ⟨m, by omega, by go_num, by rw [Hbk.out]; simpa using Own9.out, G9⟩
          case measure => simp [intOf] <;> omega
        · have ebs : bks at' m x = [I.mk x.A x.row x.cap x.w] := by unfold bks; rw [if_neg hP]
          rw [ebs] at Hbk
          clear ebs
          by_cases hA : (m : Int) = at'
          · have dA : ((m : Int) == at') = true := by simpa using hA
            have dB : decide (1 < x.w) = false := by simp; exact Int.not_lt.1 (fun h => hP ⟨hA, h⟩)
            clear hA hP
            go_wp2_with (at_builtin; refine wpList_append_src rfl _ _ rfl w3.heap.size _ (bk at' (m + 1) (xs.drop (m + 1))).length (bk at' (m + 1) (xs.drop (m + 1))) rfl (OwnX.out.alloc _) _ [I.mk x.A x.row x.cap x.w] rfl (src_one rfl (Blk.new _ _ _)) (by simp; omega) (by have := (hg3'.trans G).size; simp; omega) ?_; intro v7 w7 own7 gr7)
            have G7 : Grow w3 w7 := grow_own ((hg3'.trans G).al _) gr7 (OwnX.out.alloc _)
            have Own7 := Lib.hid own7
            clear own7 gr7
            go_roundw
            case rel => exact ⟨m, by omega, by go_num, by rw [Hbk.out]; simpa using Own7.out, G7⟩
            case measure => simp [intOf] <;> omega
          · have dA : ((m : Int) == at') = false := by simpa using hA
            clear hA hP
            go_wp2_with (at_builtin; refine wpList_append_src rfl _ _ rfl w3.heap.size _ (bk at' (m + 1) (xs.drop (m + 1))).length (bk at' (m + 1) (xs.drop (m + 1))) rfl (OwnX.out.alloc _) _ [I.mk x.A x.row x.cap x.w] rfl (src_one rfl (Blk.new _ _ _)) (by simp; omega) (by have := (hg3'.trans G).size; simp; omega) ?_; intro v7 w7 own7 gr7)
            have G7 : Grow w3 w7 := grow_own ((hg3'.trans G).al _) gr7 (OwnX.out.alloc _)
            have Own7 := Lib.hid own7
            clear own7 gr7
            go_roundw
            case rel => exact ⟨m, by omega, by go_num, by rw [Hbk.out]; simpa using Own7.out, G7⟩
            case measure => simp [intOf] <;> omega
  · have d0 : (e != 0) = true := by simpa using h0
    have hz0 := ofZ_err HO.out h0
    have hl0 : zs.length = 0 := by have := Z3.out.2.1; rw [hz0] at this; simpa using congrArg List.length this
    rw [hl0]
    go_wp2
    go_ret
    exact ret_bool (by simp) G3
end Go.Proofs.Ytjhcbehnopmnpaa
