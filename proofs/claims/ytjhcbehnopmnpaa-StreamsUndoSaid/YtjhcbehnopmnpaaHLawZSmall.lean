/-
  A text of the proof of the law StreamsUndo; no condition beside the row's own.
-/
import Derived.Test.YtjhcbehnopmnpaaHLawZReckon
/-
  Chapter 2's small; the closures of ZsetsGroup.
-/
namespace Go.Proofs.Ytjhcbehnopmnpaa
open Go.RowKit Go.Calm
set_option linter.unusedSimpArgs false
set_option linter.unusedVariables false

def okW (x : Z) : Bool := decide (-100000 ≤ x.2 ∧ x.2 ≤ 100000)
theorem okW_at {xs : List I} {k : Nat} {x : I} (h : xs[k]? = some x) : ((xs.drop k).map zOf).all okW = (decide (-100000 ≤ x.w ∧ x.w ≤ 100000) && ((xs.drop (k + 1)).map zOf).all okW) := by
  obtain ⟨h1, e1⟩ := List.getElem?_eq_some_iff.1 h
  rw [List.drop_eq_getElem_cons h1, e1]; rfl
theorem smallZ_eq (z : List Z) : smallZ z = (decide (wrongZ z = 0) && (decide (z.length ≤ 100) && z.all okW)) := rfl
theorem small_at {ss : List S} {k : Nat} {s : S} (h : ss[k]? = some s) : (ss.drop k).all (fun s => smallZ s.z) = (smallZ s.z && (ss.drop (k + 1)).all (fun s => smallZ s.z)) := by
  obtain ⟨h1, e1⟩ := List.getElem?_eq_some_iff.1 h
  rw [List.drop_eq_getElem_cons h1, e1]; rfl
set_option maxRecDepth 100000 in
set_option maxHeartbeats 8000000 in
theorem small_any (ss : List S) (A : Option Addr) (c : Nat) (w : World) (hlen : ss.length ≤ 1000) (hs : SIn w A ss) (hok : ∀ s ∈ ss, s.ok) (R : Bool) (hR : ss.all (fun s => smallZ s.z) = R) :
    Calls Try.prog 90 #[.slice A ss.length c] w fun en w' => en = .returned (.bool R) ∧ Grow w w' := by
  have HR := Lib.hid hR
  have Hs := Lib.hid hs
  have Hok := Lib.hid hok
  clear hs hR hok
  go_enter Try.func90, Try.ntmps90
  go_wp2
  go_loopw [9] (fun i wr => ∃ k : Nat, k ≤ ss.length ∧ i = .int .i64 k ∧ (ss.drop k).all (fun s => smallZ s.z) = R ∧ Grow w wr) (fun i _ => ss.length - (intOf i).toNat)
  case atStart => exact ⟨0, Nat.zero_le _, rfl, by simpa using HR.out, Grow.refl _⟩
  case round =>
    obtain ⟨k, hk, rfl, hinv, hg⟩ := hrel
    have Inv := Lib.hid hinv
    clear hinv
    by_cases hlt : k < ss.length
    · obtain ⟨s, hsk⟩ : ∃ s, ss[k]? = some s := ⟨_, List.getElem?_eq_getElem hlt⟩
      have sok := Hok.out s (List.mem_of_getElem? hsk)
      have inv2 := (small_at hsk).symm.trans Inv.out
      rw [smallZ_eq] at inv2
      obtain ⟨g, o, rfl, c1, hz⟩ := (Hs.out.grow hg) k s hsk
      obtain ⟨B, ys, cap⟩ := s
      have lys : ys.length ≤ 9223372036854775807 := sok.1
      have lyr : ∀ x ∈ ys, x.row.length ≤ 9223372036854775807 := sok.2
      obtain ⟨E, hE⟩ : ∃ E, wrongZ (ys.map zOf) = E := ⟨_, rfl⟩
      have cs := fun W (h : Grow wr W) => wrongz_any ys B cap W lys (hz.grow h) lyr E hE
      have inv2 : ((decide (wrongZ (ys.map zOf) = 0) && (decide ((ys.map zOf).length ≤ 100) && (ys.map zOf).all okW)) && (ss.drop (k + 1)).all (fun s => smallZ s.z)) = R := inv2
      rw [hE, List.length_map] at inv2
      have Inv2 := Lib.hid inv2
      have Hz := Lib.hid (show ZIn wr B ys from hz)
      clear inv2 hsk hz hE sok lyr
      simp only at c1
      by_cases h0 : E = 0
      · have d0 : (E != 0) = false := by simpa using h0
        by_cases h1 : 100 < ys.length
        · have d1 : decide ((100 : Int) < (ys.length : Int)) = true := decide_eq_true (by omega)
          go_wp2_with (go_at_call 66; ((with_reducible refine (cs _ (Grow.refl _)).mono ?_); rintro e w2 ⟨rfl, hg2⟩))
          go_ret
          exact ret_bool (by have := Inv2.out; rw [decide_eq_false (show ¬ ys.length ≤ 100 by omega)] at this; simpa using this.symm) (hg.trans hg2)
        · have d1 : decide ((100 : Int) < (ys.length : Int)) = false := decide_eq_false (by omega)
          have inv3 := Inv2.out
          rw [decide_eq_true h0, decide_eq_true (show ys.length ≤ 100 by omega), Bool.true_and, Bool.true_and] at inv3
          have Inv3 := Lib.hid inv3
          clear inv3 Inv2
          go_upto_region 6 with (go_at_call 66; ((with_reducible refine (cs _ (Grow.refl _)).mono ?_); rintro e w2 ⟨rfl, hg2⟩))
          rename World => w3
          go_wp2
          go_loopw [23] (fun i wq => ∃ j : Nat, j ≤ ys.length ∧ i = .int .i64 j ∧ (((ys.drop j).map zOf).all okW && (ss.drop (k + 1)).all (fun s => smallZ s.z)) = R ∧ Grow w3 wq) (fun i _ => ys.length - (intOf i).toNat)
          case atStart => exact ⟨0, Nat.zero_le _, rfl, Inv3.out, Grow.refl _⟩
          case round =>
            obtain ⟨j, hj, rfl, hjinv, hg4⟩ := hrel
            have Jinv := Lib.hid hjinv
            clear hjinv
            by_cases hjl : j < ys.length
            · obtain ⟨x, hxk⟩ : ∃ x, ys[j]? = some x := ⟨_, List.getElem?_eq_getElem hjl⟩
              obtain ⟨gx, ox, rfl, cx1, cx2, hxv⟩ := (Hz.out.grow (hg2.trans hg4)) j x hxk
              have j2 := Jinv.out
              rw [okW_at hxk] at j2
              have J2 := Lib.hid j2
              clear j2 hxk hxv Jinv
              by_cases hA : 100000 < x.w
              · have dA : decide ((100000 : Int) < x.w) = true := decide_eq_true hA
                go_wp2
                go_ret
                exact ret_bool (by have := J2.out; rw [decide_eq_false (show ¬ (-100000 ≤ x.w ∧ x.w ≤ 100000) by omega)] at this; simpa using this.symm) (hg.trans (hg2.trans (hg4.al _)))
              · have dA : decide ((100000 : Int) < x.w) = false := decide_eq_false hA
                by_cases hB : x.w < -100000
                · have dB : decide (x.w < (-100000 : Int)) = true := decide_eq_true hB
                  go_wp2
                  go_ret
                  exact ret_bool (by have := J2.out; rw [decide_eq_false (show ¬ (-100000 ≤ x.w ∧ x.w ≤ 100000) by omega)] at this; simpa using this.symm) (hg.trans (hg2.trans (hg4.al _)))
                · have dB : decide (x.w < (-100000 : Int)) = false := decide_eq_false hB
                  have j3 := J2.out
                  rw [decide_eq_true (show -100000 ≤ x.w ∧ x.w ≤ 100000 by omega), Bool.true_and] at j3
                  have J3 := Lib.hid j3
                  clear j3 J2
                  go_wp2
                  go_roundw
                  case rel => exact ⟨j + 1, by omega, by go_num, J3.out, hg4.al _⟩
                  case measure => simp [intOf]; omega
            · obtain rfl : j = ys.length := by omega
              have j2 := Jinv.out
              rw [List.drop_length] at j2
              have J2 := Lib.hid j2
              clear j2
              go_wp2
              go_roundw
              case rel => exact ⟨k + 1, by omega, by go_num, by have := J2.out; simpa using this, hg.trans (hg2.trans hg4)⟩
              case measure => simp [intOf]; omega
      · have d0 : (E != 0) = true := by simpa using h0
        go_wp2_with (go_at_call 66; ((with_reducible refine (cs _ (Grow.refl _)).mono ?_); rintro e w2 ⟨rfl, hg2⟩))
        go_ret
        exact ret_bool (by have := Inv2.out; rw [decide_eq_false h0] at this; simpa using this.symm) (hg.trans hg2)
    · obtain rfl : k = ss.length := by omega
      have fin : R = true := by have := Inv.out; rw [List.drop_length] at this; exact this.symm
      go_wp2
      go_ret
      exact ret_bool fin.symm hg
set_option maxRecDepth 100000 in
theorem gadd (s1 s2 : S) (R : List Z) (W : World) (h1 : In W s1) (h2 : In W s2) (hR : bothZ s1.z s2.z 1 = (R, 0)) :
    Calls Try.prog 93 #[.slice s1.A s1.xs.length s1.cap, .slice s2.A s2.xs.length s2.cap] W fun e w' => ∃ (B : Option Addr) (ys : List I) (cap : Nat), e = .returned (.slice B ys.length cap) ∧ In w' ⟨B, ys, cap⟩ ∧ S.z ⟨B, ys, cap⟩ = R ∧ Grow W w' := by
  have cs := add_any s1 s2 W h1 h2
  have sm := both_sml s1.z s2.z 1
  rw [hR] at cs sm
  have Sm := Lib.hid sm
  clear h1 h2 hR sm
  go_enter Try.func93, Try.ntmps93
  go_wp2_with (go_at_call 77; ((with_reducible refine cs.mono ?_); rintro e w2 ⟨B, ys, cap, rfl, hz, hm, hk, hg⟩; have Y := Lib.hid (And.intro hz (And.intro hm hk)); clear hz hm hk))
  go_ret
  exact ⟨B, ys, cap, rfl, In.sml Y.out.1 Y.out.2.2 (by rw [Y.out.2.1]; exact Sm.out), Y.out.2.1, hg⟩
set_option maxRecDepth 100000 in
theorem gsub (s1 s2 : S) (R : List Z) (W : World) (h1 : In W s1) (h2 : In W s2) (hR : bothZ s1.z s2.z (-1) = (R, 0)) :
    Calls Try.prog 95 #[.slice s1.A s1.xs.length s1.cap, .slice s2.A s2.xs.length s2.cap] W fun e w' => ∃ (B : Option Addr) (ys : List I) (cap : Nat), e = .returned (.slice B ys.length cap) ∧ In w' ⟨B, ys, cap⟩ ∧ S.z ⟨B, ys, cap⟩ = R ∧ Grow W w' := by
  have cs := sub_any s1 s2 W h1 h2
  have sm := both_sml s1.z s2.z (-1)
  rw [hR] at cs sm
  have Sm := Lib.hid sm
  clear h1 h2 hR sm
  go_enter Try.func95, Try.ntmps95
  go_wp2_with (go_at_call 79; ((with_reducible refine cs.mono ?_); rintro e w2 ⟨B, ys, cap, rfl, hz, hm, hk, hg⟩; have Y := Lib.hid (And.intro hz (And.intro hm hk)); clear hz hm hk))
  go_ret
  exact ⟨B, ys, cap, rfl, In.sml Y.out.1 Y.out.2.2 (by rw [Y.out.2.1]; exact Sm.out), Y.out.2.1, hg⟩
theorem in_nil (W : World) : In W ⟨none, [], 0⟩ := ⟨zin_nil _ _, SlOk.nil, by show (0 : Nat) ≤ _; omega, fun x hx => by simp at hx⟩
theorem gaddnil (s1 : S) (R : List Z) (W : World) (h1 : In W s1) (hR : bothZ s1.z [] 1 = (R, 0)) :
    Calls Try.prog 93 #[.slice s1.A s1.xs.length s1.cap, .slice none 0 0] W fun e w' => ∃ (B : Option Addr) (ys : List I) (cap : Nat), e = .returned (.slice B ys.length cap) ∧ In w' ⟨B, ys, cap⟩ ∧ S.z ⟨B, ys, cap⟩ = R ∧ Grow W w' :=
  gadd s1 ⟨none, [], 0⟩ R W h1 (in_nil W) hR
set_option maxRecDepth 100000 in
theorem gneg (s1 : S) (R : List Z) (W : World) (h1 : In W s1) (hR : eachZ (fun n => -n) s1.z = (R, 0)) :
    Calls Try.prog 94 #[.slice s1.A s1.xs.length s1.cap] W fun e w' => ∃ (B : Option Addr) (ys : List I) (cap : Nat), e = .returned (.slice B ys.length cap) ∧ In w' ⟨B, ys, cap⟩ ∧ S.z ⟨B, ys, cap⟩ = R ∧ Grow W w' := by
  have cs := neg_any s1 W h1
  have sm := each_sml2 (fun n => -n) s1.z
  rw [hR] at cs sm
  have Sm := Lib.hid sm
  clear h1 hR sm
  go_enter Try.func94, Try.ntmps94
  go_wp2_with (go_at_call 80; ((with_reducible refine cs.mono ?_); rintro e w2 ⟨B, ys, cap, rfl, hz, hm, hk, hg⟩; have Y := Lib.hid (And.intro hz (And.intro hm hk)); clear hz hm hk))
  go_ret
  exact ⟨B, ys, cap, rfl, In.sml Y.out.1 Y.out.2.2 (by rw [Y.out.2.1]; exact Sm.out), Y.out.2.1, hg⟩
end Go.Proofs.Ytjhcbehnopmnpaa
