/-
  A text of the proof of the law ZsetsGroup; no condition beside the row's own.
-/
import Derived.Test.YtjhcbehnopmnpaaHLawZSmall
/-
  The law ZsetsGroup, walked.
-/
namespace Go.Proofs.Ytjhcbehnopmnpaa
open Go.RowKit Go.Calm
set_option linter.unusedSimpArgs false
set_option linter.unusedVariables false

theorem sin_three {w : World} {g : Nat} {t : TypeId} {s1 s2 s3 : S} (hb : Blk w g t #[.slice s1.A s1.xs.length s1.cap, .slice s2.A s2.xs.length s2.cap, .slice s3.A s3.xs.length s3.cap]) (h1 : ZIn w s1.A s1.xs) (h2 : ZIn w s2.A s2.xs) (h3 : ZIn w s3.A s3.xs) : SIn w (some ⟨g, 0, none⟩) [s1, s2, s3] := fun i s hs => by
  match i, hs with
  | 0, hs => simp at hs; subst hs; exact ⟨g, 0, rfl, by rw [hb.cell]; rfl, h1⟩
  | 1, hs => simp at hs; subst hs; exact ⟨g, 0, rfl, by rw [hb.cell]; rfl, h2⟩
  | 2, hs => simp at hs; subst hs; exact ⟨g, 0, rfl, by rw [hb.cell]; rfl, h3⟩
theorem small_three (a b c : S) (g : Nat) (w : World) (t : TypeId) (h : Blk w g t #[.slice a.A a.xs.length a.cap, .slice b.A b.xs.length b.cap, .slice c.A c.xs.length c.cap]) (ha : In w a) (hb : In w b) (hc : In w c) :
    Calls Try.prog 90 #[.slice (some ⟨g, 0, none⟩) 3 3] w fun en w' => en = .returned (.bool (smallZ a.z && (smallZ b.z && smallZ c.z))) ∧ Grow w w' :=
  small_any [a, b, c] (some ⟨g, 0, none⟩) 3 w (by simp) (sin_three h ha.z hb.z hc.z) (fun s hs => by simp at hs; rcases hs with rfl | rfl | rfl; exact ha.ok; exact hb.ok; exact hc.ok) _ (by simp)
theorem same_in (s1 s2 : S) (W : World) (h1 : In W s1) (h2 : In W s2) (hR : s1.z = s2.z) :
    Calls Try.prog 70 #[.slice s1.A s1.xs.length s1.cap, .slice s2.A s2.xs.length s2.cap] W fun e w' => e = .returned (.bool true) ∧ Grow W w' :=
  same_any s1.xs s2.xs s1.A s2.A s1.cap s2.cap W h1.ok.1 h2.ok.1 h1.z h2.z h1.ok.2 h2.ok.2 true ((sameG_iff _ _).2 hR)
set_option maxRecDepth 100000 in
set_option maxHeartbeats 32000000 in
theorem law_zgroup (a b c : S) (w : World) (ha : In w a) (hb : In w b) (hc : In w c) :
    Calls Try.prog 24 #[.slice a.A a.xs.length a.cap, .slice b.A b.xs.length b.cap, .slice c.A c.xs.length c.cap] w fun en w' => en = .returned (.bool true) ∧ Grow w w' := by
  have Ha := Lib.hid ha
  have Hb := Lib.hid hb
  have Hc := Lib.hid hc
  clear ha hb hc
  obtain ⟨M, hM⟩ : ∃ M, (smallZ a.z && (smallZ b.z && smallZ c.z)) = M := ⟨_, rfl⟩
  have cm := fun W (h1 : Blk W w.heap.size 62 #[.slice a.A a.xs.length a.cap]) => h1
  clear cm
  have cm := fun g W (h1 : Blk W g 62 #[.slice a.A a.xs.length a.cap, .slice b.A b.xs.length b.cap, .slice c.A c.xs.length c.cap]) (hg : Grow w W) => small_three a b c g W _ h1 (Ha.out.grow hg) (Hb.out.grow hg) (Hc.out.grow hg)
  rw [hM] at cm
  have HM := Lib.hid hM
  clear hM
  go_enter Try.func24, Try.ntmps24
  go_upto_region 3 with (go_at_call 74; ((with_reducible refine (zalive _).mono ?_); rintro e1 w2 ⟨rfl, hg2⟩))
  cases M with
  | false =>
    go_wp2_with (go_at_call 90; ((with_reducible refine (cm _ _ (Blk.new _ _ _) (hg2.al _)).mono ?_); rintro e1 w3 ⟨rfl, hg3⟩))
    go_ret
    exact ret_bool (by simp) ((hg2.al _).trans hg3)
  | true =>
    have hsm := HM.out
    simp only [Bool.and_eq_true] at hsm
    obtain ⟨z1, x, y, bc, na, sb, nb, e1, e2, e3, e4, e5, e6, e7, e8, e9, e10, e11, e12, e13, e14⟩ := group_plain hsm.1 hsm.2.1 hsm.2.2
    have E1 := Lib.hid e1
    have E2 := Lib.hid e2
    have E3 := Lib.hid e3
    have E4 := Lib.hid e4
    have E5 := Lib.hid e5
    have E6 := Lib.hid e6
    have E7 := Lib.hid e7
    have E8 := Lib.hid e8
    have E9 := Lib.hid e9
    have E10 := Lib.hid e10
    have E11 := Lib.hid e11
    have E12 := Lib.hid e12
    have E13 := Lib.hid e13
    have E14 := Lib.hid e14
    clear hsm e1 e2 e3 e4 e5 e6 e7 e8 e9 e10 e11 e12 e13 e14
    go_upto_region 8 with (go_at_call 90; ((with_reducible refine (cm _ _ (Blk.new _ _ _) (hg2.al _)).mono ?_); rintro e1 w3 ⟨rfl, hg3⟩))
    have G3 := (hg2.al _).trans hg3
    clear hg2 hg3
    go_upto_region 9 with (go_at_call 93; ((with_reducible refine (gaddnil a _ _ (Ha.out.grow (by repeat (first | (with_reducible exact Grow.refl _) | (with_reducible exact G3) | (with_reducible refine Grow.trans ?_ (by assumption))))) (by exact E1.out)).mono ?_); rintro e1 w9 ⟨BA, ysA, capA, rfl, hx, hz, hg⟩; have XA := Lib.hid (And.intro hx hz); clear hx hz))
    go_wp2_with (first
      | (go_at_call 93; ((with_reducible refine (gadd ⟨BA, ysA, capA⟩ b _ _ (XA.out.1.grow (by repeat (first | (with_reducible exact Grow.refl _) | (with_reducible exact G3) | (with_reducible refine Grow.trans ?_ (by assumption))))) (Hb.out.grow (by repeat (first | (with_reducible exact Grow.refl _) | (with_reducible exact G3) | (with_reducible refine Grow.trans ?_ (by assumption))))) (by rw [show S.z ⟨BA, ysA, capA⟩ = _ from XA.out.2]; exact E2.out)).mono ?_); rintro e1 w9 ⟨Bx, ysx, capx, rfl, hx, hz, hg⟩; have Xx := Lib.hid (And.intro hx hz); clear hx hz))
      | (go_at_call 93; ((with_reducible refine (gadd b ⟨BA, ysA, capA⟩ _ _ (Hb.out.grow (by repeat (first | (with_reducible exact Grow.refl _) | (with_reducible exact G3) | (with_reducible refine Grow.trans ?_ (by assumption))))) (XA.out.1.grow (by repeat (first | (with_reducible exact Grow.refl _) | (with_reducible exact G3) | (with_reducible refine Grow.trans ?_ (by assumption))))) (by rw [show S.z ⟨BA, ysA, capA⟩ = _ from XA.out.2]; exact E3.out)).mono ?_); rintro e1 w9 ⟨Bu, ysu, capu, rfl, hx, hz, hg⟩; have Xu := Lib.hid (And.intro hx hz); clear hx hz))
      | (go_at_call 70; ((with_reducible refine (same_in ⟨Bx, ysx, capx⟩ ⟨Bu, ysu, capu⟩ _ (Xx.out.1.grow (by repeat (first | (with_reducible exact Grow.refl _) | (with_reducible exact G3) | (with_reducible refine Grow.trans ?_ (by assumption))))) (Xu.out.1.grow (by repeat (first | (with_reducible exact Grow.refl _) | (with_reducible exact G3) | (with_reducible refine Grow.trans ?_ (by assumption))))) (Xx.out.2.trans Xu.out.2.symm)).mono ?_); rintro e1 w9 ⟨rfl, hg⟩))
      | (go_at_call 93; ((with_reducible refine (gadd ⟨Bx, ysx, capx⟩ c _ _ (Xx.out.1.grow (by repeat (first | (with_reducible exact Grow.refl _) | (with_reducible exact G3) | (with_reducible refine Grow.trans ?_ (by assumption))))) (Hc.out.grow (by repeat (first | (with_reducible exact Grow.refl _) | (with_reducible exact G3) | (with_reducible refine Grow.trans ?_ (by assumption))))) (by rw [show S.z ⟨Bx, ysx, capx⟩ = _ from Xx.out.2]; exact E4.out)).mono ?_); rintro e1 w9 ⟨By, ysy, capy, rfl, hx, hz, hg⟩; have Xy := Lib.hid (And.intro hx hz); clear hx hz))
      | (go_at_call 93; ((with_reducible refine (gadd b c _ _ (Hb.out.grow (by repeat (first | (with_reducible exact Grow.refl _) | (with_reducible exact G3) | (with_reducible refine Grow.trans ?_ (by assumption))))) (Hc.out.grow (by repeat (first | (with_reducible exact Grow.refl _) | (with_reducible exact G3) | (with_reducible refine Grow.trans ?_ (by assumption))))) (by exact E5.out)).mono ?_); rintro e1 w9 ⟨Bbc, ysbc, capbc, rfl, hx, hz, hg⟩; have Xbc := Lib.hid (And.intro hx hz); clear hx hz))
      | (go_at_call 93; ((with_reducible refine (gadd ⟨BA, ysA, capA⟩ ⟨Bbc, ysbc, capbc⟩ _ _ (XA.out.1.grow (by repeat (first | (with_reducible exact Grow.refl _) | (with_reducible exact G3) | (with_reducible refine Grow.trans ?_ (by assumption))))) (Xbc.out.1.grow (by repeat (first | (with_reducible exact Grow.refl _) | (with_reducible exact G3) | (with_reducible refine Grow.trans ?_ (by assumption))))) (by rw [show S.z ⟨BA, ysA, capA⟩ = _ from XA.out.2, show S.z ⟨Bbc, ysbc, capbc⟩ = _ from Xbc.out.2]; exact E6.out)).mono ?_); rintro e1 w9 ⟨Bv, ysv, capv, rfl, hx, hz, hg⟩; have Xv := Lib.hid (And.intro hx hz); clear hx hz))
      | (go_at_call 70; ((with_reducible refine (same_in ⟨By, ysy, capy⟩ ⟨Bv, ysv, capv⟩ _ (Xy.out.1.grow (by repeat (first | (with_reducible exact Grow.refl _) | (with_reducible exact G3) | (with_reducible refine Grow.trans ?_ (by assumption))))) (Xv.out.1.grow (by repeat (first | (with_reducible exact Grow.refl _) | (with_reducible exact G3) | (with_reducible refine Grow.trans ?_ (by assumption))))) (Xy.out.2.trans Xv.out.2.symm)).mono ?_); rintro e1 w9 ⟨rfl, hg⟩))
      | (go_at_call 94; ((with_reducible refine (gneg ⟨BA, ysA, capA⟩ _ _ (XA.out.1.grow (by repeat (first | (with_reducible exact Grow.refl _) | (with_reducible exact G3) | (with_reducible refine Grow.trans ?_ (by assumption))))) (by rw [show S.z ⟨BA, ysA, capA⟩ = _ from XA.out.2]; exact E7.out)).mono ?_); rintro e1 w9 ⟨Bna, ysna, capna, rfl, hx, hz, hg⟩; have Xna := Lib.hid (And.intro hx hz); clear hx hz))
      | (go_at_call 93; ((with_reducible refine (gadd ⟨BA, ysA, capA⟩ ⟨Bna, ysna, capna⟩ _ _ (XA.out.1.grow (by repeat (first | (with_reducible exact Grow.refl _) | (with_reducible exact G3) | (with_reducible refine Grow.trans ?_ (by assumption))))) (Xna.out.1.grow (by repeat (first | (with_reducible exact Grow.refl _) | (with_reducible exact G3) | (with_reducible refine Grow.trans ?_ (by assumption))))) (by rw [show S.z ⟨BA, ysA, capA⟩ = _ from XA.out.2, show S.z ⟨Bna, ysna, capna⟩ = _ from Xna.out.2]; exact E8.out)).mono ?_); rintro e1 w9 ⟨Bz, ysz, capz, rfl, hx, hz, hg⟩; have hl : ysz.length = 0 := (by simpa [S.z] using congrArg List.length hz); have Xz := Lib.hid (And.intro hx hz); clear hx hz; rw [hl]; clear hl))
      | (go_at_call 95; ((with_reducible refine (gsub ⟨BA, ysA, capA⟩ b _ _ (XA.out.1.grow (by repeat (first | (with_reducible exact Grow.refl _) | (with_reducible exact G3) | (with_reducible refine Grow.trans ?_ (by assumption))))) (Hb.out.grow (by repeat (first | (with_reducible exact Grow.refl _) | (with_reducible exact G3) | (with_reducible refine Grow.trans ?_ (by assumption))))) (by rw [show S.z ⟨BA, ysA, capA⟩ = _ from XA.out.2]; exact E9.out)).mono ?_); rintro e1 w9 ⟨Bsb, yssb, capsb, rfl, hx, hz, hg⟩; have Xsb := Lib.hid (And.intro hx hz); clear hx hz))
      | (go_at_call 93; ((with_reducible refine (gadd ⟨Bsb, yssb, capsb⟩ b _ _ (Xsb.out.1.grow (by repeat (first | (with_reducible exact Grow.refl _) | (with_reducible exact G3) | (with_reducible refine Grow.trans ?_ (by assumption))))) (Hb.out.grow (by repeat (first | (with_reducible exact Grow.refl _) | (with_reducible exact G3) | (with_reducible refine Grow.trans ?_ (by assumption))))) (by rw [show S.z ⟨Bsb, yssb, capsb⟩ = _ from Xsb.out.2]; exact E10.out)).mono ?_); rintro e1 w9 ⟨Bt, yst, capt, rfl, hx, hz, hg⟩; have Xt := Lib.hid (And.intro hx hz); clear hx hz))
      | (go_at_call 70; ((with_reducible refine (same_in ⟨Bt, yst, capt⟩ ⟨BA, ysA, capA⟩ _ (Xt.out.1.grow (by repeat (first | (with_reducible exact Grow.refl _) | (with_reducible exact G3) | (with_reducible refine Grow.trans ?_ (by assumption))))) (XA.out.1.grow (by repeat (first | (with_reducible exact Grow.refl _) | (with_reducible exact G3) | (with_reducible refine Grow.trans ?_ (by assumption))))) (Xt.out.2.trans XA.out.2.symm)).mono ?_); rintro e1 w9 ⟨rfl, hg⟩))
      | (go_at_call 94; ((with_reducible refine (gneg b _ _ (Hb.out.grow (by repeat (first | (with_reducible exact Grow.refl _) | (with_reducible exact G3) | (with_reducible refine Grow.trans ?_ (by assumption))))) (by exact E11.out)).mono ?_); rintro e1 w9 ⟨Bnb, ysnb, capnb, rfl, hx, hz, hg⟩; have Xnb := Lib.hid (And.intro hx hz); clear hx hz))
      | (go_at_call 93; ((with_reducible refine (gadd ⟨BA, ysA, capA⟩ ⟨Bnb, ysnb, capnb⟩ _ _ (XA.out.1.grow (by repeat (first | (with_reducible exact Grow.refl _) | (with_reducible exact G3) | (with_reducible refine Grow.trans ?_ (by assumption))))) (Xnb.out.1.grow (by repeat (first | (with_reducible exact Grow.refl _) | (with_reducible exact G3) | (with_reducible refine Grow.trans ?_ (by assumption))))) (by rw [show S.z ⟨BA, ysA, capA⟩ = _ from XA.out.2, show S.z ⟨Bnb, ysnb, capnb⟩ = _ from Xnb.out.2]; exact E12.out)).mono ?_); rintro e1 w9 ⟨Bq, ysq, capq, rfl, hx, hz, hg⟩; have Xq := Lib.hid (And.intro hx hz); clear hx hz))
      | (go_at_call 70; ((with_reducible refine (same_in ⟨Bsb, yssb, capsb⟩ ⟨Bq, ysq, capq⟩ _ (Xsb.out.1.grow (by repeat (first | (with_reducible exact Grow.refl _) | (with_reducible exact G3) | (with_reducible refine Grow.trans ?_ (by assumption))))) (Xq.out.1.grow (by repeat (first | (with_reducible exact Grow.refl _) | (with_reducible exact G3) | (with_reducible refine Grow.trans ?_ (by assumption))))) (Xsb.out.2.trans Xq.out.2.symm)).mono ?_); rintro e1 w9 ⟨rfl, hg⟩))
      | (go_at_call 94; ((with_reducible refine (gneg ⟨Bna, ysna, capna⟩ _ _ (Xna.out.1.grow (by repeat (first | (with_reducible exact Grow.refl _) | (with_reducible exact G3) | (with_reducible refine Grow.trans ?_ (by assumption))))) (by rw [show S.z ⟨Bna, ysna, capna⟩ = _ from Xna.out.2]; exact E13.out)).mono ?_); rintro e1 w9 ⟨Bp, ysp, capp, rfl, hx, hz, hg⟩; have Xp := Lib.hid (And.intro hx hz); clear hx hz))
      | (go_at_call 70; ((with_reducible refine (same_in ⟨Bp, ysp, capp⟩ ⟨BA, ysA, capA⟩ _ (Xp.out.1.grow (by repeat (first | (with_reducible exact Grow.refl _) | (with_reducible exact G3) | (with_reducible refine Grow.trans ?_ (by assumption))))) (XA.out.1.grow (by repeat (first | (with_reducible exact Grow.refl _) | (with_reducible exact G3) | (with_reducible refine Grow.trans ?_ (by assumption))))) (Xp.out.2.trans XA.out.2.symm)).mono ?_); rintro e1 w9 ⟨rfl, hg⟩))
      | (go_at_call 93; ((with_reducible refine (gaddnil ⟨BA, ysA, capA⟩ _ _ (XA.out.1.grow (by repeat (first | (with_reducible exact Grow.refl _) | (with_reducible exact G3) | (with_reducible refine Grow.trans ?_ (by assumption))))) (by rw [show S.z ⟨BA, ysA, capA⟩ = _ from XA.out.2]; exact E14.out)).mono ?_); rintro e1 w9 ⟨Br, ysr, capr, rfl, hx, hz, hg⟩; have Xr := Lib.hid (And.intro hx hz); clear hx hz))
      | (go_at_call 70; ((with_reducible refine (same_in ⟨Br, ysr, capr⟩ ⟨BA, ysA, capA⟩ _ (Xr.out.1.grow (by repeat (first | (with_reducible exact Grow.refl _) | (with_reducible exact G3) | (with_reducible refine Grow.trans ?_ (by assumption))))) (XA.out.1.grow (by repeat (first | (with_reducible exact Grow.refl _) | (with_reducible exact G3) | (with_reducible refine Grow.trans ?_ (by assumption))))) (Xr.out.2.trans XA.out.2.symm)).mono ?_); rintro e1 w9 ⟨rfl, hg⟩)))
    go_ret
    exact ret_bool (by simp) (by repeat (first | (with_reducible exact Grow.refl _) | (with_reducible exact G3) | (with_reducible refine Grow.trans ?_ (by assumption))))
end Go.Proofs.Ytjhcbehnopmnpaa
