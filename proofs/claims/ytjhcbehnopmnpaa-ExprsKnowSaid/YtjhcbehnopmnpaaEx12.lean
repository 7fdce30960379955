/-
  The reference's Look.Type: the loop over the kids.
-/
import Derived.Test.YtjhcbehnopmnpaaEx11
namespace Go.Proofs.Ytjhcbehnopmnpaa
open Go.RowKit Go.Calm
set_option linter.unusedSimpArgs false
set_option linter.unusedVariables false

theorem info_u8 : (Try.prog.info? 5).map (fun i => (i.zero, i.size, i.bytes)) = some (some (.int .u8 0), 1, 1) := by kernel_rfl
theorem info_u8' : ∃ i, Try.prog.info? 5 = some i ∧ i.zero = some (.int .u8 0) ∧ i.size = 1 ∧ i.bytes = 1 := by
  have h := info_u8
  cases hi : Try.prog.info? 5 with
  | none => rw [hi] at h; simp at h
  | some i => rw [hi] at h; simp at h; exact ⟨i, rfl, h.1, h.2.1, h.2.2⟩
/-- `t` owns the letters of `ts` -/
abbrev OwnsL (w : World) (B : Nat) (t : Value) (ts : List Int) : Prop := w.ownsRow B 5 1 t ts.length (ts.map (fun x => Value.int .u8 (lett x)))
theorem OwnsL.cells {w : World} {B : Nat} {t : Value} {ts : List Int} (h : OwnsL w B t ts) (h1 : ts ≠ []) : ∃ g cap, t = .slice (some ⟨g, 0, none⟩) ts.length cap ∧ ts.length ≤ cap ∧ ∀ (i : Nat) (x : Int), ts[i]? = some x → w.cell? ⟨g, i, none⟩ = some (.int .u8 (lett x)) := by
  obtain ⟨_, h⟩ := h
  rcases h with ⟨_, h0⟩ | ⟨g, cap, cur, rfl, hB, hg, hle, hmx, hcs, htk⟩
  · exact absurd (List.length_eq_zero_iff.1 h0) h1
  · refine ⟨g, cap, rfl, hle, fun i x hx => ?_⟩
    have hi : i < ts.length := (List.getElem?_eq_some_iff.1 hx).1
    have hb : Blk w g 5 cur := hg
    rw [hb.cell i]
    have e : (ts.map (fun x => Value.int .u8 (lett x)))[i]? = some (.int .u8 (lett x)) := by simp [hx]
    rw [← htk, List.getElem?_take] at e
    simpa [hi] using e
theorem OwnsL.kept {w w' : World} {B g : Nat} {t : Value} {ts : List Int} (h : OwnsL w B t ts) (hg : GX g w w') (hlt : g < B) : OwnsL w' B t ts := World.ownsRow.kept h hg (own_ne h hlt)
/-- a kid that is fine, as the reference says it -/
theorem typOf_ok {k : Int} {m : Int} {ts : List Int} {T ER : Int} (h16 : k ≠ 16) (h : kindE k ts = (T, ER)) : typOf k (0, m, ts) = (T, ER, m) := by
  simp [typOf, h16, h]
theorem three_of {r : Int × Int × Int} {T ER M T' ER' M' : Int} (h : r = (T, ER, M)) (h' : r = (T', ER', M')) : T = T' ∧ ER = ER' ∧ M = M' := by
  rw [h] at h'; simpa using h'

/-- kinds that have kids -/
theorem kinds' {k : Int} (h : 1 ≤ kidsN k) : k = 3 ∨ k = 4 ∨ k = 5 ∨ (6 ≤ k ∧ k ≤ 11) ∨ k = 12 ∨ k = 13 ∨ k = 14 ∨ k = 15 ∨ k = 16 ∨ k = 17 ∨ k = 18 := by
  unfold kidsN at h
  repeat' split at h
  all_goals omega
theorem len1 {ts : List Int} (h : ts.length = 1) : ∃ x, ts = [x] := by
  match ts, h with
  | [x], _ => exact ⟨x, rfl⟩
theorem len2 {ts : List Int} (h : ts.length = 2) : ∃ x y, ts = [x, y] := by
  match ts, h with
  | [x, y], _ => exact ⟨x, y, rfl⟩
theorem len3 {ts : List Int} (h : ts.length = 3) : ∃ x y z, ts = [x, y, z] := by
  match ts, h with
  | [x, y, z], _ => exact ⟨x, y, z, rfl⟩

set_option maxRecDepth 100000 in
set_option maxHeartbeats 40000000 in
theorem rtyp_kids (cols : List Int) (Ac : Option Addr) (cc : Nat) (hall : cols.all colB = true) (k : Int) (v : V) (c : Int) (A : Option Addr) (n cap : Nat) (kid : Nat → E) (ih : ∀ i, RTypC cols Ac cc (kid i))
    (g : Nat) (deep m : Int) (w0 w : World) (hE : EX w0 (.mk k v c A n cap kid)) (hcols : ISl w0 Ac cols) (hg0 : Grow w0 w) (hlt : w0.heap.size ≤ g)
    (hb : Blk w g 108 #[.slice Ac cols.length cc, .int .i64 m]) (h0 : 0 ≤ m) (d1 : decide (200 < m + 1) = false) (d2 : decide (20 < deep) = false) (hd0 : 1 ≤ deep) (hkn : 1 ≤ kidsN k) (hn : (n : Int) = kidsN k)
    (T ER M : Int) (hT : typOf k (typKids (fun i m' => typE cols (kid i) (deep + 1) m') n 0 (m + 1) []) = (T, ER, M)) :
  Calls Try.prog 109 #[.pointer (some ⟨g, 0, none⟩), (E.mk k v c A n cap kid).val, .int .i64 deep] w fun en w' =>
    en = .returned (.tuple #[.int .u8 (letE T ER), .int .i64 ER]) ∧ Blk w' g 108 #[.slice Ac cols.length cc, .int .i64 M] ∧ GX g w w' := by
  have Hb := Lib.hid hb
  have HT := Lib.hid hT
  have Hn := Lib.hid hn
  have d3 : decide (kidsN k < 0) = false := by simp; omega
  have d4 : ((n : Int) != kidsN k) = false := by simpa using hn
  obtain ⟨cb, fb⟩ := hb.rules
  have hgN : g < w.heap.size := hb.lt
  have hgn : g ≠ w.heap.size := by omega
  have hn3 : n ≤ 3 := by have := kidsN_le k; omega
  have hm : m + 1 ≤ 200 := by simp at d1; omega
  have hd : deep ≤ 20 := by simp at d2; omega
  clear hT hn hb
  unfold E.val
  simp only [E.kind, E.v, E.col, E.A, E.n, E.cap]
  go_enter Try.func109, Try.ntmps109
  go_upto_region 9 with (go_at_call 144; ((with_reducible refine (rkids_any _ _).mono ?_); rintro en w' ⟨rfl, hg⟩; obtain ⟨hc, hf, hz⟩ := hg.rules))
  refine wp_forget (fun W => Blk W w.heap.size 47 #[.int .i64 k, .int .i64 v.k, .int .i64 v.n, .string v.s, .int .i64 c, .slice A n cap] ∧ Blk W g 108 #[.slice Ac cols.length cc, .int .i64 (m + 1)] ∧ GX g w W) ⟨(Blk.new' _ _ _ (by simp)).grow hg, ((Hb.out.set 1 _).al _).grow hg, (((GX.refl g w).set 1 _).al _).grow hg⟩ ?_
  clear hg hc hf hz cb fb Hb
  rintro W ⟨B, hb, hg⟩
  obtain ⟨cb, fb⟩ := B.rules
  have lB := B.lt
  go_wp2
  go_loopw [9, 47] (fun t i wr => ∃ (j : Nat) (m' : Int) (ts : List Int), j ≤ n ∧ i = .int .i64 j ∧ OwnsL wr (w.heap.size + 1) t ts ∧ Blk wr g 108 #[.slice Ac cols.length cc, .int .i64 m'] ∧ Blk wr w.heap.size 47 #[.int .i64 k, .int .i64 v.k, .int .i64 v.n, .string v.s, .int .i64 c, .slice A n cap] ∧ GX g w wr ∧ 0 ≤ m' ∧ m' ≤ 200 ∧ ts.length = j ∧ (∀ x ∈ ts, Ty x) ∧
      typKids (fun i m' => typE cols (kid i) (deep + 1) m') (n - j) j m' ts = typKids (fun i m' => typE cols (kid i) (deep + 1) m') n 0 (m + 1) []) (fun _ i _ => n - (intOf i).toNat)
  case atStart => exact ⟨0, m + 1, [], Nat.zero_le _, rfl, World.ownsRow_made _ _ 0 (by omega) (Nat.zero_le _) rfl, hb.al _, B.al _, hg.al _, by omega, by omega, rfl, by simp, rfl⟩
  case round =>
    obtain ⟨j, m', ts, hj, rfl, hown, hbr, hbx, hgx, hm0, hm1, htl, hty, hR⟩ := hrel
    clear hg cb fb lB B hb
    have hgw := GX.base hg0 hlt hgx
    have hszr := hgx.size
    have Own := Lib.hid hown
    have HR := Lib.hid hR
    have Hty := Lib.hid hty
    have hbs := Lib.hid hbr
    have hbb := Lib.hid hbx
    obtain ⟨cb, fb⟩ := hbr.rules
    obtain ⟨cx, fx⟩ := hbx.rules
    clear hown hR hbr hbx hty
    have Ti := Lib.hid info_u8'
    by_cases hlt2 : j < n
    · obtain ⟨gk, ok, hA, hck, hEk⟩ : ∃ gk ok, A = some ⟨gk, ok, none⟩ ∧ ECells w0 gk (ok + j * 6) (kid j) ∧ EX w0 (kid j) := by
        cases hE with
        | mk hn' hc hk hv hi =>
          obtain ⟨gk, ok, h1, h2⟩ := hc j hlt2
          exact ⟨gk, ok, h1, h2, hk j hlt2⟩
      subst hA
      obtain ⟨q1, q2, q3, hq⟩ : ∃ q1 q2 q3, typE cols (kid j) (deep + 1) m' = (q1, q2, q3) := ⟨_, _, _, rfl⟩
      have hbd := typE_bd cols (kid j) (deep + 1) m' hm1
      have hqt := typE_ty cols hall (kid j) (deep + 1) m'
      have ihj := fun W (hG : Grow wr W) => ih j g (deep + 1) m' w0 W hEk hcols (hgw.trans hG) (by assumption) (hbs.out.grow hG) hm0 hm1 (by omega) (by omega)
      rw [hq] at hbd ihj hqt
      simp only at hbd ihj hqt
      obtain ⟨k0, k1, k2, k3, k4, k5⟩ := hck.grow hgw
      have Hq := Lib.hid hq
      have Hqt := Lib.hid hqt
      clear hq hck hEk hqt
      by_cases h2 : q2 = 0
      · subst h2
        have eL : letE q1 0 = lett q1 := by simp [letE]
        rw [eL] at ihj
        clear eL
        obtain ⟨ti, hi, hz0, hz1, hz2⟩ := Ti.out
        go_wp2_with (first
          | (at_builtin; refine wpList_append_own _ rfl _ _ 129 rfl (w.heap.size + 1) 5 ti (.int .u8 0) 1 1 Try.underlying129 hi hz0 hz1 hz2 rfl (by decide) _ _ _ rfl (Own2.out.alloc _) ⟨w2.heap.size, 0, none⟩ 1 1 [.int .u8 (lett q1)] rfl rfl ?c1 ?c2 ?c3 ?c4 ?c5 ?_)
          | (go_at_call 109; ((with_reducible refine (ihj _ (by repeat (first | (with_reducible exact Grow.refl _) | (with_reducible assumption) | (with_reducible refine Grow.set ?_ (by first | (simp; done) | (simp; omega)) _) | (with_reducible refine Grow.al ?_ _) | (with_reducible refine Grow.drew ?_) | (with_reducible refine Grow.drewN ?_ _) | (with_reducible refine Grow.trans ?_ (by assumption))))).mono ?_); rintro e w2 ⟨rfl, hb2, hg2⟩; have hG1 := (GX.refl g wr).grow (by repeat (first | (with_reducible exact Grow.refl _) | (with_reducible assumption) | (with_reducible refine Grow.set ?_ (by first | (simp; done) | (simp; omega)) _) | (with_reducible refine Grow.al ?_ _) | (with_reducible refine Grow.drew ?_) | (with_reducible refine Grow.drewN ?_ _) | (with_reducible refine Grow.trans ?_ (by assumption)))) |>.trans hg2; have Own2 := Lib.hid (OwnsL.kept Own.out hG1 (by omega)))))
        case c1 =>
          intro j u hj
          match j, hj with
          | 0, hj => simp at hj; subst hj; simp [Addr.add]
        case c2 => intro u hu; simp at hu; subst hu; rfl
        case c3 => unfold maxLen; omega
        case c4 => omega
        case c5 => have := hg2.size; simp; simp at this; omega
        · intro v' w3 hown' hgrow _
          have Fin := Lib.hid (typKids_ok (F := fun i m' => typE cols (kid i) (deep + 1) m') (ts := ts) hlt2 Hq.out)
          have hb3 : Blk w3 g 108 #[.slice Ac cols.length cc, .int .i64 q3] := by
            have h1 := hb2.al (.cells #[.int .u8 (lett q1)] 5)
            have h2 := h1.lt
            unfold Blk at h1 ⊢
            rw [hgrow.block g h2 (fun e => by rcases own_ne Own.out (by omega : g < w.heap.size + 1) with h | h <;> rw [← e] at h <;> simp at h)]
            exact h1
          have hx3 : Blk w3 w.heap.size 47 #[.int .i64 k, .int .i64 v.k, .int .i64 v.n, .string v.s, .int .i64 c, .slice (some ⟨gk, ok, none⟩) n cap] := by
            have h1 := (GX.blk hG1 (by omega) hbb.out).al (.cells #[.int .u8 (lett q1)] 5)
            have h2 := h1.lt
            unfold Blk at h1 ⊢
            rw [hgrow.block w.heap.size h2 (fun e => by rcases own_ne Own.out (by omega : w.heap.size < w.heap.size + 1) with h | h <;> rw [← e] at h <;> simp at h)]
            exact h1
          have hg3 : GX g w w3 := GX.own ((hgx.trans hG1).al _) hgrow (fun i hi => by have := (Own.out.lt i hi).1; omega)
          clear hgrow hb2 hg2 ihj hG1
          go_wp2
          go_roundw
          case rel => exact ⟨j + 1, q3, ts ++ [q1], by omega, by go_num, by unfold OwnsL; simpa [htl] using hown', hb3, hx3, hg3, by have := hbd.1; omega, by simpa using hbd.2.2, by simp [htl], (fun x hx => by
            rcases List.mem_append.1 hx with hx | hx
            · exact Hty.out x hx
            · simp at hx; subst hx; exact (by first | exact Hqt.out rfl | exact Hqt.out trivial)), by rw [← Fin.out]; exact HR.out⟩
          case measure => simp [intOf]; omega
      · have dq : (q2 != 0) = true := by simpa using h2
        have fin : typOf k (typKids (fun i m' => typE cols (kid i) (deep + 1) m') n 0 (m + 1) []) = (0, q2, q3) := by
          rw [← HR.out, typKids_no (F := fun i m' => typE cols (kid i) (deep + 1) m') hlt2 Hq.out h2]
          simp [typOf, h2]
        obtain ⟨rfl, rfl, rfl⟩ : T = 0 ∧ ER = q2 ∧ M = q3 := by simpa using HT.out.symm.trans fin
        have eL : ∀ t, letE t ER = 0 := fun t => by simp [letE, h2]
        rw [eL] at ihj
        have Eh := Lib.hid h2
        clear fin h2 eL
        go_wp2_with (go_at_call 109; ((with_reducible refine (ihj _ (by repeat (first | (with_reducible exact Grow.refl _) | (with_reducible assumption) | (with_reducible refine Grow.set ?_ (by first | (simp; done) | (simp; omega)) _) | (with_reducible refine Grow.al ?_ _) | (with_reducible refine Grow.drew ?_) | (with_reducible refine Grow.drewN ?_ _) | (with_reducible refine Grow.trans ?_ (by assumption))))).mono ?_); rintro e w2 ⟨rfl, hb2, hg2⟩; have hG1 := (GX.refl g wr).grow (by repeat (first | (with_reducible exact Grow.refl _) | (with_reducible assumption) | (with_reducible refine Grow.set ?_ (by first | (simp; done) | (simp; omega)) _) | (with_reducible refine Grow.al ?_ _) | (with_reducible refine Grow.drew ?_) | (with_reducible refine Grow.drewN ?_ _) | (with_reducible refine Grow.trans ?_ (by assumption)))) |>.trans hg2))
        have eh := Eh.out
        exact bodyPost_ret (by simp [results, Try.results109, go_sem, letE, eh]) rfl ⟨rfl, hb2, hgx.trans hG1⟩
    · obtain rfl : j = n := by omega
      have fin : typOf k (0, m', ts) = (T, ER, M) := by
        rw [← HT.out, ← HR.out, Nat.sub_self]; rfl
      have Fin := Lib.hid fin
      clear fin HT HR
      obtain ⟨gt, capt, rfl, hct, hcell⟩ := Own.out.cells (by intro h; subst h; simp at htl; have := Hn.out; omega)
      rw [htl]
      have hlen : (ts.length : Int) = kidsN k := by rw [htl]; exact Hn.out
      rcases kinds' hkn with rfl | rfl | rfl | hk | rfl | rfl | rfl | rfl | rfl | rfl | rfl
      · obtain ⟨x, rfl⟩ : ∃ x, ts = [x] := len1 (by have : (ts.length : Int) = 1 := hlen; omega)
        have hx := Hty.out x (by simp)
        have c0 := hcell 0 x rfl
        have cn0 : ∀ n, (wr.drewN n).cell? ⟨gt, 0, none⟩ = some (.int .u8 (lett x)) := fun _ => c0
        simp only [List.length_cons, List.length_nil] at htl hct ⊢
        subst htl
        have twx := tog_want hx (.inl rfl : (2:Int) = 2 ∨ (2:Int) = 3 ∨ (2:Int) = 4)
        cases h1x : oneB x 2
        · rw [h1x] at twx
          have tx : (togL (lett x) 98 == 98) = false := twx
          clear twx
          obtain ⟨rfl, rfl, rfl⟩ := three_of Fin.out (typOf_ok (T := 0) (ER := 9) (by decide) (by simp [kindE, h1x]))
          clear Fin
          go_wp2_with ((go_at_call 145; ((with_reducible refine (together_any _ _ _).mono ?_); rintro e w' ⟨rfl, rfl⟩)))
          exact bodyPost_ret (by simp [results, Try.results109, go_sem, letE, lett]) rfl ⟨rfl, hbs.out, hgx⟩
        · rw [h1x] at twx
          have tx : (togL (lett x) 98 == 98) = true := twx
          clear twx
          obtain ⟨rfl, rfl, rfl⟩ := three_of Fin.out (typOf_ok (T := 2) (ER := 0) (by decide) (by simp [kindE, h1x]))
          clear Fin
          go_wp2_with ((go_at_call 145; ((with_reducible refine (together_any _ _ _).mono ?_); rintro e w' ⟨rfl, rfl⟩)))
          exact bodyPost_ret (by simp [results, Try.results109, go_sem, letE, lett]) rfl ⟨rfl, hbs.out, hgx⟩
      · obtain ⟨x, y, rfl⟩ : ∃ x y, ts = [x, y] := len2 (by have : (ts.length : Int) = 2 := hlen; omega)
        have hx := Hty.out x (by simp)
        have hy := Hty.out y (by simp)
        have c0 := hcell 0 x rfl
        have cn0 : ∀ n, (wr.drewN n).cell? ⟨gt, 0, none⟩ = some (.int .u8 (lett x)) := fun _ => c0
        have c1 := hcell 1 y rfl
        have cn1 : ∀ n, (wr.drewN n).cell? ⟨gt, 1, none⟩ = some (.int .u8 (lett y)) := fun _ => c1
        simp only [List.length_cons, List.length_nil] at htl hct ⊢
        subst htl
        have twx := tog_want hx (.inl rfl : (2:Int) = 2 ∨ (2:Int) = 3 ∨ (2:Int) = 4)
        have twy := tog_want hy (.inl rfl : (2:Int) = 2 ∨ (2:Int) = 3 ∨ (2:Int) = 4)
        cases h1x : oneB x 2
        · rw [h1x] at twx
          have tx : (togL (lett x) 98 == 98) = false := twx
          clear twx
          obtain ⟨rfl, rfl, rfl⟩ := three_of Fin.out (typOf_ok (T := 0) (ER := 9) (by decide) (by simp [kindE, h1x]))
          clear Fin
          go_wp2_with ((go_at_call 145; ((with_reducible refine (together_any _ _ _).mono ?_); rintro e w' ⟨rfl, rfl⟩)))
          exact bodyPost_ret (by simp [results, Try.results109, go_sem, letE, lett]) rfl ⟨rfl, hbs.out, hgx⟩
        · rw [h1x] at twx
          have tx : (togL (lett x) 98 == 98) = true := twx
          clear twx
          cases h1y : oneB y 2
          · rw [h1y] at twy
            have ty : (togL (lett y) 98 == 98) = false := twy
            clear twy
            obtain ⟨rfl, rfl, rfl⟩ := three_of Fin.out (typOf_ok (T := 0) (ER := 9) (by decide) (by simp [kindE, h1x, h1y]))
            clear Fin
            go_wp2_with ((go_at_call 145; ((with_reducible refine (together_any _ _ _).mono ?_); rintro e w' ⟨rfl, rfl⟩)))
            exact bodyPost_ret (by simp [results, Try.results109, go_sem, letE, lett]) rfl ⟨rfl, hbs.out, hgx⟩
          · rw [h1y] at twy
            have ty : (togL (lett y) 98 == 98) = true := twy
            clear twy
            obtain ⟨rfl, rfl, rfl⟩ := three_of Fin.out (typOf_ok (T := 2) (ER := 0) (by decide) (by simp [kindE, h1x, h1y]))
            clear Fin
            go_wp2_with ((go_at_call 145; ((with_reducible refine (together_any _ _ _).mono ?_); rintro e w' ⟨rfl, rfl⟩)))
            exact bodyPost_ret (by simp [results, Try.results109, go_sem, letE, lett]) rfl ⟨rfl, hbs.out, hgx⟩
      · obtain ⟨x, y, rfl⟩ : ∃ x y, ts = [x, y] := len2 (by have : (ts.length : Int) = 2 := hlen; omega)
        have hx := Hty.out x (by simp)
        have hy := Hty.out y (by simp)
        have c0 := hcell 0 x rfl
        have cn0 : ∀ n, (wr.drewN n).cell? ⟨gt, 0, none⟩ = some (.int .u8 (lett x)) := fun _ => c0
        have c1 := hcell 1 y rfl
        have cn1 : ∀ n, (wr.drewN n).cell? ⟨gt, 1, none⟩ = some (.int .u8 (lett y)) := fun _ => c1
        simp only [List.length_cons, List.length_nil] at htl hct ⊢
        subst htl
        have twx := tog_want hx (.inl rfl : (2:Int) = 2 ∨ (2:Int) = 3 ∨ (2:Int) = 4)
        have twy := tog_want hy (.inl rfl : (2:Int) = 2 ∨ (2:Int) = 3 ∨ (2:Int) = 4)
        cases h1x : oneB x 2
        · rw [h1x] at twx
          have tx : (togL (lett x) 98 == 98) = false := twx
          clear twx
          obtain ⟨rfl, rfl, rfl⟩ := three_of Fin.out (typOf_ok (T := 0) (ER := 9) (by decide) (by simp [kindE, h1x]))
          clear Fin
          go_wp2_with ((go_at_call 145; ((with_reducible refine (together_any _ _ _).mono ?_); rintro e w' ⟨rfl, rfl⟩)))
          exact bodyPost_ret (by simp [results, Try.results109, go_sem, letE, lett]) rfl ⟨rfl, hbs.out, hgx⟩
        · rw [h1x] at twx
          have tx : (togL (lett x) 98 == 98) = true := twx
          clear twx
          cases h1y : oneB y 2
          · rw [h1y] at twy
            have ty : (togL (lett y) 98 == 98) = false := twy
            clear twy
            obtain ⟨rfl, rfl, rfl⟩ := three_of Fin.out (typOf_ok (T := 0) (ER := 9) (by decide) (by simp [kindE, h1x, h1y]))
            clear Fin
            go_wp2_with ((go_at_call 145; ((with_reducible refine (together_any _ _ _).mono ?_); rintro e w' ⟨rfl, rfl⟩)))
            exact bodyPost_ret (by simp [results, Try.results109, go_sem, letE, lett]) rfl ⟨rfl, hbs.out, hgx⟩
          · rw [h1y] at twy
            have ty : (togL (lett y) 98 == 98) = true := twy
            clear twy
            obtain ⟨rfl, rfl, rfl⟩ := three_of Fin.out (typOf_ok (T := 2) (ER := 0) (by decide) (by simp [kindE, h1x, h1y]))
            clear Fin
            go_wp2_with ((go_at_call 145; ((with_reducible refine (together_any _ _ _).mono ?_); rintro e w' ⟨rfl, rfl⟩)))
            exact bodyPost_ret (by simp [results, Try.results109, go_sem, letE, lett]) rfl ⟨rfl, hbs.out, hgx⟩
      · have hlen2 : kidsN k = 2 := by unfold kidsN; rw [if_neg (by omega), if_neg (by omega), if_pos (by omega)]
        obtain ⟨x, y, rfl⟩ : ∃ x y, ts = [x, y] := len2 (by omega)
        have hx := Hty.out x (by simp)
        have hy := Hty.out y (by simp)
        have c0 := hcell 0 x rfl
        have cn0 : ∀ n, (wr.drewN n).cell? ⟨gt, 0, none⟩ = some (.int .u8 (lett x)) := fun _ => c0
        have c1 := hcell 1 y rfl
        have cn1 : ∀ n, (wr.drewN n).cell? ⟨gt, 1, none⟩ = some (.int .u8 (lett y)) := fun _ => c1
        simp only [List.length_cons, List.length_nil] at htl hct ⊢
        subst htl
        have tt := tog_two hx hy
        have e1 : (k == 1) = false := by simp; omega
        have e2 : (k == 2) = false := by simp; omega
        have e3 : (k == 3) = false := by simp; omega
        have e4 : (k == 4) = false := by simp; omega
        have e5 : (k == 5) = false := by simp; omega
        have e12 : (k == 12) = false := by simp; omega
        have e13 : (k == 13) = false := by simp; omega
        have e14 : (k == 14) = false := by simp; omega
        have e15 : (k == 15) = false := by simp; omega
        have e16 : (k == 16) = false := by simp; omega
        have e17 : (k == 17) = false := by simp; omega
        have e18 : (k == 18) = false := by simp; omega
        have h16 : k ≠ 16 := by omega
        have kc : kindE k [x, y] = (if oneB x y then (2, 0) else (0, 9)) := by unfold kindE; rw [if_neg (by omega), if_pos (by omega)]; rfl
        clear hk hkn hlen hlen2
        cases h1 : oneB x y
        · rw [h1, if_neg (by simp)] at tt
          obtain ⟨rfl, rfl, rfl⟩ := three_of Fin.out (typOf_ok (T := 0) (ER := 9) h16 (by rw [kc, h1]; rfl))
          clear Fin
          go_wp2
          go_quiet ((go_at_call 145; exact Calls.quiet_of_same (tog_q _ _ _)))
          go_wp2_with ((go_at_call 145; ((with_reducible refine (together_any _ _ _).mono ?_); rintro e w' ⟨rfl, rfl⟩)))
          exact bodyPost_ret (by simp [results, Try.results109, go_sem, letE, lett]) rfl ⟨rfl, hbs.out, hgx.drewN _⟩
        · rw [h1, if_pos rfl] at tt
          have tl : (lett (oneT x y) != 0) = true := by simp [lett_ne]
          obtain ⟨rfl, rfl, rfl⟩ := three_of Fin.out (typOf_ok (T := 2) (ER := 0) h16 (by rw [kc, h1]; rfl))
          clear Fin
          go_wp2
          go_quiet ((go_at_call 145; exact Calls.quiet_of_same (tog_q _ _ _)))
          go_wp2_with ((go_at_call 145; ((with_reducible refine (together_any _ _ _).mono ?_); rintro e w' ⟨rfl, rfl⟩)))
          exact bodyPost_ret (by simp [results, Try.results109, go_sem, letE, lett]) rfl ⟨rfl, hbs.out, hgx.drewN _⟩
      · obtain ⟨x, y, rfl⟩ : ∃ x y, ts = [x, y] := len2 (by have : (ts.length : Int) = 2 := hlen; omega)
        have hx := Hty.out x (by simp)
        have hy := Hty.out y (by simp)
        have c0 := hcell 0 x rfl
        have cn0 : ∀ n, (wr.drewN n).cell? ⟨gt, 0, none⟩ = some (.int .u8 (lett x)) := fun _ => c0
        have c1 := hcell 1 y rfl
        have cn1 : ∀ n, (wr.drewN n).cell? ⟨gt, 1, none⟩ = some (.int .u8 (lett y)) := fun _ => c1
        simp only [List.length_cons, List.length_nil] at htl hct ⊢
        subst htl
        have twx := tog_want hx (.inr (.inl rfl) : (3:Int) = 2 ∨ (3:Int) = 3 ∨ (3:Int) = 4)
        have twy := tog_want hy (.inr (.inl rfl) : (3:Int) = 2 ∨ (3:Int) = 3 ∨ (3:Int) = 4)
        cases h1x : oneB x 3
        · rw [h1x] at twx
          have tx : (togL (lett x) 105 == 105) = false := twx
          clear twx
          obtain ⟨rfl, rfl, rfl⟩ := three_of Fin.out (typOf_ok (T := 0) (ER := 9) (by decide) (by simp [kindE, h1x]))
          clear Fin
          go_wp2_with ((go_at_call 145; ((with_reducible refine (together_any _ _ _).mono ?_); rintro e w' ⟨rfl, rfl⟩)))
          exact bodyPost_ret (by simp [results, Try.results109, go_sem, letE, lett]) rfl ⟨rfl, hbs.out, hgx⟩
        · rw [h1x] at twx
          have tx : (togL (lett x) 105 == 105) = true := twx
          clear twx
          cases h1y : oneB y 3
          · rw [h1y] at twy
            have ty : (togL (lett y) 105 == 105) = false := twy
            clear twy
            obtain ⟨rfl, rfl, rfl⟩ := three_of Fin.out (typOf_ok (T := 0) (ER := 9) (by decide) (by simp [kindE, h1x, h1y]))
            clear Fin
            go_wp2_with ((go_at_call 145; ((with_reducible refine (together_any _ _ _).mono ?_); rintro e w' ⟨rfl, rfl⟩)))
            exact bodyPost_ret (by simp [results, Try.results109, go_sem, letE, lett]) rfl ⟨rfl, hbs.out, hgx⟩
          · rw [h1y] at twy
            have ty : (togL (lett y) 105 == 105) = true := twy
            clear twy
            obtain ⟨rfl, rfl, rfl⟩ := three_of Fin.out (typOf_ok (T := 3) (ER := 0) (by decide) (by simp [kindE, h1x, h1y]))
            clear Fin
            go_wp2_with ((go_at_call 145; ((with_reducible refine (together_any _ _ _).mono ?_); rintro e w' ⟨rfl, rfl⟩)))
            exact bodyPost_ret (by simp [results, Try.results109, go_sem, letE, lett]) rfl ⟨rfl, hbs.out, hgx⟩
      · obtain ⟨x, y, rfl⟩ : ∃ x y, ts = [x, y] := len2 (by have : (ts.length : Int) = 2 := hlen; omega)
        have hx := Hty.out x (by simp)
        have hy := Hty.out y (by simp)
        have c0 := hcell 0 x rfl
        have cn0 : ∀ n, (wr.drewN n).cell? ⟨gt, 0, none⟩ = some (.int .u8 (lett x)) := fun _ => c0
        have c1 := hcell 1 y rfl
        have cn1 : ∀ n, (wr.drewN n).cell? ⟨gt, 1, none⟩ = some (.int .u8 (lett y)) := fun _ => c1
        simp only [List.length_cons, List.length_nil] at htl hct ⊢
        subst htl
        have twx := tog_want hx (.inr (.inl rfl) : (3:Int) = 2 ∨ (3:Int) = 3 ∨ (3:Int) = 4)
        have twy := tog_want hy (.inr (.inl rfl) : (3:Int) = 2 ∨ (3:Int) = 3 ∨ (3:Int) = 4)
        cases h1x : oneB x 3
        · rw [h1x] at twx
          have tx : (togL (lett x) 105 == 105) = false := twx
          clear twx
          obtain ⟨rfl, rfl, rfl⟩ := three_of Fin.out (typOf_ok (T := 0) (ER := 9) (by decide) (by simp [kindE, h1x]))
          clear Fin
          go_wp2_with ((go_at_call 145; ((with_reducible refine (together_any _ _ _).mono ?_); rintro e w' ⟨rfl, rfl⟩)))
          exact bodyPost_ret (by simp [results, Try.results109, go_sem, letE, lett]) rfl ⟨rfl, hbs.out, hgx⟩
        · rw [h1x] at twx
          have tx : (togL (lett x) 105 == 105) = true := twx
          clear twx
          cases h1y : oneB y 3
          · rw [h1y] at twy
            have ty : (togL (lett y) 105 == 105) = false := twy
            clear twy
            obtain ⟨rfl, rfl, rfl⟩ := three_of Fin.out (typOf_ok (T := 0) (ER := 9) (by decide) (by simp [kindE, h1x, h1y]))
            clear Fin
            go_wp2_with ((go_at_call 145; ((with_reducible refine (together_any _ _ _).mono ?_); rintro e w' ⟨rfl, rfl⟩)))
            exact bodyPost_ret (by simp [results, Try.results109, go_sem, letE, lett]) rfl ⟨rfl, hbs.out, hgx⟩
          · rw [h1y] at twy
            have ty : (togL (lett y) 105 == 105) = true := twy
            clear twy
            obtain ⟨rfl, rfl, rfl⟩ := three_of Fin.out (typOf_ok (T := 3) (ER := 0) (by decide) (by simp [kindE, h1x, h1y]))
            clear Fin
            go_wp2_with ((go_at_call 145; ((with_reducible refine (together_any _ _ _).mono ?_); rintro e w' ⟨rfl, rfl⟩)))
            exact bodyPost_ret (by simp [results, Try.results109, go_sem, letE, lett]) rfl ⟨rfl, hbs.out, hgx⟩
      · obtain ⟨x, y, rfl⟩ : ∃ x y, ts = [x, y] := len2 (by have : (ts.length : Int) = 2 := hlen; omega)
        have hx := Hty.out x (by simp)
        have hy := Hty.out y (by simp)
        have c0 := hcell 0 x rfl
        have cn0 : ∀ n, (wr.drewN n).cell? ⟨gt, 0, none⟩ = some (.int .u8 (lett x)) := fun _ => c0
        have c1 := hcell 1 y rfl
        have cn1 : ∀ n, (wr.drewN n).cell? ⟨gt, 1, none⟩ = some (.int .u8 (lett y)) := fun _ => c1
        simp only [List.length_cons, List.length_nil] at htl hct ⊢
        subst htl
        have twx := tog_want hx (.inr (.inl rfl) : (3:Int) = 2 ∨ (3:Int) = 3 ∨ (3:Int) = 4)
        have twy := tog_want hy (.inr (.inl rfl) : (3:Int) = 2 ∨ (3:Int) = 3 ∨ (3:Int) = 4)
        cases h1x : oneB x 3
        · rw [h1x] at twx
          have tx : (togL (lett x) 105 == 105) = false := twx
          clear twx
          obtain ⟨rfl, rfl, rfl⟩ := three_of Fin.out (typOf_ok (T := 0) (ER := 9) (by decide) (by simp [kindE, h1x]))
          clear Fin
          go_wp2_with ((go_at_call 145; ((with_reducible refine (together_any _ _ _).mono ?_); rintro e w' ⟨rfl, rfl⟩)))
          exact bodyPost_ret (by simp [results, Try.results109, go_sem, letE, lett]) rfl ⟨rfl, hbs.out, hgx⟩
        · rw [h1x] at twx
          have tx : (togL (lett x) 105 == 105) = true := twx
          clear twx
          cases h1y : oneB y 3
          · rw [h1y] at twy
            have ty : (togL (lett y) 105 == 105) = false := twy
            clear twy
            obtain ⟨rfl, rfl, rfl⟩ := three_of Fin.out (typOf_ok (T := 0) (ER := 9) (by decide) (by simp [kindE, h1x, h1y]))
            clear Fin
            go_wp2_with ((go_at_call 145; ((with_reducible refine (together_any _ _ _).mono ?_); rintro e w' ⟨rfl, rfl⟩)))
            exact bodyPost_ret (by simp [results, Try.results109, go_sem, letE, lett]) rfl ⟨rfl, hbs.out, hgx⟩
          · rw [h1y] at twy
            have ty : (togL (lett y) 105 == 105) = true := twy
            clear twy
            obtain ⟨rfl, rfl, rfl⟩ := three_of Fin.out (typOf_ok (T := 3) (ER := 0) (by decide) (by simp [kindE, h1x, h1y]))
            clear Fin
            go_wp2_with ((go_at_call 145; ((with_reducible refine (together_any _ _ _).mono ?_); rintro e w' ⟨rfl, rfl⟩)))
            exact bodyPost_ret (by simp [results, Try.results109, go_sem, letE, lett]) rfl ⟨rfl, hbs.out, hgx⟩
      · obtain ⟨x, y, rfl⟩ : ∃ x y, ts = [x, y] := len2 (by have : (ts.length : Int) = 2 := hlen; omega)
        have hx := Hty.out x (by simp)
        have hy := Hty.out y (by simp)
        have c0 := hcell 0 x rfl
        have cn0 : ∀ n, (wr.drewN n).cell? ⟨gt, 0, none⟩ = some (.int .u8 (lett x)) := fun _ => c0
        have c1 := hcell 1 y rfl
        have cn1 : ∀ n, (wr.drewN n).cell? ⟨gt, 1, none⟩ = some (.int .u8 (lett y)) := fun _ => c1
        simp only [List.length_cons, List.length_nil] at htl hct ⊢
        subst htl
        have twx := tog_want hx (.inr (.inr rfl) : (4:Int) = 2 ∨ (4:Int) = 3 ∨ (4:Int) = 4)
        have twy := tog_want hy (.inr (.inr rfl) : (4:Int) = 2 ∨ (4:Int) = 3 ∨ (4:Int) = 4)
        cases h1x : oneB x 4
        · rw [h1x] at twx
          have tx : (togL (lett x) 116 == 116) = false := twx
          clear twx
          obtain ⟨rfl, rfl, rfl⟩ := three_of Fin.out (typOf_ok (T := 0) (ER := 9) (by decide) (by simp [kindE, h1x]))
          clear Fin
          go_wp2_with ((go_at_call 145; ((with_reducible refine (together_any _ _ _).mono ?_); rintro e w' ⟨rfl, rfl⟩)))
          exact bodyPost_ret (by simp [results, Try.results109, go_sem, letE, lett]) rfl ⟨rfl, hbs.out, hgx⟩
        · rw [h1x] at twx
          have tx : (togL (lett x) 116 == 116) = true := twx
          clear twx
          cases h1y : oneB y 4
          · rw [h1y] at twy
            have ty : (togL (lett y) 116 == 116) = false := twy
            clear twy
            obtain ⟨rfl, rfl, rfl⟩ := three_of Fin.out (typOf_ok (T := 0) (ER := 9) (by decide) (by simp [kindE, h1x, h1y]))
            clear Fin
            go_wp2_with ((go_at_call 145; ((with_reducible refine (together_any _ _ _).mono ?_); rintro e w' ⟨rfl, rfl⟩)))
            exact bodyPost_ret (by simp [results, Try.results109, go_sem, letE, lett]) rfl ⟨rfl, hbs.out, hgx⟩
          · rw [h1y] at twy
            have ty : (togL (lett y) 116 == 116) = true := twy
            clear twy
            obtain ⟨rfl, rfl, rfl⟩ := three_of Fin.out (typOf_ok (T := 4) (ER := 0) (by decide) (by simp [kindE, h1x, h1y]))
            clear Fin
            go_wp2_with ((go_at_call 145; ((with_reducible refine (together_any _ _ _).mono ?_); rintro e w' ⟨rfl, rfl⟩)))
            exact bodyPost_ret (by simp [results, Try.results109, go_sem, letE, lett]) rfl ⟨rfl, hbs.out, hgx⟩
      · obtain ⟨x, rfl⟩ : ∃ x, ts = [x] := len1 (by have : (ts.length : Int) = 1 := hlen; omega)
        have hx := Hty.out x (by simp)
        have c0 := hcell 0 x rfl
        have cn0 : ∀ n, (wr.drewN n).cell? ⟨gt, 0, none⟩ = some (.int .u8 (lett x)) := fun _ => c0
        simp only [List.length_cons, List.length_nil] at htl hct ⊢
        subst htl
        obtain ⟨rfl, rfl, rfl⟩ := three_of Fin.out (show typOf 16 (0, m', [x]) = (2, 0, m') by simp [typOf])
        clear Fin
        go_wp2
        exact bodyPost_ret (by simp [results, Try.results109, go_sem, letE, lett]) rfl ⟨rfl, hbs.out, hgx⟩
      · obtain ⟨x, y, z, rfl⟩ : ∃ x y z, ts = [x, y, z] := len3 (by have : (ts.length : Int) = 3 := hlen; omega)
        have hx := Hty.out x (by simp)
        have hy := Hty.out y (by simp)
        have hz := Hty.out z (by simp)
        have c0 := hcell 0 x rfl
        have cn0 : ∀ n, (wr.drewN n).cell? ⟨gt, 0, none⟩ = some (.int .u8 (lett x)) := fun _ => c0
        have c1 := hcell 1 y rfl
        have cn1 : ∀ n, (wr.drewN n).cell? ⟨gt, 1, none⟩ = some (.int .u8 (lett y)) := fun _ => c1
        have c2 := hcell 2 z rfl
        have cn2 : ∀ n, (wr.drewN n).cell? ⟨gt, 2, none⟩ = some (.int .u8 (lett z)) := fun _ => c2
        simp only [List.length_cons, List.length_nil] at htl hct ⊢
        subst htl
        have tt := tog_two hy hz
        have twx := tog_want hx (.inl rfl : (2:Int) = 2 ∨ (2:Int) = 3 ∨ (2:Int) = 4)
        cases h1 : oneB y z
        · rw [h1, if_neg (by simp)] at tt
          clear twx
          obtain ⟨rfl, rfl, rfl⟩ := three_of Fin.out (typOf_ok (T := 0) (ER := 9) (by decide) (by simp [kindE, h1]))
          clear Fin
          go_wp2
          go_quiet ((go_at_call 145; exact Calls.quiet_of_same (tog_q _ _ _)))
          go_wp2_with ((go_at_call 145; ((with_reducible refine (together_any _ _ _).mono ?_); rintro e w' ⟨rfl, rfl⟩)))
          exact bodyPost_ret (by simp [results, Try.results109, go_sem, letE, lett]) rfl ⟨rfl, hbs.out, hgx.drewN _⟩
        · rw [h1, if_pos rfl] at tt
          have tl : (lett (oneT y z) != 0) = true := by simp [lett_ne]
          cases h1x : oneB x 2
          · rw [h1x] at twx
            have tx : (togL (lett x) 98 == 98) = false := twx
            clear twx
            obtain ⟨rfl, rfl, rfl⟩ := three_of Fin.out (typOf_ok (T := 0) (ER := 9) (by decide) (by simp [kindE, h1, h1x]))
            clear Fin
            go_wp2
            go_quiet ((go_at_call 145; exact Calls.quiet_of_same (tog_q _ _ _)))
            go_wp2_with ((go_at_call 145; ((with_reducible refine (together_any _ _ _).mono ?_); rintro e w' ⟨rfl, rfl⟩)))
            exact bodyPost_ret (by simp [results, Try.results109, go_sem, letE, lett]) rfl ⟨rfl, hbs.out, hgx.drewN _⟩
          · rw [h1x] at twx
            have tx : (togL (lett x) 98 == 98) = true := twx
            clear twx
            obtain ⟨rfl, rfl, rfl⟩ := three_of Fin.out (typOf_ok (T := (oneT y z)) (ER := 0) (by decide) (by simp [kindE, h1, h1x]))
            clear Fin
            go_wp2
            go_quiet ((go_at_call 145; exact Calls.quiet_of_same (tog_q _ _ _)))
            go_wp2_with ((go_at_call 145; ((with_reducible refine (together_any _ _ _).mono ?_); rintro e w' ⟨rfl, rfl⟩)))
            exact bodyPost_ret (by simp [results, Try.results109, go_sem, letE, lett]) rfl ⟨rfl, hbs.out, hgx.drewN _⟩
      · obtain ⟨x, y, rfl⟩ : ∃ x y, ts = [x, y] := len2 (by have : (ts.length : Int) = 2 := hlen; omega)
        have hx := Hty.out x (by simp)
        have hy := Hty.out y (by simp)
        have c0 := hcell 0 x rfl
        have cn0 : ∀ n, (wr.drewN n).cell? ⟨gt, 0, none⟩ = some (.int .u8 (lett x)) := fun _ => c0
        have c1 := hcell 1 y rfl
        have cn1 : ∀ n, (wr.drewN n).cell? ⟨gt, 1, none⟩ = some (.int .u8 (lett y)) := fun _ => c1
        simp only [List.length_cons, List.length_nil] at htl hct ⊢
        subst htl
        have tt := tog_two hx hy
        cases h1 : oneB x y
        · rw [h1, if_neg (by simp)] at tt
          obtain ⟨rfl, rfl, rfl⟩ := three_of Fin.out (typOf_ok (T := 0) (ER := 9) (by decide) (by simp [kindE, h1]))
          clear Fin
          go_wp2
          go_quiet ((go_at_call 145; exact Calls.quiet_of_same (tog_q _ _ _)))
          go_wp2_with ((go_at_call 145; ((with_reducible refine (together_any _ _ _).mono ?_); rintro e w' ⟨rfl, rfl⟩)))
          exact bodyPost_ret (by simp [results, Try.results109, go_sem, letE, lett]) rfl ⟨rfl, hbs.out, hgx.drewN _⟩
        · rw [h1, if_pos rfl] at tt
          have tl : (lett (oneT x y) != 0) = true := by simp [lett_ne]
          obtain ⟨rfl, rfl, rfl⟩ := three_of Fin.out (typOf_ok (T := (oneT x y)) (ER := 0) (by decide) (by simp [kindE, h1]))
          clear Fin
          go_wp2
          go_quiet ((go_at_call 145; exact Calls.quiet_of_same (tog_q _ _ _)))
          go_wp2_with ((go_at_call 145; ((with_reducible refine (together_any _ _ _).mono ?_); rintro e w' ⟨rfl, rfl⟩)))
          exact bodyPost_ret (by simp [results, Try.results109, go_sem, letE, tt]) rfl ⟨rfl, hbs.out, hgx.drewN _⟩
end Go.Proofs.Ytjhcbehnopmnpaa
