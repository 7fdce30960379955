/-
  looker.typ: the loop over the kids.
-/
import Derived.Test.YtjhcbehnopmnpaaEx5
namespace Go.Proofs.Ytjhcbehnopmnpaa
open Go.RowKit Go.Calm
set_option linter.unusedSimpArgs false
set_option linter.unusedVariables false

/-- what typE says of an expression with kids, once its own form is right -/
def typOf (k : Int) (r : Int × Int × List Int) : Int × Int × Int :=
  if r.1 ≠ 0 then (0, r.1, r.2.1)
  else if k = 16 then (2, 0, r.2.1)
  else ((kindE k r.2.2).1, (kindE k r.2.2).2, r.2.1)
theorem typE_kids (cols : List Int) (k : Int) (v : V) (c : Int) (A : Option Addr) (n cap : Nat) (kid : Nat → E) (deep m : Int) (h1 : ¬ (200 < m + 1 ∨ 20 < deep)) (h2 : 1 ≤ kidsN k) (h3 : (n : Int) = kidsN k) :
    typE cols (.mk k v c A n cap kid) deep m = typOf k (typKids (fun i m' => typE cols (kid i) (deep + 1) m') n 0 (m + 1) []) := by
  have hk1 : k ≠ 1 := by rintro rfl; have : kidsN 1 = 0 := rfl; omega
  have hk2 : k ≠ 2 := by rintro rfl; have : kidsN 2 = 0 := rfl; omega
  conv => lhs; unfold typE
  rw [if_neg h1, if_neg (by omega), if_neg (by omega)]
  simp only [if_neg hk1, if_neg hk2]
  rfl

theorem kidsN_le (k : Int) : kidsN k ≤ 3 := by
  unfold kidsN
  repeat' split
  all_goals omega
theorem typKids_ok {F : Nat → Int → Int × Int × Int} {n j : Nat} {m q1 q3 : Int} {ts : List Int} (hj : j < n) (h : F j m = (q1, 0, q3)) : typKids F (n - j) j m ts = typKids F (n - (j + 1)) (j + 1) q3 (ts ++ [q1]) := by
  rw [show n - j = (n - (j + 1)) + 1 by omega]
  conv => lhs; unfold typKids
  rw [h]; simp
theorem typKids_no {F : Nat → Int → Int × Int × Int} {n j : Nat} {m q1 q2 q3 : Int} {ts : List Int} (hj : j < n) (h : F j m = (q1, q2, q3)) (hne : q2 ≠ 0) : typKids F (n - j) j m ts = (q2, q3, ts) := by
  rw [show n - j = (n - (j + 1)) + 1 by omega]
  conv => lhs; unfold typKids
  rw [h]; simp [hne]
theorem own_ne {w : World} {B g : Nat} {t : Value} {ts : List Value} {e : TypeId} {n : Nat} (h : w.ownsRow B e 1 t n ts) (hg : g < B) : t.ownBlock = none ∨ t.ownBlock ≠ some g := by
  right
  intro he
  have := (h.lt g he).1
  omega

theorem info_int : (Try.prog.info? 3).map (fun i => (i.zero, i.size, i.bytes)) = some (some (.int .i64 0), 1, 8) := by kernel_rfl
theorem info_int' : ∃ i, Try.prog.info? 3 = some i ∧ i.zero = some (.int .i64 0) ∧ i.size = 1 ∧ i.bytes = 8 := by
  have h := info_int
  cases hi : Try.prog.info? 3 with
  | none => rw [hi] at h; simp at h
  | some i => rw [hi] at h; simp at h; exact ⟨i, rfl, h.1, h.2.1, h.2.2⟩

/-- `t` owns the ints `ts` -/
abbrev Owns (w : World) (B : Nat) (t : Value) (ts : List Int) : Prop := w.ownsRow B 3 1 t ts.length (ts.map (Value.int .i64))

theorem kind_own (k : Int) (t : Value) (ts : List Int) (B : Nat) (w : World) (h : Owns w B t ts) (hl : (ts.length : Int) = kidsN k) (h1 : 1 ≤ kidsN k) (h16 : k ≠ 16) :
    Calls Try.prog 143 #[.int .i64 k, t] w fun e w' => e = .returned (.tuple #[.int .i64 (kindE k ts).1, .int .i64 (kindE k ts).2]) ∧ Grow w w' := by
  obtain ⟨_, h⟩ := h
  rcases h with ⟨_, h0⟩ | ⟨g, cap, cur, rfl, hB, hg, hle, hmx, hcs, htk⟩
  · omega
  · have cell : ∀ (i : Nat) (x : Int), ts[i]? = some x → w.cell? ⟨g, i, none⟩ = some (.int .i64 x) := fun i x hx => by
      have hi : i < ts.length := (List.getElem?_eq_some_iff.1 hx).1
      have hb : Blk w g 3 cur := hg
      rw [hb.cell i]
      have e : (ts.map (Value.int .i64))[i]? = some (.int .i64 x) := by simp [hx]
      rw [← htk, List.getElem?_take] at e
      simpa [hi] using e
    have hk : k ≤ 5 ∨ (6 ≤ k ∧ k ≤ 11 ∨ k = 18) ∨ (12 ≤ k ∧ k ≤ 15) ∨ k = 17 := by
      unfold kidsN at h1
      repeat' split at h1
      all_goals omega
    have hsl : ISl w (some ⟨g, 0, none⟩) ts := fun i x hx => ⟨g, 0, rfl, by rw [Nat.zero_add]; exact cell i x hx⟩
    have hlen : ts.length ≤ 9223372036854775807 := by have := kidsN_le k; omega
    rcases hk with hk | hk | hk | rfl
    · exact kind_all k ts _ _ w hlen hsl (.inl hk)
    · have h2 : kidsN k = 2 := by
        unfold kidsN
        repeat' split
        all_goals omega
      match ts, hl, cell with
      | [x, y], _, cell => exact kind_two k x y g 0 cap w (cell 0 x rfl) (cell 1 y rfl) hk
      | [], hl, _ => simp at hl; omega
      | [_], hl, _ => simp at hl; omega
      | _ :: _ :: _ :: _, hl, _ => simp at hl; omega
    · exact kind_all k ts _ _ w hlen hsl (.inr hk)
    · have h3 : kidsN 17 = 3 := rfl
      match ts, hl, cell, hle with
      | [x, y, z], _, cell, hle => exact kind_three x y z g 0 cap (by simp at hle; omega) w (cell 0 x rfl) (cell 1 y rfl) (cell 2 z rfl)
      | [], hl, _, _ => simp at hl; omega
      | [_], hl, _, _ => simp at hl; omega
      | [_, _], hl, _, _ => simp at hl; omega
      | _ :: _ :: _ :: _ :: _, hl, _, _ => simp at hl; omega

set_option maxRecDepth 100000 in
set_option maxHeartbeats 4000000 in
theorem typ_kids (cols : List Int) (Ac : Option Addr) (cc : Nat) (k : Int) (v : V) (c : Int) (A : Option Addr) (n cap : Nat) (kid : Nat → E) (ih : ∀ i, TypC cols Ac cc (kid i))
    (gx ox g : Nat) (deep m : Int) (w0 w : World) (hE : EX w0 (.mk k v c A n cap kid)) (hx : ECells w0 gx ox (.mk k v c A n cap kid)) (hcols : ISl w0 Ac cols) (hg0 : Grow w0 w) (hlt : w0.heap.size ≤ g)
    (hb : Blk w g 102 #[.slice Ac cols.length cc, .int .i64 m]) (h0 : 0 ≤ m) (d1 : decide (200 < m + 1) = false) (d2 : decide (20 < deep) = false) (hd0 : 1 ≤ deep) (hkn : 1 ≤ kidsN k) (hn : (n : Int) = kidsN k)
    (T ER M : Int) (hT : typOf k (typKids (fun i m' => typE cols (kid i) (deep + 1) m') n 0 (m + 1) []) = (T, ER, M)) :
  Calls Try.prog 108 #[.pointer (some ⟨g, 0, none⟩), .pointer (some ⟨gx, ox, none⟩), .int .i64 deep] w fun en w' =>
    en = .returned (.tuple #[.int .i64 T, .int .i64 ER]) ∧ Blk w' g 102 #[.slice Ac cols.length cc, .int .i64 M] ∧ GX g w w' := by
  have Hx := Lib.hid hx
  have Hb := Lib.hid hb
  have HT := Lib.hid hT
  have Hn := Lib.hid hn
  have d3 : decide (kidsN k < 0) = false := by simp; omega
  have d4 : ((n : Int) != kidsN k) = false := by simpa using hn
  obtain ⟨cb, fb⟩ := hb.rules
  have hgN : g < w.heap.size := hb.lt
  have hn3 : n ≤ 3 := by have := kidsN_le k; omega
  have hm : m + 1 ≤ 200 := by simp at d1; omega
  have hd : deep ≤ 20 := by simp at d2; omega
  have hne : gx ≠ g := by
    have h : gx < w0.heap.size := Grow.lt hx.c0
    omega
  have hxw := hx.grow hg0
  obtain ⟨c0, c1, c2, c3, c4, c5⟩ := hxw
  simp only [E.kind, E.v, E.col, E.A, E.n, E.cap] at c0 c1 c2 c3 c4 c5
  clear hT hn hx hb
  go_enter Try.func108, Try.ntmps108
  go_wp2_with ((go_at_call 142; ((with_reducible refine (kids_any _ _).mono ?_); rintro e w' ⟨rfl, rfl⟩)))
  go_loopw [9, 50] (fun t i wr => ∃ (j : Nat) (m' : Int) (ts : List Int), j ≤ n ∧ i = .int .i64 j ∧ Owns wr w.heap.size t ts ∧ Blk wr g 102 #[.slice Ac cols.length cc, .int .i64 m'] ∧ GX g w wr ∧ 0 ≤ m' ∧ m' ≤ 200 ∧ ts.length = j ∧
      typKids (fun i m' => typE cols (kid i) (deep + 1) m') (n - j) j m' ts = typKids (fun i m' => typE cols (kid i) (deep + 1) m') n 0 (m + 1) []) (fun _ i _ => n - (intOf i).toNat)
  case atStart => exact ⟨0, m + 1, [], Nat.zero_le _, rfl, World.ownsRow_nil _ _ _ _, Hb.out.set 1 _, (GX.refl g w).set 1 _, by omega, by omega, rfl, rfl⟩
  case round =>
    obtain ⟨j, m', ts, hj, rfl, hown, hbr, hgx, hm0, hm1, htl, hR⟩ := hrel
    have hgw := GX.base hg0 hlt hgx
    have Own := Lib.hid hown
    have HR := Lib.hid hR
    have hbs := Lib.hid hbr
    obtain ⟨c0, c1, c2, c3, c4, c5⟩ := Hx.out.grow hgw
    simp only [E.kind, E.v, E.col, E.A, E.n, E.cap] at c0 c1 c2 c3 c4 c5
    clear hown hR hbr
    have Ti := Lib.hid info_int'
    by_cases hlt : j < n
    · obtain ⟨gk, ok, hA, hck, hEk⟩ : ∃ gk ok, A = some ⟨gk, ok, none⟩ ∧ ECells w0 gk (ok + j * 6) (kid j) ∧ EX w0 (kid j) := by
        cases hE with
        | mk hn' hc hk hv hi =>
          obtain ⟨gk, ok, h1, h2⟩ := hc j hlt
          exact ⟨gk, ok, h1, h2, hk j hlt⟩
      subst hA
      obtain ⟨q1, q2, q3, hq⟩ : ∃ q1 q2 q3, typE cols (kid j) (deep + 1) m' = (q1, q2, q3) := ⟨_, _, _, rfl⟩
      have hbd := typE_bd cols (kid j) (deep + 1) m' hm1
      have ihj := ih j gk (ok + j * 6) g (deep + 1) m' w0 wr hEk hck hcols hgw (by assumption) hbs.out hm0 hm1 (by omega) (by omega)
      rw [hq] at hbd ihj
      simp only at hbd ihj
      have Hq := Lib.hid hq
      clear hq hck hEk
      by_cases h2 : q2 = 0
      · subst h2
        obtain ⟨ti, hi, hz0, hz1, hz2⟩ := Ti.out
        go_wp2_with (first
          | (at_builtin; refine wpList_append_own _ rfl _ _ 44 rfl w.heap.size 3 ti (.int .i64 0) 1 8 Try.underlying44 hi hz0 hz1 hz2 rfl (by decide) _ _ _ rfl (Own2.out.alloc _) ⟨w2.heap.size, 0, none⟩ 1 1 [.int .i64 q1] rfl rfl ?c1 ?c2 ?c3 ?c4 ?c5 ?_)
          | (go_at_call 108; ((with_reducible refine ihj.mono ?_); rintro e w2 ⟨rfl, hb2, hg2⟩; have Own2 := Lib.hid (Own.out.kept hg2 (own_ne Own.out hgN)))))
        case c1 =>
          intro j u hj
          match j, hj with
          | 0, hj => simp at hj; subst hj; simp [Addr.add]
        case c2 => intro u hu; simp at hu; subst hu; rfl
        case c3 => unfold maxLen; omega
        case c4 => omega
        case c5 => have := hgx.size; have := hg2.size; simp; omega
        · intro v' w3 hown' hgrow _
          have Fin := Lib.hid (typKids_ok (F := fun i m' => typE cols (kid i) (deep + 1) m') (ts := ts) hlt Hq.out)
          have hb3 : Blk w3 g 102 #[.slice Ac cols.length cc, .int .i64 q3] := by
            have h1 := hb2.al (.cells #[.int .i64 q1] 3)
            have h2 := h1.lt
            unfold Blk at h1 ⊢
            rw [hgrow.block g h2 (fun e => by rcases own_ne Own.out hgN with h | h <;> rw [← e] at h <;> simp at h)]
            exact h1
          have hg3 : GX g w w3 := GX.own ((hgx.trans hg2).al _) hgrow (fun i hi => (Own.out.lt i hi).1)
          clear hgrow hb2 hg2 ihj
          go_wp2
          go_roundw
          case rel => exact ⟨j + 1, q3, ts ++ [q1], by omega, by go_num, by unfold Owns; simpa [htl] using hown', hb3, hg3, by have := hbd.1; omega, by simpa using hbd.2.2, by simp [htl], by rw [← Fin.out]; exact HR.out⟩
          case measure => simp [intOf]; omega
      · have dq : (q2 != 0) = true := by simpa using h2
        have fin : typOf k (typKids (fun i m' => typE cols (kid i) (deep + 1) m') n 0 (m + 1) []) = (0, q2, q3) := by
          rw [← HR.out, typKids_no (F := fun i m' => typE cols (kid i) (deep + 1) m') hlt Hq.out h2]
          simp [typOf, h2]
        obtain ⟨rfl, rfl, rfl⟩ : T = 0 ∧ ER = q2 ∧ M = q3 := by simpa using HT.out.symm.trans fin
        clear fin h2
        go_wp2_with (go_at_call 108; ((with_reducible refine ihj.mono ?_); rintro e w2 ⟨rfl, hb2, hg2⟩))
        exact bodyPost_ret (by simp [results, Try.results108, go_sem]) rfl ⟨rfl, hb2, hgx.trans hg2⟩
    · obtain rfl : j = n := by omega
      have dk1 : (k == 1) = false := by simp; rintro rfl; have : kidsN 1 = 0 := rfl; omega
      have dk2 : (k == 2) = false := by simp; rintro rfl; have : kidsN 2 = 0 := rfl; omega
      have fin : typOf k (0, m', ts) = (T, ER, M) := by
        rw [← HT.out, ← HR.out, Nat.sub_self]; rfl
      by_cases h16 : k = 16
      · subst h16
        obtain ⟨rfl, rfl, rfl⟩ : T = 2 ∧ ER = 0 ∧ M = m' := by
          have : typOf 16 (0, m', ts) = (2, 0, m') := by simp [typOf]
          simpa using fin.symm.trans this
        clear fin
        go_wp2
        exact bodyPost_ret (by simp [results, Try.results108, go_sem]) rfl ⟨rfl, hbs.out, hgx⟩
      · have dk3 : (k == 16) = false := by simpa using h16
        obtain ⟨rfl, rfl, rfl⟩ : T = (kindE k ts).1 ∧ ER = (kindE k ts).2 ∧ M = m' := by
          have : typOf k (0, m', ts) = ((kindE k ts).1, (kindE k ts).2, m') := by simp [typOf, h16]
          simpa using fin.symm.trans this
        have ck := kind_own k _ ts _ wr Own.out (by rw [htl]; exact Hn.out) hkn h16
        clear fin h16
        go_wp2_with (go_at_call 143; ((with_reducible refine ck.mono ?_); rintro e w2 ⟨rfl, hg2⟩))
        exact bodyPost_ret (by simp [results, Try.results108, go_sem]) rfl ⟨rfl, hbs.out.grow hg2, hgx.grow hg2⟩
end Go.Proofs.Ytjhcbehnopmnpaa
