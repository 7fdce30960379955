/-
 Joined texts of this claim: Zs7, Zs11, Zs12, Zs13, Zs14, Zs16, Zs15, Zs19, Zs20. What each proves its own head says; no condition beside those that each theorem names.
-/
import Derived.Test.YtifpomonpneanaaGreatGH
import Derived.Deep.DeepCutAuto
import Derived.Laws.AppendOwnNone
import Derived.Test.YtifpomonpneanaaGreatGI
import Derived.Lib.AppendZeros
namespace Go.Proofs.YtifpomonpneanaaGreat
open Go.RowKit Go.Calm
set_option linter.unusedSimpArgs false
set_option linter.unusedVariables false
theorem flatW_append : ∀ xs ys : List V, flatW (xs ++ ys) = flatW xs ++ flatW ys
 | [], ys => rfl
 | x :: xs, ys => by simp [flatW, flatW_append xs ys]
theorem flatW_one : ∀ xs : List V, ∀ u ∈ flatW xs, u.oneCell' = true
 | [], u, hu => by simp [flatW] at hu
 | x :: xs, u, hu => by
  simp only [flatW, List.mem_cons] at hu
  rcases hu with rfl | rfl | rfl | hu
  ·rfl
  ·rfl
  ·rfl
  ·exact flatW_one xs u hu
theorem flatI_one : ∀ xs : List I, ∀ u ∈ flatI xs, u.oneCell' = true
 | [], u, hu => by simp [flatI] at hu
 | x :: xs, u, hu => by
  simp only [flatI, List.mem_cons] at hu
  rcases hu with rfl | rfl | hu
  ·rfl
  ·rfl
  ·exact flatI_one xs u hu
theorem own_vsl {w : World} {base : Nat} {v : Value} {ys : List V} (h : w.ownsRow base 24 3 v ys.length (flatW ys)) : ∃ (B : Option Addr) (cap : Nat), v = .slice B ys.length cap ∧ VSl w B ys := by
 obtain ⟨_, h⟩ := h
 rcases h with ⟨rfl, h0⟩ | ⟨gb, cap, cur, rfl, hB, hgb, hle, hmx, hcs, htk⟩
 ·have : ys = [] := List.length_eq_zero_iff.1 h0
  subst this
  exact ⟨none, 0, rfl, fun i x hx => by simp at hx⟩
 ·have hb : Blk w gb 24 cur := hgb
  have key : ∀ i v, (flatW ys)[i]? = some v → w.cell? ⟨gb, i, none⟩ = some v := fun i v hv => by
   rw [← htk, List.getElem?_take] at hv
   split at hv
   ·rw [hb.cell]; simpa using hv
   ·cases hv
  refine ⟨some ⟨gb, 0, none⟩, cap, rfl, fun i x hx => ⟨gb, 0, rfl, ?_⟩⟩
  obtain ⟨a, b, c⟩ := flatW_get ys i x hx
  exact ⟨by rw [Nat.zero_add]; exact key _ _ a, by rw [Nat.zero_add]; exact key _ _ b, by rw [Nat.zero_add]; exact key _ _ c⟩
theorem own_zin {w : World} {base : Nat} {v : Value} {ys : List I} (h : w.ownsRow base 47 2 v ys.length (flatI ys)) (hv : ∀ y ∈ ys, VSl w y.A y.row) : ∃ (B : Option Addr) (cap : Nat), v = .slice B ys.length cap ∧ ZIn w B ys := by
 obtain ⟨_, h⟩ := h
 rcases h with ⟨rfl, h0⟩ | ⟨gb, cap, cur, rfl, hB, hgb, hle, hmx, hcs, htk⟩
 ·have : ys = [] := List.length_eq_zero_iff.1 h0
  subst this
  exact ⟨none, 0, rfl, fun i x hx => by simp at hx⟩
 ·have hb : Blk w gb 47 cur := hgb
  have key : ∀ i v, (flatI ys)[i]? = some v → w.cell? ⟨gb, i, none⟩ = some v := fun i v hv => by
   rw [← htk, List.getElem?_take] at hv
   split at hv
   ·rw [hb.cell]; simpa using hv
   ·cases hv
  refine ⟨some ⟨gb, 0, none⟩, cap, rfl, fun i x hx => ⟨gb, 0, rfl, ?_, ?_, hv x (List.mem_of_getElem? hx)⟩⟩
  ·rw [Nat.zero_add]; exact key _ _ (flatI_get ys i x hx).1
  ·rw [Nat.zero_add]; exact key _ _ (flatI_get ys i x hx).2
theorem own_types {w : World} {b1 b2 n1 n2 s1 s2 : Nat} {e1 e2 : TypeId} {v1 v2 : Value} {x1 x2 : List Value} (h1 : w.ownsRow b1 e1 s1 v1 n1 x1) (h2 : w.ownsRow b2 e2 s2 v2 n2 x2) (hne : e1 ≠ e2) : v1.ownBlock = none ∨ v1.ownBlock ≠ v2.ownBlock := by
 rcases h1.2 with ⟨rfl, _⟩ | ⟨g, cap, cur, rfl, hB, hgb, _⟩
 ·exact .inl rfl
 ·right
  rcases h2.2 with ⟨rfl, _⟩ | ⟨g', cap', cur', rfl, hB', hgb', _⟩
  ·simp [Value.ownBlock]
  ·intro e
   simp [Value.ownBlock] at e
   subst e
   rw [hgb] at hgb'
   simp at hgb'
   exact hne hgb'.2
theorem info_val2' : ∃ ti, Tryz.prog.info? 24 = some ti ∧ ti.zero = some (.agg #[.int .i64 0, .int .i64 0, .string ⟨#[]⟩]) ∧ ti.size = 3 ∧ ti.bytes = 32 := by
 have h := info_val2
 cases hi : Tryz.prog.info? 24 with
 | none => rw [hi] at h; simp at h
 | some i => rw [hi] at h; simp at h; exact ⟨i, rfl, h⟩
theorem zin_news {w : World} {g o : Nat} {xs : List I} (h : ZIn w (some ⟨g, o, none⟩) xs) (k : Nat) : ∀ j u, (flatI (xs.drop k))[j]? = some u → w.cell? ((⟨g, o + k * 2, none⟩ : Addr).add j) = some u := fun j u hj => by
 have hlt : j < (flatI (xs.drop k)).length := (List.getElem?_eq_some_iff.1 hj).1
 rw [flatI_len] at hlt
 have hi : j / 2 < (xs.drop k).length := by omega
 obtain ⟨x, hx⟩ : ∃ x, (xs.drop k)[j / 2]? = some x := ⟨_, List.getElem?_eq_getElem hi⟩
 obtain ⟨a, b⟩ := flatI_get _ _ _ hx
 rw [List.getElem?_drop] at hx
 obtain ⟨g', o', e, c1, c2, _⟩ := h _ _ hx
 cases e
 have hA : (⟨g, o + k * 2, none⟩ : Addr).add j = ⟨g, o + k * 2 + j, none⟩ := by
  unfold Addr.add
  split
  ·rename_i h0; subst h0; rfl
  ·rfl
 rw [hA]
 rcases Nat.mod_two_eq_zero_or_one j with h2 | h2
 ·rw [show j / 2 * 2 = j by omega] at a
  rw [a] at hj; cases hj
  rw [show o + k * 2 + j = o + (k + j / 2) * 2 by omega]; exact c1
 ·rw [show j / 2 * 2 + 1 = j by omega] at b
  rw [b] at hj; cases hj
  rw [show o + k * 2 + j = o + (k + j / 2) * 2 + 1 by omega]; exact c2
theorem zin_take {w : World} {g o : Nat} {xs : List I} (h : ZIn w (some ⟨g, o, none⟩) xs) (k : Nat) : ∀ j u, (flatI (xs.take k))[j]? = some u → w.cell? ((⟨g, o, none⟩ : Addr).add j) = some u := fun j u hj => by
 have := zin_news h 0 j u
 rw [Nat.zero_mul, Nat.add_zero, List.drop_zero] at this
 refine this ?_
 have e := flatI_append (xs.take k) (xs.drop k)
 rw [List.take_append_drop] at e
 rw [e, List.getElem?_append_left (List.getElem?_eq_some_iff.1 hj).1]
 exact hj
theorem addr_add (g o j : Nat) : (⟨g, o, none⟩ : Addr).add j = ⟨g, o + j, none⟩ := by
 unfold Addr.add
 split
 ·rename_i h0; subst h0; rfl
 ·rfl
def Src (w : World) (src : Value) (L : List I) : Prop := (src = .slice none 0 0 ∧ L = []) ∨ ∃ ad c, src = .slice (some ad) L.length c ∧ ∀ j u, (flatI L)[j]? = some u → w.cell? (ad.add j) = some u
theorem wpList_append_src {w : World} {ops : Array Oper} {rest : List Oper} {o : Oper} {a : Act} {Q : Exit → Act → World → Prop} (hgd : o.guard = none) (s x : Operand)
  (ho : o.op = .call { callee := .builtin .append, args := #[s, x], argTypes := #[38, 38] })
  (base : Nat) (v : Value) (n : Nat) (xs : List I) (hs : a.eval s = v) (hown : w.ownsRow base 47 2 v n (flatI xs)) (src : Value) (L : List I) (hx : a.eval x = src) (hsrc : Src w src L) (hB : n + L.length ≤ 1000000) (hbase : base ≤ w.heap.size)
  (h : ∀ v' w', w'.ownsRow base 47 2 v' (n + L.length) (flatI (xs ++ L)) → w.grownBy w' v.ownBlock → wpList Tryz.prog ops Q rest (a.put o.dst v') w') : wpList Tryz.prog ops Q (o :: rest) a w := by
 obtain ⟨ti, hti, hz0, hz1, hz2⟩ := info_zrow'
 rcases hsrc with ⟨rfl, rfl⟩ | ⟨ad, c, rfl, hc⟩
 ·refine wpList_append_own_none hgd s x _ ho base 47 ti 2 Tryz.underlying38 hti v n (flatI xs) hs hown hx ?_
  exact h v w (by simpa using hown) ⟨rfl, rfl, rfl, Nat.le_refl _, fun _ _ _ => rfl⟩
 ·refine wpList_append_own _ hgd s x _ ho base 47 ti (.agg #[.slice none 0 0, .int .i64 0]) 2 32 Tryz.underlying38 hti hz0 hz1 hz2 rfl (by decide) v n (flatI xs) hs hown ad L.length c (flatI L) hx (by rw [flatI_len]) hc (flatI_one _) (by unfold maxLen; omega) (by omega) hbase ?_
  intro v' w' h1 h2 _
  exact h v' w' (by rw [flatI_append]; exact h1) h2
theorem src_take {w : World} {A : Option Addr} {xs : List I} {c k : Nat} (h : SlOk A xs.length c) (hz : ZIn w A xs) (hk : k ≤ xs.length) : Src w (.slice A k c) (xs.take k) := by
 obtain ⟨h1, h2⟩ := h
 cases A with
 | none =>
  have := h2 rfl
  obtain rfl : k = 0 := by omega
  exact .inl ⟨by rw [this], by simp⟩
 | some ad =>
  refine .inr ⟨ad, c, by rw [List.length_take, Nat.min_eq_left hk], ?_⟩
  cases xs with
  | nil => intro j u hj; simp [flatI] at hj
  | cons x l =>
   obtain ⟨g, o, e, _⟩ := hz 0 x rfl
   cases e
   exact zin_take hz k
theorem own_zin' {w : World} {base : Nat} {v : Value} {ys : List I} (h : w.ownsRow base 47 2 v ys.length (flatI ys)) (hv : ∀ y ∈ ys, VSl w y.A y.row) : ∃ (B : Option Addr) (cap : Nat), v = .slice B ys.length cap ∧ ZIn w B ys ∧ SlOk B ys.length cap := by
 obtain ⟨B, cap, rfl, hz⟩ := own_zin h hv
 refine ⟨B, cap, rfl, hz, ?_⟩
 obtain ⟨_, h⟩ := h
 rcases h with ⟨e, h0⟩ | ⟨gb, cap', cur, e, hB, hgb, hle, hmx, hcs, htk⟩
 ·simp at e
  exact ⟨by omega, fun _ => e.2.2⟩
 ·simp at e
  obtain ⟨rfl, rfl⟩ := e
  exact ⟨hle, fun h => by cases h⟩
theorem grow_own {w wr w' : World} {v : Value} (hg : Grow w wr) (h : wr.grownBy w' v.ownBlock) {e : TypeId} {s n : Nat} {xs : List Value} (hown : wr.ownsRow w.heap.size e s v n xs) : Grow w w' := by
 refine Grow.own hg h (fun i hi => ?_)
 rcases hown.2 with ⟨rfl, _⟩ | ⟨g, cap, cur, rfl, hB, _⟩
 ·cases hi
 ·simp [Value.ownBlock] at hi; omega
theorem ZIn.vsl {w : World} {A : Option Addr} {xs : List I} (h : ZIn w A xs) : ∀ x ∈ xs, VSl w x.A x.row := fun x hx => by
 obtain ⟨i, hi, e⟩ := List.mem_iff_getElem.1 hx
 obtain ⟨_, _, _, _, _, hv⟩ := h i x (by rw [← e]; exact List.getElem?_eq_getElem hi)
 exact hv
theorem src_one {w : World} {g : Nat} {t : TypeId} {y : I} {m : Nat} (hm : y.row.length = m) (hb : Blk w g t #[.slice y.A m y.cap, .int .i64 y.w]) : Src w (.slice (some ⟨g, 0, none⟩) 1 1) [y] := by
 refine .inr ⟨⟨g, 0, none⟩, 1, rfl, fun j u hj => ?_⟩
 rw [addr_add, hb.cell]
 match j, hj with
 | 0, hj => simp [flatI] at hj; subst hj; rw [hm]; rfl
 | 1, hj => simp [flatI] at hj; subst hj; rfl
theorem own_zin2 {w : World} {base : Nat} {v : Value} {n : Nat} {ys : List I} (h : w.ownsRow base 47 2 v n (flatI ys)) (hv : ∀ y ∈ ys, VSl w y.A y.row) : ∃ (B : Option Addr) (cap : Nat), v = .slice B ys.length cap ∧ ZIn w B ys ∧ SlOk B ys.length cap := by
 have h1 := h.1
 rw [flatI_len] at h1
 obtain rfl : n = ys.length := by omega
 exact own_zin' h hv
theorem bareR_len (r : List V) : (bareR r).length = r.length := by simp [bareR]
structure S where
 A : Option Addr
 xs : List I
 cap : Nat
instance : Inhabited S := ⟨⟨none, [], 0⟩⟩
def S.z (s : S) : List Z := s.xs.map zOf
def SIn (w : World) (A : Option Addr) (ss : List S) : Prop := ∀ i s, ss[i]? = some s → ∃ g o, A = some ⟨g, o, none⟩ ∧ w.cell? ⟨g, o + i, none⟩ = some (.slice s.A s.xs.length s.cap) ∧ ZIn w s.A s.xs
theorem SIn.grow {w w' : World} {A : Option Addr} {ss : List S} (h : SIn w A ss) (hg : Grow w w') : SIn w' A ss := fun i s hs => by
 obtain ⟨g, o, hA, a, b⟩ := h i s hs
 exact ⟨g, o, hA, hg.cell a, b.grow hg⟩
def rightZ : List (List Z) → Int
 | [] => 0
 | z :: l => if wrongZ z ≠ 0 then wrongZ z else rightZ l
theorem rightZ_at {ss : List S} {k : Nat} {s : S} (h : ss[k]? = some s) : rightZ ((ss.drop k).map S.z) = if wrongZ s.z ≠ 0 then wrongZ s.z else rightZ ((ss.drop (k + 1)).map S.z) := by
 obtain ⟨h1, e1⟩ := List.getElem?_eq_some_iff.1 h
 rw [List.drop_eq_getElem_cons h1, e1]; rfl
def S.ok (s : S) : Prop := s.xs.length ≤ 9223372036854775807 ∧ ∀ x ∈ s.xs, x.row.length ≤ 9223372036854775807
set_option maxRecDepth 100000 in
set_option maxHeartbeats 4000000 in
theorem zright_any (ss : List S) (A : Option Addr) (c : Nat) (w : World) (hlen : ss.length ≤ 9223372036854775807) (hs : SIn w A ss) (hl : ∀ s ∈ ss, s.ok) (R : Int) (hR : rightZ (ss.map S.z) = R) :
  Calls Tryz.prog 59 #[.slice A ss.length c] w fun en w' => en = .returned (.int .i64 R) ∧ Grow w w' := by
 have HR := Lib.hid hR
 have Hs := Lib.hid hs
 have Hl := Lib.hid hl
 clear hs hR hl
 go_enter Tryz.func59, Tryz.ntmps59
 go_wp2
 go_loopw [8] (fun i wr => ∃ k : Nat, k ≤ ss.length ∧ i = .int .i64 k ∧ rightZ ((ss.drop k).map S.z) = R ∧ Grow w wr) (fun i _ => ss.length - (intOf i).toNat)
 case atStart => exact ⟨0, Nat.zero_le _, rfl, by simpa using HR.out, Grow.refl _⟩
 case round =>
  obtain ⟨k, hk, rfl, hinv, hg⟩ := hrel
  have Inv := Lib.hid hinv
  clear hinv
  by_cases hlt : k < ss.length
  ·obtain ⟨s, hsk⟩ : ∃ s, ss[k]? = some s := ⟨_, List.getElem?_eq_getElem hlt⟩
   obtain ⟨g, o, rfl, c1, hz⟩ := (Hs.out.grow hg) k s hsk
   have hok := Hl.out s (List.mem_of_getElem? hsk)
   have inv2 := (rightZ_at hsk).symm.trans Inv.out
   obtain ⟨E, hE⟩ : ∃ E, wrongZ s.z = E := ⟨_, rfl⟩
   rw [hE] at inv2
   have cs := fun W (h : Grow wr W) => wrongz_any s.xs s.A s.cap W hok.1 (hz.grow h) hok.2 E hE
   have Inv2 := Lib.hid inv2
   clear inv2 hsk hz hok hE
   by_cases hw : E = 0
   ·have dw : (E != 0) = false := by simpa using hw
    go_wp2_with (go_at_call 19; ((with_reducible refine (cs _ (by repeat (first | (with_reducible exact Grow.refl _) | (with_reducible assumption) | (with_reducible refine Grow.set ?_ (by first | (simp; done) | (simp; omega)) _) | (with_reducible refine Grow.al ?_ _) | (with_reducible refine Grow.drew ?_) | (with_reducible refine Grow.drewN ?_ _) | (with_reducible refine Grow.trans ?_ (by assumption))))).mono ?_); rintro e w2 ⟨rfl, hg2⟩))
    go_roundw
    case rel => exact ⟨k + 1, by omega, by go_num, by have := Inv2.out; rw [if_neg (by simpa using hw)] at this; exact this, hg.trans hg2⟩
    case measure => simp [intOf]; omega
   ·have dw : (E != 0) = true := by simpa using hw
    go_wp2_with (go_at_call 19; ((with_reducible refine (cs _ (by repeat (first | (with_reducible exact Grow.refl _) | (with_reducible assumption) | (with_reducible refine Grow.set ?_ (by first | (simp; done) | (simp; omega)) _) | (with_reducible refine Grow.al ?_ _) | (with_reducible refine Grow.drew ?_) | (with_reducible refine Grow.drewN ?_ _) | (with_reducible refine Grow.trans ?_ (by assumption))))).mono ?_); rintro e w2 ⟨rfl, hg2⟩))
    go_ret
    exact ret_int (by have := Inv2.out; rw [if_pos hw] at this; exact this) (hg.trans hg2)
  ·obtain rfl : k = ss.length := by omega
   have fin : R = 0 := by have := Inv.out; rw [List.drop_length] at this; exact this.symm
   go_wp2
   go_ret
   exact ret_int fin.symm hg
set_option maxRecDepth 100000 in
set_option maxHeartbeats 4000000 in
theorem grow_any (n : Nat) (w : World) (hn : n ≤ 100000) :
  Calls Tryz.prog 97 #[.slice none 0 0, .int .i64 n] w fun e w' => ∃ v, e = .returned v ∧ w'.ownsRow w.heap.size 47 2 v 0 (flatI []) ∧ Grow w w' := by
 obtain ⟨ti, hti, hz0, hz1, hz2⟩ := info_zrow'
 go_enter Tryz.func97, Tryz.ntmps97
 by_cases h0 : n = 0
 ·subst h0
  go_wp2
  go_ret
  exact ⟨_, rfl, World.ownsRow_nil _ _ _ _, Grow.refl _⟩
 ·have hpos : decide ((0 : Int) < (n : Int)) = true := decide_eq_true (by omega)
  have hwp : IntKind.i64.wrap (n : Int) = (n : Int) := by rw [IntKind.wrap_i64]; omega
  have hrz := fun ty => Lib.run_append_nil_zeros w 38 3 ty 47 ti _ .i64 .i64 Tryz.underlying38 Tryz.underlying3 hti hz0 n (by omega) (by omega) (by omega) (by rw [hz2]; omega)
  have hge : n ≤ grownCap w n 0 47 := grownCap_ge w n 0 _
  have hmx := grownCap_le_maxLen w n 0 47 (by unfold maxLen; omega)
  obtain ⟨G, hG⟩ : ∃ G, grownCap w n 0 47 = G := ⟨_, rfl⟩
  rw [hG] at hrz hge hmx
  have HM := Lib.hid hmx
  have hG63 : G ≤ 9223372036854775807 := by unfold maxLen at hmx; omega
  clear hG hmx
  go_wp2_with (at_builtin; refine Lib.wpList_append_run _ rfl _ _ _ _ rfl _ _ rfl rfl _ _ (hrz _) ?_)
  go_ret
  refine ⟨_, rfl, World.ownsRow_made w.drew _ G (Nat.le_refl _) HM.out ?_, (Grow.refl w).drew.al _⟩
  simp [size_zeroCells, Value.cells]
  omega
def fl (ss : List S) : List I := ss.flatMap S.xs
theorem fl_succ {ss : List S} {k : Nat} {s : S} (h : ss[k]? = some s) : fl (ss.take (k + 1)) = fl (ss.take k) ++ s.xs := by
 obtain ⟨h1, e1⟩ := List.getElem?_eq_some_iff.1 h
 rw [List.take_succ_eq_append_getElem h1, e1]; simp [fl]
theorem fl_len (ss : List S) (k : Nat) : (fl (ss.take k)).length ≤ (fl ss).length := by
 have : fl ss = fl (ss.take k) ++ fl (ss.drop k) := by unfold fl; rw [← List.flatMap_append, List.take_append_drop]
 rw [this, List.length_append]
 omega
theorem SIn.vsl {w : World} {A : Option Addr} {ss : List S} (h : SIn w A ss) : ∀ x ∈ fl ss, VSl w x.A x.row := fun x hx => by
 obtain ⟨s, hs, hx⟩ := List.mem_flatMap.1 hx
 obtain ⟨i, hi, e⟩ := List.mem_iff_getElem.1 hs
 obtain ⟨_, _, _, _, hz⟩ := h i s (by rw [← e]; exact List.getElem?_eq_getElem hi)
 exact hz.vsl x hx
theorem src_all {w : World} {A : Option Addr} {xs : List I} {c : Nat} (h : SlOk A xs.length c) (hz : ZIn w A xs) : Src w (.slice A xs.length c) xs := by
 have := src_take h hz (Nat.le_refl _)
 rwa [List.take_length] at this
set_option maxRecDepth 100000 in
set_option maxHeartbeats 4000000 in
theorem concat_any (ss : List S) (A : Option Addr) (c : Nat) (w : World) (hlen : ss.length ≤ 1000) (hs : SIn w A ss) (hsum : (fl ss).length ≤ 10000) (hok : ∀ s ∈ ss, SlOk s.A s.xs.length s.cap) :
  Calls Tryz.prog 61 #[.slice A ss.length c] w fun en w' => ∃ (B : Option Addr) (cap : Nat), en = .returned (.slice B (fl ss).length cap) ∧ ZIn w' B (fl ss) ∧ SlOk B (fl ss).length cap ∧ Grow w w' := by
 have Hs := Lib.hid hs
 have Hok := Lib.hid hok
 clear hs hok
 go_enter Tryz.func61, Tryz.ntmps61
 go_wp2
 go_loopw [3, 11] (fun n i wr => ∃ (k m : Nat), k ≤ ss.length ∧ i = .int .i64 k ∧ n = .int .i64 m ∧ m = (fl (ss.take k)).length ∧ Grow w wr) (fun _ i _ => ss.length - (intOf i).toNat)
 case atStart => exact ⟨0, 0, Nat.zero_le _, rfl, rfl, rfl, Grow.refl _⟩
 case round =>
  rename World => wa
  obtain ⟨k, m, hk, rfl, rfl, hm, hg⟩ := hrel
  have Hm := Lib.hid hm
  clear hm
  by_cases hlt : k < ss.length
  ·obtain ⟨s, hsk⟩ : ∃ s, ss[k]? = some s := ⟨_, List.getElem?_eq_getElem hlt⟩
   obtain ⟨g, o, rfl, c1, hz⟩ := (Hs.out.grow hg) k s hsk
   have hm2 : m + s.xs.length = (fl (ss.take (k + 1))).length := by rw [fl_succ hsk, List.length_append, ← Hm.out]
   have hb := fl_len ss (k + 1)
   rw [← hm2] at hb
   have Hm2 := Lib.hid hm2
   have hwp : IntKind.i64.wrap ((m : Int) + (s.xs.length : Int)) = ((m + s.xs.length : Nat) : Int) := by rw [IntKind.wrap_i64]; omega
   have d0 : decide (((m + s.xs.length : Nat) : Int) < 0) = false := decide_eq_false (by omega)
   clear hm2 hsk hz
   go_wp2
   go_roundw
   case rel => exact ⟨k + 1, m + s.xs.length, by omega, by go_num, by go_num, Hm2.out, hg⟩
   case measure => simp [intOf]; omega
  ·obtain rfl : k = ss.length := by omega
   have hm2 : m ≤ 10000 := by rw [Hm.out, List.take_length]; exact hsum
   have cg := fun W => grow_any m W (by omega)
   go_upto_region 10 with (go_at_call 97; ((with_reducible refine (cg _).mono ?_); rintro en w2 ⟨v, rfl, hown, hg2⟩; have Own := Lib.hid hown; clear hown))
   have G2 := hg.trans hg2
   go_wp2
   go_loopw [6, 27] (fun t i wq => ∃ (k n : Nat), k ≤ ss.length ∧ i = .int .i64 k ∧ n = (fl (ss.take k)).length ∧ wq.ownsRow wa.heap.size 47 2 t n (flatI (fl (ss.take k))) ∧ Grow wa wq) (fun _ i _ => ss.length - (intOf i).toNat)
   case atStart => exact ⟨0, 0, Nat.zero_le _, rfl, rfl, Own.out, hg2⟩
   case round =>
    obtain ⟨k, n, hk, rfl, hn, hown, hg3⟩ := hrel
    have Own3 := Lib.hid hown
    have Hn := Lib.hid hn
    clear hown hn
    by_cases hlt : k < ss.length
    ·obtain ⟨s, hsk⟩ : ∃ s, ss[k]? = some s := ⟨_, List.getElem?_eq_getElem hlt⟩
     obtain ⟨g, o, rfl, c1, hz⟩ := (Hs.out.grow (hg.trans hg3)) k s hsk
     have src := Lib.hid (src_all (Hok.out s (List.mem_of_getElem? hsk)) hz)
     have hn2 : n + s.xs.length = (fl (ss.take (k + 1))).length := by rw [fl_succ hsk, List.length_append, ← Hn.out]
     have hfl := Lib.hid (fl_succ hsk)
     have hb := fl_len ss (k + 1)
     rw [← hn2] at hb
     have Hn2 := Lib.hid hn2
     clear hn2 hsk hz
     go_wp2_with (at_builtin; refine wpList_append_src rfl _ _ rfl wa.heap.size _ n (fl (ss.take k)) rfl Own3.out _ s.xs rfl src.out (by omega) hg3.size ?_; intro v' w7 hown' hgrow)
     have hg7 : Grow wa w7 := grow_own hg3 hgrow Own3.out
     have Own7 := Lib.hid hown'
     clear hgrow hown'
     go_wp2
     go_roundw
     case rel => exact ⟨k + 1, n + s.xs.length, by omega, by go_num, Hn2.out, by rw [hfl.out]; exact Own7.out, hg7⟩
     case measure => simp [intOf]; omega
    ·obtain rfl : k = ss.length := by omega
     have own := Own3.out
     have hn := Hn.out
     rw [List.take_length] at own hn
     rw [hn] at own
     obtain ⟨B, cap, rfl, hz, hk⟩ := own_zin' own (Hs.out.grow (hg.trans hg3)).vsl
     have Fin := Lib.hid (And.intro hz hk)
     clear own hn hz hk
     go_wp2
     go_ret
     exact ⟨B, cap, rfl, Fin.out.1, Fin.out.2, hg.trans hg3⟩
theorem addZ_bd {K : Int} : ∀ (l z : List Z) {M : Int}, 0 ≤ M → 0 ≤ K → bdZ M z → bdZ K l → bdZ (M + K * l.length) (addZ z l)
 | [], z, M, _, _, hz, _ => by simpa [addZ] using hz
 | x :: l, z, M, hM, hK, hz, hl => by
  have h1 := putZ_bd (r := x.1) (n := x.2) hz hM (hl x (by simp)).1 (hl x (by simp)).2
  have h2 := addZ_bd l (putZ z x.1 x.2) (M := M + K) (by omega) hK h1 (fun y hy => hl y (by simp [hy]))
  rw [addZ_cons]
  intro y hy
  have := h2 y hy
  rw [List.length_cons, Int.natCast_succ, Int.mul_add, Int.mul_one]
  omega
theorem setZ_bd {K : Int} {l : List Z} (hK : 0 ≤ K) (hl : bdZ K l) : bdZ (K * l.length) (setZ l) := fun y hy => by
 have := addZ_bd l [] (M := 0) (by omega) hK (fun x hx => by simp at hx) hl y hy
 omega
def Pl (l : List Z) : Prop := (∀ x ∈ l, x.1.length ≤ 1000 ∧ ∀ v ∈ x.1, RV v) ∧ bdZ 1000000 l
theorem sin_two {w : World} {g : Nat} {t : TypeId} {s1 s2 : S} (hb : Blk w g t #[.slice s1.A s1.xs.length s1.cap, .slice s2.A s2.xs.length s2.cap]) (h1 : ZIn w s1.A s1.xs) (h2 : ZIn w s2.A s2.xs) : SIn w (some ⟨g, 0, none⟩) [s1, s2] := fun i s hs => by
 match i, hs with
 | 0, hs => simp at hs; subst hs; exact ⟨g, 0, rfl, by rw [hb.cell]; rfl, h1⟩
 | 1, hs => simp at hs; subst hs; exact ⟨g, 0, rfl, by rw [hb.cell]; rfl, h2⟩
theorem sin_one {w : World} {g : Nat} {t : TypeId} {s1 : S} (hb : Blk w g t #[.slice s1.A s1.xs.length s1.cap]) (h1 : ZIn w s1.A s1.xs) : SIn w (some ⟨g, 0, none⟩) [s1] := fun i s hs => by
 match i, hs with
 | 0, hs => simp at hs; subst hs; exact ⟨g, 0, rfl, by rw [hb.cell]; rfl, h1⟩
structure In (w : World) (s : S) : Prop where
 z : ZIn w s.A s.xs
 sl : SlOk s.A s.xs.length s.cap
 ok : s.ok
theorem In.grow {w w' : World} {s : S} (h : In w s) (hg : Grow w w') : In w' s := ⟨h.z.grow hg, h.sl, h.ok⟩
theorem both_eq (x y : List Z) (t : Int) : bothZ x y t = if rightZ [x, y] ≠ 0 then ([], rightZ [x, y]) else sumZ (x ++ scaleZ t y) := by
 unfold bothZ rightZ
 by_cases h1 : wrongZ x = 0
 ·by_cases h2 : wrongZ y = 0
  ·simp [rightZ, h1, h2]
  ·simp [rightZ, h1, h2]
 ·simp [h1]
theorem right_two {x y : List Z} (h : rightZ [x, y] = 0) : wrongZ x = 0 ∧ wrongZ y = 0 := by
 unfold rightZ at h
 split at h
 ·rename_i h1; exact absurd h h1
 ·rename_i h1
  unfold rightZ at h
  split at h
  ·rename_i h2; exact absurd h h2
  ·rename_i h2
   exact ⟨by simpa using h1, by simpa using h2⟩
theorem S.facts {s : S} (h : wrongZ s.z = 0) : s.xs.length ≤ 400 ∧ (∀ x ∈ s.xs, x.row.length ≤ 8) ∧ (∀ x ∈ s.xs, ∀ v ∈ x.row, RV v) ∧ ∀ x ∈ s.xs, -1000000 ≤ x.w ∧ x.w ≤ 1000000 := by
 have h := (wrongZ_zero _).1 h
 exact ⟨by simpa [S.z] using h.len, fun x hx => (h.row (zOf x) (List.mem_map_of_mem hx)).1, fun x hx => (h.row (zOf x) (List.mem_map_of_mem hx)).2, fun x hx => (h.w (zOf x) (List.mem_map_of_mem hx)).2⟩
theorem fl_two (a b : S) : fl [a, b] = a.xs ++ b.xs := by simp [fl]
theorem sum_two (a b : S) (B : Option Addr) (cap : Nat) (w : World) (hz : ZIn w B (fl [a, b])) (ha : wrongZ a.z = 0) (hb : wrongZ b.z = 0) :
  Calls Tryz.prog 60 #[.slice B (fl [a, b]).length cap] w fun en w' => Gives w w' en (sumZ (a.z ++ b.z)) := by
 obtain ⟨a1, a2, a3, a4⟩ := S.facts ha
 obtain ⟨b1, b2, b3, b4⟩ := S.facts hb
 have e : (fl [a, b]).map zOf = a.z ++ b.z := by rw [fl_two, List.map_append]; rfl
 rw [← e]
 have mem : ∀ x ∈ fl [a, b], x ∈ a.xs ∨ x ∈ b.xs := fun x hx => by rw [fl_two] at hx; exact List.mem_append.1 hx
 refine sum_any _ _ _ _ (by rw [fl_two, List.length_append]; omega) hz (fun x hx => ?_) (fun x hx => ?_) (fun x hx => ?_)
 ·rcases mem x hx with h | h
  ·have := a2 x h; omega
  ·have := b2 x h; omega
 ·rcases mem x hx with h | h
  ·exact a3 x h
  ·exact b3 x h
 ·rcases mem x hx with h | h
  ·exact a4 x h
  ·exact b4 x h
theorem zright_two (a b : S) (g : Nat) (w : World) (t : TypeId) (h : Blk w g t #[.slice a.A a.xs.length a.cap, .slice b.A b.xs.length b.cap]) (ha : In w a) (hb : In w b) :
  Calls Tryz.prog 59 #[.slice (some ⟨g, 0, none⟩) 2 2] w fun en w' => en = .returned (.int .i64 (rightZ [a.z, b.z])) ∧ Grow w w' :=
 zright_any [a, b] (some ⟨g, 0, none⟩) 2 w (by simp) (sin_two h ha.z hb.z) (fun s hs => by simp at hs; rcases hs with rfl | rfl; exact ha.ok; exact hb.ok) _ rfl
theorem zright_one (a : S) (g : Nat) (w : World) (t : TypeId) (h : Blk w g t #[.slice a.A a.xs.length a.cap]) (ha : In w a) :
  Calls Tryz.prog 59 #[.slice (some ⟨g, 0, none⟩) 1 1] w fun en w' => en = .returned (.int .i64 (wrongZ a.z)) ∧ Grow w w' :=
 zright_any [a] (some ⟨g, 0, none⟩) 1 w (by simp) (sin_one h ha.z) (fun s hs => by simp at hs; rcases hs with rfl; exact ha.ok) _ (by simp only [List.map_cons, List.map_nil, rightZ]; split; rfl; simp_all)
theorem concat_two (a b : S) (g : Nat) (w : World) (t : TypeId) (h : Blk w g t #[.slice a.A a.xs.length a.cap, .slice b.A b.xs.length b.cap]) (ha : In w a) (hb : In w b) (hl : a.xs.length + b.xs.length ≤ 10000) :
  Calls Tryz.prog 61 #[.slice (some ⟨g, 0, none⟩) 2 2] w fun en w' => ∃ (B : Option Addr) (cap : Nat), en = .returned (.slice B (fl [a, b]).length cap) ∧ ZIn w' B (fl [a, b]) ∧ SlOk B (fl [a, b]).length cap ∧ Grow w w' :=
 concat_any [a, b] (some ⟨g, 0, none⟩) 2 w (by simp) (sin_two h ha.z hb.z) (by rw [fl_two, List.length_append]; omega) (fun s hs => by simp at hs; rcases hs with rfl | rfl; exact ha.sl; exact hb.sl)
set_option maxRecDepth 100000 in
set_option maxHeartbeats 4000000 in
theorem add_any (a b : S) (w : World) (ha : In w a) (hb : In w b) :
  Calls Tryz.prog 33 #[.slice a.A a.xs.length a.cap, .slice b.A b.xs.length b.cap] w fun en w' => Gives w w' en (bothZ a.z b.z 1) := by
 have Ha := Lib.hid ha
 have Hb := Lib.hid hb
 clear ha hb
 go_enter Tryz.func33, Tryz.ntmps33
 obtain ⟨E, hE⟩ : ∃ E, rightZ [a.z, b.z] = E := ⟨_, rfl⟩
 have cr := fun W (h1 : Blk W w.heap.size 38 #[.slice a.A a.xs.length a.cap, .slice b.A b.xs.length b.cap]) (hg : Grow w W) => zright_two a b w.heap.size W _ h1 (Ha.out.grow hg) (Hb.out.grow hg)
 rw [hE] at cr
 have HE := Lib.hid hE
 clear hE
 go_upto_region 2 with (go_at_call 59; ((with_reducible refine (cr _ (Blk.new _ _ _) (by repeat (first | (with_reducible exact Grow.refl _) | (with_reducible assumption) | (with_reducible refine Grow.set ?_ (by first | (simp; done) | (simp; omega)) _) | (with_reducible refine Grow.al ?_ _) | (with_reducible refine Grow.drew ?_) | (with_reducible refine Grow.drewN ?_ _) | (with_reducible refine Grow.trans ?_ (by assumption))))).mono ?_); rintro e w2 ⟨rfl, hg2⟩))
 have G2 := ((Grow.refl w).al _).trans hg2
 clear cr
 by_cases h0 : E = 0
 ·have d0 : (E != 0) = false := by simpa using h0
  obtain ⟨ra, rb⟩ := right_two (HE.out.trans h0)
  obtain ⟨a1, a2, a3, a4⟩ := S.facts ra
  obtain ⟨b1, b2, b3, b4⟩ := S.facts rb
  have cc := fun W (h1 : Blk W w2.heap.size 38 #[.slice a.A a.xs.length a.cap, .slice b.A b.xs.length b.cap]) (hg : Grow w W) => concat_two a b w2.heap.size W _ h1 (Ha.out.grow hg) (Hb.out.grow hg) (by omega)
  have fin : bothZ a.z b.z 1 = sumZ (a.z ++ b.z) := by rw [both_eq, HE.out, if_neg (by simpa using h0), scale_one]
  have Fin := Lib.hid fin
  have cs := fun B cap W hz => sum_two a b B cap W hz ra rb
  clear fin ra rb a1 a2 a3 a4 b1 b2 b3 b4
  go_wp2_with (first
   | (go_at_call 61; ((with_reducible refine (cc _ (Blk.new _ _ _) (G2.al _)).mono ?_); rintro e w3 ⟨B, cap, rfl, hz3, hk3, hg3⟩; have Hz3 := Lib.hid hz3; clear hz3 hk3))
   | (go_at_call 60; ((with_reducible refine (cs _ _ _ Hz3.out).mono ?_); rintro e w4 ⟨C, zs, cap2, rfl, hz4, hm4, hk4, hg4⟩; have Out := Lib.hid (And.intro hz4 (And.intro hm4 hk4)); clear hz4 hm4 hk4)))
  refine bodyPost_ret (by simp [results, Tryz.results33, go_sem] <;> rfl) rfl ?_
  exact ⟨C, zs, cap2, by rw [Fin.out], Out.out.1, by rw [Fin.out]; exact Out.out.2.1, Out.out.2.2, ((G2.al _).trans hg3).trans hg4⟩
 ·have d0 : (E != 0) = true := by simpa using h0
  go_wp2
  refine bodyPost_ret (by simp [results, Tryz.results33, go_sem] <;> rfl) rfl ?_
  have e : bothZ a.z b.z 1 = ([], E) := by rw [both_eq, HE.out, if_pos h0]
  exact ⟨none, [], 0, by rw [e]; rfl, zin_nil _ _, by rw [e]; rfl, SlOk.nil, G2⟩
theorem DV.kept {w w' : World} {base n g : Nat} {v : Value} {xs : List Value} {r : List V} (h : DV w g r) (hown : w.ownsRow base 47 2 v n xs) (hg : w.grownBy w' v.ownBlock) : DV w' g r := by
 have h1 := hg.block g h.lt (fun e => by
  rcases hown.2 with ⟨rfl, _⟩ | ⟨g', cap, cur, rfl, _, hgb, _⟩
  ·simp [Value.ownBlock] at e
  ·simp [Value.ownBlock] at e
   subst e
   have h2 : w.heap[g]? = some (.cells (flatW r).toArray 24 (0, 0)) := h
   rw [hgb] at h2
   simp at h2)
 exact h1.trans h
theorem eachL_snoc (f : Int → Int) {xs : List I} {k : Nat} {x : I} (h : xs[k]? = some x) : eachL f ((xs.take (k + 1)).map zOf) = eachL f ((xs.take k).map zOf) ++ (if f x.w ≠ 0 then [(bareR x.row, f x.w)] else []) := by
 obtain ⟨h1, e1⟩ := List.getElem?_eq_some_iff.1 h
 rw [List.take_succ_eq_append_getElem h1, e1]
 unfold eachL
 simp only [List.map_append, List.filter_append, List.map_cons, List.map_nil, zOf]
 by_cases hf : f x.w = 0
 ·simp [hf]
 ·simp [hf]
end Go.Proofs.YtifpomonpneanaaGreat
