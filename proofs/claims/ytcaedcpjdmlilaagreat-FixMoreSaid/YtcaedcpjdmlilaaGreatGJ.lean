/-
 Joined texts of this claim: Zs7, Zs11, Zs12, Zs13, Zs14, Zs16, Zs15, Zs19, Zs20. What each proves its own head says; no condition beside those that each theorem names.
-/
import Derived.Test.YtcaedcpjdmlilaaGreatGH
import Derived.Deep.DeepCutAuto
import Derived.Laws.AppendOwnNone
import Derived.Test.YtcaedcpjdmlilaaGreatGI
import Derived.Lib.AppendZeros
set_option maxRecDepth 100000
set_option maxHeartbeats 8000000
namespace Go.Proofs.YtcaedcpjdmlilaaGreat
open Go.RowKit Go.Calm
set_option linter.unusedSimpArgs false
set_option linter.unusedVariables false
theorem Qg : ∀ xs ys : List V, zH (xs ++ ys) = zH xs ++ zH ys
 | [], ys => rfl
 | x :: xs, ys => by simp [zH, Qg xs ys]
theorem Lw : ∀ xs : List V, ∀ u ∈ zH xs, u.oneCell' = true
 | [], u, hu => by simp [zH] at hu
 | x :: xs, u, hu => by
  simp only [zH, List.mem_cons] at hu; rcases hu with rfl | rfl | rfl | hu
  ·rfl
  ·rfl
  ·rfl
  ·exact Lw xs u hu
theorem YK : ∀ xs : List I, ∀ u ∈ zt xs, u.oneCell' = true
 | [], u, hu => by simp [zt] at hu
 | x :: xs, u, hu => by
  simp only [zt, List.mem_cons] at hu; rcases hu with rfl | rfl | hu
  ·rfl
  ·rfl
  ·exact YK xs u hu
theorem MZ {w : World} {base : Nat} {v : Value} {ys : List V} (h : w.ownsRow base 24 3 v ys.length (zH ys)) : ∃ (B : Option Addr) (cap : Nat), v = .slice B ys.length cap /\ xp w B ys := by
 obtain ⟨_, h⟩ := h; rcases h with ⟨rfl, h0⟩ | ⟨gb, cap, cur, rfl, hB, hgb, hle, hmx, hcs, htk⟩
 ·have : ys = [] := List.length_eq_zero_iff.1 h0; subst this; exact ⟨none, 0, rfl, fun i x hx => by simp at hx⟩
 ·have hb : zb w gb 24 cur := hgb
  have key : ∀ i v, (zH ys)[i]? = some v -> w.cell? ⟨gb, i, none⟩ = some v := fun i v hv => by
   rw [<- htk, List.getElem?_take] at hv; split at hv
   ·rw [hb.cell]; simpa using hv
   ·cases hv
  refine ⟨some ⟨gb, 0, none⟩, cap, rfl, fun i x hx => ⟨gb, 0, rfl, ?_⟩⟩; obtain ⟨a, b, c⟩ := kQ ys i x hx; exact ⟨by rw [Nat.zero_add]; exact key _ _ a, by rw [Nat.zero_add]; exact key _ _ b, by rw [Nat.zero_add]; exact key _ _ c⟩
theorem FO {w : World} {base : Nat} {v : Value} {ys : List I} (h : w.ownsRow base 62 2 v ys.length (zt ys)) (hv : ∀ y ∈ ys, xp w y.A y.row) : ∃ (B : Option Addr) (cap : Nat), v = .slice B ys.length cap /\ xF w B ys := by
 obtain ⟨_, h⟩ := h; rcases h with ⟨rfl, h0⟩ | ⟨gb, cap, cur, rfl, hB, hgb, hle, hmx, hcs, htk⟩
 ·have : ys = [] := List.length_eq_zero_iff.1 h0; subst this; exact ⟨none, 0, rfl, fun i x hx => by simp at hx⟩
 ·have hb : zb w gb 62 cur := hgb
  have key : ∀ i v, (zt ys)[i]? = some v -> w.cell? ⟨gb, i, none⟩ = some v := fun i v hv => by
   rw [<- htk, List.getElem?_take] at hv; split at hv
   ·rw [hb.cell]; simpa using hv
   ·cases hv
  refine ⟨some ⟨gb, 0, none⟩, cap, rfl, fun i x hx => ⟨gb, 0, rfl, ?_, ?_, hv x (List.mem_of_getElem? hx)⟩⟩
  ·rw [Nat.zero_add]; exact key _ _ (x9 ys i x hx).1
  ·rw [Nat.zero_add]; exact key _ _ (x9 ys i x hx).2
theorem Vf {w : World} {b1 b2 n1 n2 s1 s2 : Nat} {e1 e2 : TypeId} {v1 v2 : Value} {x1 x2 : List Value} (h1 : w.ownsRow b1 e1 s1 v1 n1 x1) (h2 : w.ownsRow b2 e2 s2 v2 n2 x2) (hne : e1 ≠ e2) : v1.ownBlock = none \/ v1.ownBlock ≠ v2.ownBlock := by
 rcases h1.2 with ⟨rfl, _⟩ | ⟨g, cap, cur, rfl, hB, hgb, _⟩
 ·exact .inl rfl
 ·right; rcases h2.2 with ⟨rfl, _⟩ | ⟨g', cap', cur', rfl, hB', hgb', _⟩
  ·simp [Value.ownBlock]
  ·intro e; simp [Value.ownBlock] at e; subst e; rw [hgb] at hgb'; simp at hgb'; exact hne hgb'.2
theorem ZD : ∃ ti, Tryz.prog.info? 24 = some ti /\ ti.zero = some (.agg #[.int .i64 0, .int .i64 0, .string ⟨#[]⟩]) /\ ti.size = 3 /\ ti.bytes = 32 := by
 have h := LG; cases hi : Tryz.prog.info? 24 with
 | none => rw [hi] at h; simp at h
 | some i => rw [hi] at h; simp at h; exact ⟨i, rfl, h⟩
theorem Ee {w : World} {g o : Nat} {xs : List I} (h : xF w (some ⟨g, o, none⟩) xs) (k : Nat) : ∀ j u, (zt (xs.drop k))[j]? = some u -> w.cell? ((⟨g, o + k * 2, none⟩ : Addr).add j) = some u := fun j u hj => by
 have hlt : j < (zt (xs.drop k)).length := (List.getElem?_eq_some_iff.1 hj).1; rw [qc] at hlt; have hi : j / 2 < (xs.drop k).length := by omega
 obtain ⟨x, hx⟩ : ∃ x, (xs.drop k)[j / 2]? = some x := ⟨_, List.getElem?_eq_getElem hi⟩
 obtain ⟨a, b⟩ := x9 _ _ _ hx; rw [List.getElem?_drop] at hx; obtain ⟨g', o', e, c1, c2, _⟩ := h _ _ hx; cases e
 have hA : (⟨g, o + k * 2, none⟩ : Addr).add j = ⟨g, o + k * 2 + j, none⟩ := by
  unfold Addr.add; split
  ·rename_i h0; subst h0; rfl
  ·rfl
 rw [hA]; rcases Nat.mod_two_eq_zero_or_one j with h2 | h2
 ·rw [show j / 2 * 2 = j by omega] at a; rw [a] at hj; cases hj; rw [show o + k * 2 + j = o + (k + j / 2) * 2 by omega]; exact c1
 ·rw [show j / 2 * 2 + 1 = j by omega] at b; rw [b] at hj; cases hj; rw [show o + k * 2 + j = o + (k + j / 2) * 2 + 1 by omega]; exact c2
theorem Ef {w : World} {g o : Nat} {xs : List I} (h : xF w (some ⟨g, o, none⟩) xs) (k : Nat) : ∀ j u, (zt (xs.take k))[j]? = some u -> w.cell? ((⟨g, o, none⟩ : Addr).add j) = some u := fun j u hj => by
 have := Ee h 0 j u; rw [Nat.zero_mul, Nat.add_zero, List.drop_zero] at this; refine this ?_; have e := xt (xs.take k) (xs.drop k); rw [List.take_append_drop] at e; rw [e, List.getElem?_append_left (List.getElem?_eq_some_iff.1 hj).1]; exact hj
theorem yn (g o j : Nat) : (⟨g, o, none⟩ : Addr).add j = ⟨g, o + j, none⟩ := by
 unfold Addr.add; split
 ·rename_i h0; subst h0; rfl
 ·rfl
def Eq (w : World) (src : Value) (L : List I) : Prop := (src = .slice none 0 0 /\ L = []) \/ ∃ ad c, src = .slice (some ad) L.length c /\ ∀ j u, (zt L)[j]? = some u -> w.cell? (ad.add j) = some u
theorem zS {w : World} {ops : Array Oper} {rest : List Oper} {o : Oper} {a : Act} {Q : Exit -> Act -> World -> Prop} (hgd : o.guard = none) (s x : Operand)
  (ho : o.op = .call { callee := .builtin .append, args := #[s, x], argTypes := #[38, 38] })
  (base : Nat) (v : Value) (n : Nat) (xs : List I) (hs : a.eval s = v) (hown : w.ownsRow base 62 2 v n (zt xs)) (src : Value) (L : List I) (hx : a.eval x = src) (hsrc : Eq w src L) (hB : n + L.length <= 1000000) (hbase : base <= w.heap.size)
  (h : ∀ v' w', w'.ownsRow base 62 2 v' (n + L.length) (zt (xs ++ L)) -> w.grownBy w' v.ownBlock -> wpList Tryz.prog ops Q rest (a.put o.dst v') w') : wpList Tryz.prog ops Q (o :: rest) a w := by
 obtain ⟨ti, hti, hz0, hz1, hz2⟩ := qV; rcases hsrc with ⟨rfl, rfl⟩ | ⟨ad, c, rfl, hc⟩
 ·refine wpList_append_own_none hgd s x _ ho base 62 ti 2 Tryz.underlying38 hti v n (zt xs) hs hown hx ?_; exact h v w (by simpa using hown) ⟨rfl, rfl, rfl, Nat.le_refl _, fun _ _ _ => rfl⟩
 ·refine wpList_append_own _ hgd s x _ ho base 62 ti (.agg #[.slice none 0 0, .int .i64 0]) 2 32 Tryz.underlying38 hti hz0 hz1 hz2 rfl (by decide) v n (zt xs) hs hown ad L.length c (zt L) hx (by rw [qc]) hc (YK _) (by unfold maxLen; omega) (by omega) hbase ?_; intro v' w' h1 h2 _; exact h v' w' (by rw [xt]; exact h1) h2
theorem DH {w : World} {A : Option Addr} {xs : List I} {c k : Nat} (h : yw A xs.length c) (hz : xF w A xs) (hk : k <= xs.length) : Eq w (.slice A k c) (xs.take k) := by
 obtain ⟨h1, h2⟩ := h; cases A with
 | none =>
  have := h2 rfl; obtain rfl : k = 0 := by omega
  exact .inl ⟨by rw [this], by simp⟩
 | some ad =>
  refine .inr ⟨ad, c, by rw [List.length_take, Nat.min_eq_left hk], ?_⟩; cases xs with
  | nil => intro j u hj; simp [zt] at hj
  | cons x l =>
   obtain ⟨g, o, e, _⟩ := hz 0 x rfl; cases e; exact Ef hz k
theorem Xa {w : World} {base : Nat} {v : Value} {ys : List I} (h : w.ownsRow base 62 2 v ys.length (zt ys)) (hv : ∀ y ∈ ys, xp w y.A y.row) : ∃ (B : Option Addr) (cap : Nat), v = .slice B ys.length cap /\ xF w B ys /\ yw B ys.length cap := by
 obtain ⟨B, cap, rfl, hz⟩ := FO h hv; refine ⟨B, cap, rfl, hz, ?_⟩; obtain ⟨_, h⟩ := h; rcases h with ⟨e, h0⟩ | ⟨gb, cap', cur, e, hB, hgb, hle, hmx, hcs, htk⟩
 ·simp at e; exact ⟨by omega, fun _ => e.2.2⟩
 ·simp at e; obtain ⟨rfl, rfl⟩ := e; exact ⟨hle, fun h => by cases h⟩
theorem zY {w wr w' : World} {v : Value} (hg : za w wr) (h : wr.grownBy w' v.ownBlock) {e : TypeId} {s n : Nat} {xs : List Value} (hown : wr.ownsRow w.heap.size e s v n xs) : za w w' := by
 refine za.own hg h (fun i hi => ?_); rcases hown.2 with ⟨rfl, _⟩ | ⟨g, cap, cur, rfl, hB, _⟩
 ·cases hi
 ·simp [Value.ownBlock] at hi; omega
theorem xF.vsl {w : World} {A : Option Addr} {xs : List I} (h : xF w A xs) : ∀ x ∈ xs, xp w x.A x.row := fun x hx => by
 obtain ⟨i, hi, e⟩ := List.mem_iff_getElem.1 hx; obtain ⟨_, _, _, _, _, hv⟩ := h i x (by rw [<- e]; exact List.getElem?_eq_getElem hi); exact hv
theorem jJ {w : World} {g : Nat} {t : TypeId} {y : I} {m : Nat} (hm : y.row.length = m) (hb : zb w g t #[.slice y.A m y.cap, .int .i64 y.w]) : Eq w (.slice (some ⟨g, 0, none⟩) 1 1) [y] := by
 refine .inr ⟨⟨g, 0, none⟩, 1, rfl, fun j u hj => ?_⟩; rw [yn, hb.cell]
 match j, hj with
 | 0, hj => simp [zt] at hj; subst hj; rw [hm]; rfl
 | 1, hj => simp [zt] at hj; subst hj; rfl
theorem Yh {w : World} {base : Nat} {v : Value} {n : Nat} {ys : List I} (h : w.ownsRow base 62 2 v n (zt ys)) (hv : ∀ y ∈ ys, xp w y.A y.row) : ∃ (B : Option Addr) (cap : Nat), v = .slice B ys.length cap /\ xF w B ys /\ yw B ys.length cap := by
 have h1 := h.1; rw [qc] at h1; obtain rfl : n = ys.length := by omega
 exact Xa h hv
theorem jM (r : List V) : (zd r).length = r.length := by simp [zd]
structure S where
 A : Option Addr
 xs : List I
 cap : Nat
instance : Inhabited S := ⟨⟨none, [], 0⟩⟩
def S.z (s : S) : List Z := s.xs.map zj
def VH (w : World) (A : Option Addr) (ss : List S) : Prop := ∀ i s, ss[i]? = some s -> ∃ g o, A = some ⟨g, o, none⟩ /\ w.cell? ⟨g, o + i, none⟩ = some (.slice s.A s.xs.length s.cap) /\ xF w s.A s.xs
theorem VH.grow {w w' : World} {A : Option Addr} {ss : List S} (h : VH w A ss) (hg : za w w') : VH w' A ss := fun i s hs => by
 obtain ⟨g, o, hA, a, b⟩ := h i s hs; exact ⟨g, o, hA, hg.cell a, b.grow hg⟩
def xW : List (List Z) -> Int
 | [] => 0
 | z :: l => if zu z ≠ 0 then zu z else xW l
theorem Vk {ss : List S} {k : Nat} {s : S} (h : ss[k]? = some s) : xW ((ss.drop k).map S.z) = if zu s.z ≠ 0 then zu s.z else xW ((ss.drop (k + 1)).map S.z) := by
 obtain ⟨h1, e1⟩ := List.getElem?_eq_some_iff.1 h; rw [List.drop_eq_getElem_cons h1, e1]; rfl
def S.ok (s : S) : Prop := s.xs.length <= 9223372036854775807 /\ ∀ x ∈ s.xs, x.row.length <= 9223372036854775807
theorem KD (ss : List S) (A : Option Addr) (c : Nat) (w : World) (hlen : ss.length <= 9223372036854775807) (hs : VH w A ss) (hl : ∀ s ∈ ss, s.ok) (R : Int) (hR : xW (ss.map S.z) = R) :
  Calls Tryz.prog 51 #[.slice A ss.length c] w fun en w' => en = .returned (.int .i64 R) /\ za w w' := by
 have HR := Lib.hid hR; have Hs := Lib.hid hs; have Hl := Lib.hid hl; clear hs hR hl; go_enter Tryz.func51, Tryz.ntmps51; go_wp2
 go_loopw [8] (fun i wr => ∃ k : Nat, k <= ss.length /\ i = .int .i64 k /\ xW ((ss.drop k).map S.z) = R /\ za w wr) (fun i _ => ss.length - (intOf i).toNat)
 case atStart => exact ⟨0, Nat.zero_le _, rfl, by simpa using HR.out, za.refl _⟩
 case round =>
  obtain ⟨k, hk, rfl, hinv, hg⟩ := hrel; have jd := Lib.hid hinv; clear hinv
  by_cases hlt : k < ss.length
  ·obtain ⟨s, hsk⟩ : ∃ s, ss[k]? = some s := ⟨_, List.getElem?_eq_getElem hlt⟩
   obtain ⟨g, o, rfl, c1, hz⟩ := (Hs.out.grow hg) k s hsk; have hok := Hl.out s (List.mem_of_getElem? hsk); have inv2 := (Vk hsk).symm.trans jd.out; obtain ⟨E, hE⟩ : ∃ E, zu s.z = E := ⟨_, rfl⟩
   rw [hE] at inv2; have cs := fun W (h : za wr W) => Kz s.xs s.A s.cap W hok.1 (hz.grow h) hok.2 E hE
   have Inv2 := Lib.hid inv2; clear inv2 hsk hz hok hE
   by_cases hw : E = 0
   ·have dw : (E != 0) = false := by simpa using hw
    go_wp2_with (go_at_call 95; ((with_reducible refine (cs _ (by with_reducible repeat (first | exact za.refl _ | assumption | refine za.set ?_ (by simp <;> omega) _ | refine za.al ?_ _ | refine za.drew ?_ | refine za.drewN ?_ _ | refine za.trans ?_ (by assumption)))).mono ?_); rintro e w2 ⟨rfl, hg2⟩))
    go_roundw
    case rel => exact ⟨k + 1, by omega, by go_num, by have := Inv2.out; rw [if_neg (by simpa using hw)] at this; exact this, hg.trans hg2⟩
    case measure => simp [intOf]; omega
   ·have dw : (E != 0) = true := by simpa using hw
    go_wp2_with (go_at_call 95; ((with_reducible refine (cs _ (by with_reducible repeat (first | exact za.refl _ | assumption | refine za.set ?_ (by simp <;> omega) _ | refine za.al ?_ _ | refine za.drew ?_ | refine za.drewN ?_ _ | refine za.trans ?_ (by assumption)))).mono ?_); rintro e w2 ⟨rfl, hg2⟩))
    go_ret; exact zA (by have := Inv2.out; rw [if_pos hw] at this; exact this) (hg.trans hg2)
  ·obtain rfl : k = ss.length := by omega
   have fin : R = 0 := by have := jd.out; rw [List.drop_length] at this; exact this.symm
   go_wp2; go_ret; exact zA fin.symm hg
theorem BS (n : Nat) (w : World) (hn : n <= 100000) :
  Calls Tryz.prog 98 #[.slice none 0 0, .int .i64 n] w fun e w' => ∃ v, e = .returned v /\ w'.ownsRow w.heap.size 62 2 v 0 (zt []) /\ za w w' := by
 obtain ⟨ti, hti, hz0, hz1, hz2⟩ := qV; go_enter Tryz.func98, Tryz.ntmps98
 by_cases h0 : n = 0
 ·subst h0; go_wp2; go_ret; exact ⟨_, rfl, World.ownsRow_nil _ _ _ _, za.refl _⟩
 ·have hpos : decide ((0 : Int) < (n : Int)) = true := decide_eq_true (by omega); have hwp : IntKind.i64.wrap (n : Int) = (n : Int) := by rw [IntKind.wrap_i64]; omega
  have hrz := fun ty => Lib.run_append_nil_zeros w 38 3 ty 62 ti _ .i64 .i64 Tryz.underlying38 Tryz.underlying3 hti hz0 n (by omega) (by omega) (by omega) (by rw [hz2]; omega)
  have hge : n <= grownCap w n 0 62 := grownCap_ge w n 0 _; have hmx := grownCap_le_maxLen w n 0 62 (by unfold maxLen; omega); obtain ⟨G, hG⟩ : ∃ G, grownCap w n 0 62 = G := ⟨_, rfl⟩
  rw [hG] at hrz hge hmx; have HM := Lib.hid hmx; have hG63 : G <= 9223372036854775807 := by unfold maxLen at hmx; omega
  clear hG hmx
  go_wp2_with (at_builtin; refine Lib.wpList_append_run _ rfl _ _ _ _ rfl _ _ rfl rfl _ _ (hrz _) ?_)
  go_ret; refine ⟨_, rfl, World.ownsRow_made w.drew _ G (Nat.le_refl _) HM.out ?_, (za.refl w).drew.al _⟩; simp [size_zeroCells, Value.cells]; omega
def fl (ss : List S) : List I := ss.flatMap S.xs
theorem MB {ss : List S} {k : Nat} {s : S} (h : ss[k]? = some s) : fl (ss.take (k + 1)) = fl (ss.take k) ++ s.xs := by
 obtain ⟨h1, e1⟩ := List.getElem?_eq_some_iff.1 h; rw [List.take_succ_eq_append_getElem h1, e1]; simp [fl]
theorem BN (ss : List S) (k : Nat) : (fl (ss.take k)).length <= (fl ss).length := by
 have : fl ss = fl (ss.take k) ++ fl (ss.drop k) := by unfold fl; rw [<- List.flatMap_append, List.take_append_drop]
 rw [this, List.length_append]; omega
theorem VH.vsl {w : World} {A : Option Addr} {ss : List S} (h : VH w A ss) : ∀ x ∈ fl ss, xp w x.A x.row := fun x hx => by
 obtain ⟨s, hs, hx⟩ := List.mem_flatMap.1 hx; obtain ⟨i, hi, e⟩ := List.mem_iff_getElem.1 hs; obtain ⟨_, _, _, _, hz⟩ := h i s (by rw [<- e]; exact List.getElem?_eq_getElem hi); exact hz.vsl x hx
theorem Gl {w : World} {A : Option Addr} {xs : List I} {c : Nat} (h : yw A xs.length c) (hz : xF w A xs) : Eq w (.slice A xs.length c) xs := by
 have := DH h hz (Nat.le_refl _)
 rwa [List.take_length] at this
theorem RW (ss : List S) (A : Option Addr) (c : Nat) (w : World) (hlen : ss.length <= 1000) (hs : VH w A ss) (hsum : (fl ss).length <= 10000) (hok : ∀ s ∈ ss, yw s.A s.xs.length s.cap) :
  Calls Tryz.prog 53 #[.slice A ss.length c] w fun en w' => ∃ (B : Option Addr) (cap : Nat), en = .returned (.slice B (fl ss).length cap) /\ xF w' B (fl ss) /\ yw B (fl ss).length cap /\ za w w' := by
 have Hs := Lib.hid hs; have Hok := Lib.hid hok; clear hs hok; go_enter Tryz.func53, Tryz.ntmps53; go_wp2
 go_loopw [3, 11] (fun n i wr => ∃ (k m : Nat), k <= ss.length /\ i = .int .i64 k /\ n = .int .i64 m /\ m = (fl (ss.take k)).length /\ za w wr) (fun _ i _ => ss.length - (intOf i).toNat)
 case atStart => exact ⟨0, 0, Nat.zero_le _, rfl, rfl, rfl, za.refl _⟩
 case round =>
  rename World => wa
  obtain ⟨k, m, hk, rfl, rfl, hm, hg⟩ := hrel; have Hm := Lib.hid hm; clear hm
  by_cases hlt : k < ss.length
  ·obtain ⟨s, hsk⟩ : ∃ s, ss[k]? = some s := ⟨_, List.getElem?_eq_getElem hlt⟩
   obtain ⟨g, o, rfl, c1, hz⟩ := (Hs.out.grow hg) k s hsk; have hm2 : m + s.xs.length = (fl (ss.take (k + 1))).length := by rw [MB hsk, List.length_append, <- Hm.out]
   have hb := BN ss (k + 1); rw [<- hm2] at hb; have Hm2 := Lib.hid hm2; have hwp : IntKind.i64.wrap ((m : Int) + (s.xs.length : Int)) = ((m + s.xs.length : Nat) : Int) := by rw [IntKind.wrap_i64]; omega
   have d0 : decide (((m + s.xs.length : Nat) : Int) < 0) = false := decide_eq_false (by omega); clear hm2 hsk hz; go_wp2; go_roundw
   case rel => exact ⟨k + 1, m + s.xs.length, by omega, by go_num, by go_num, Hm2.out, hg⟩
   case measure => simp [intOf]; omega
  ·obtain rfl : k = ss.length := by omega
   have hm2 : m <= 10000 := by rw [Hm.out, List.take_length]; exact hsum
   have cg := fun W => BS m W (by omega)
   go_upto_region 10 with (go_at_call 98; ((with_reducible refine (cg _).mono ?_); rintro en w2 ⟨v, rfl, hown, hg2⟩; have Own := Lib.hid hown; clear hown)); have G2 := hg.trans hg2; go_wp2
   go_loopw [6, 27] (fun t i wq => ∃ (k n : Nat), k <= ss.length /\ i = .int .i64 k /\ n = (fl (ss.take k)).length /\ wq.ownsRow wa.heap.size 62 2 t n (zt (fl (ss.take k))) /\ za wa wq) (fun _ i _ => ss.length - (intOf i).toNat)
   case atStart => exact ⟨0, 0, Nat.zero_le _, rfl, rfl, Own.out, hg2⟩
   case round =>
    obtain ⟨k, n, hk, rfl, hn, hown, hg3⟩ := hrel; have Own3 := Lib.hid hown; have Hn := Lib.hid hn; clear hown hn
    by_cases hlt : k < ss.length
    ·obtain ⟨s, hsk⟩ : ∃ s, ss[k]? = some s := ⟨_, List.getElem?_eq_getElem hlt⟩
     obtain ⟨g, o, rfl, c1, hz⟩ := (Hs.out.grow (hg.trans hg3)) k s hsk; have src := Lib.hid (Gl (Hok.out s (List.mem_of_getElem? hsk)) hz); have hn2 : n + s.xs.length = (fl (ss.take (k + 1))).length := by rw [MB hsk, List.length_append, <- Hn.out]
     have hfl := Lib.hid (MB hsk); have hb := BN ss (k + 1); rw [<- hn2] at hb; have Hn2 := Lib.hid hn2; clear hn2 hsk hz
     go_wp2_with (at_builtin; refine zS rfl _ _ rfl wa.heap.size _ n (fl (ss.take k)) rfl Own3.out _ s.xs rfl src.out (by omega) hg3.size ?_; intro v' w7 hown' hgrow)
     have hg7 : za wa w7 := zY hg3 hgrow Own3.out; have Own7 := Lib.hid hown'; clear hgrow hown'; go_wp2; go_roundw
     case rel => exact ⟨k + 1, n + s.xs.length, by omega, by go_num, Hn2.out, by rw [hfl.out]; exact Own7.out, hg7⟩
     case measure => simp [intOf]; omega
    ·obtain rfl : k = ss.length := by omega
     have own := Own3.out; have hn := Hn.out; rw [List.take_length] at own hn; rw [hn] at own; obtain ⟨B, cap, rfl, hz, hk⟩ := Xa own (Hs.out.grow (hg.trans hg3)).vsl; have Fin := Lib.hid (And.intro hz hk); clear own hn hz hk; go_wp2; go_ret; exact ⟨B, cap, rfl, Fin.out.1, Fin.out.2, hg.trans hg3⟩
theorem Tb {K : Int} : ∀ (l z : List Z) {M : Int}, 0 <= M -> 0 <= K -> Rp M z -> Rp K l -> Rp (M + K * l.length) (Jp z l)
 | [], z, M, _, _, hz, _ => by simpa [Jp] using hz
 | x :: l, z, M, hM, hK, hz, hl => by
  have h1 := F5 (r := x.1) (n := x.2) hz hM (hl x (by simp)).1 (hl x (by simp)).2; have h2 := Tb l (XR z x.1 x.2) (M := M + K) (by omega) hK h1 (fun y hy => hl y (by simp [hy])); rw [Yx]; intro y hy; have := h2 y hy; rw [List.length_cons, Int.natCast_succ, Int.mul_add, Int.mul_one]; omega
theorem Gi {K : Int} {l : List Z} (hK : 0 <= K) (hl : Rp K l) : Rp (K * l.length) (xJ l) := fun y hy => by
 have := Tb l [] (M := 0) (by omega) hK (fun x hx => by simp at hx) hl y hy; omega
def Pl (l : List Z) : Prop := (∀ x ∈ l, x.1.length <= 1000 /\ ∀ v ∈ x.1, RV v) /\ Rp 1000000 l
theorem TN {w : World} {g : Nat} {t : TypeId} {s1 s2 : S} (hb : zb w g t #[.slice s1.A s1.xs.length s1.cap, .slice s2.A s2.xs.length s2.cap]) (h1 : xF w s1.A s1.xs) (h2 : xF w s2.A s2.xs) : VH w (some ⟨g, 0, none⟩) [s1, s2] := fun i s hs => by
 match i, hs with
 | 0, hs => simp at hs; subst hs; exact ⟨g, 0, rfl, by rw [hb.cell]; rfl, h1⟩
 | 1, hs => simp at hs; subst hs; exact ⟨g, 0, rfl, by rw [hb.cell]; rfl, h2⟩
theorem Gk {w : World} {g : Nat} {t : TypeId} {s1 : S} (hb : zb w g t #[.slice s1.A s1.xs.length s1.cap]) (h1 : xF w s1.A s1.xs) : VH w (some ⟨g, 0, none⟩) [s1] := fun i s hs => by
 match i, hs with
 | 0, hs => simp at hs; subst hs; exact ⟨g, 0, rfl, by rw [hb.cell]; rfl, h1⟩
structure In (w : World) (s : S) : Prop where
 z : xF w s.A s.xs
 sl : yw s.A s.xs.length s.cap
 ok : s.ok
theorem In.grow {w w' : World} {s : S} (h : In w s) (hg : za w w') : In w' s := ⟨h.z.grow hg, h.sl, h.ok⟩
theorem Ms (x y : List Z) (t : Int) : yI x y t = if xW [x, y] ≠ 0 then ([], xW [x, y]) else yN (x ++ xl t y) := by
 unfold yI xW
 by_cases h1 : zu x = 0
 ·by_cases h2 : zu y = 0
  ·simp [xW, h1, h2]
  ·simp [xW, h1, h2]
 ·simp [h1]
theorem L8 {x y : List Z} (h : xW [x, y] = 0) : zu x = 0 /\ zu y = 0 := by
 unfold xW at h; split at h
 ·rename_i h1; exact absurd h h1
 ·rename_i h1; unfold xW at h; split at h
  ·rename_i h2; exact absurd h h2
  ·rename_i h2; exact ⟨by simpa using h1, by simpa using h2⟩
theorem S.facts {s : S} (h : zu s.z = 0) : s.xs.length <= 400 /\ (∀ x ∈ s.xs, x.row.length <= 8) /\ (∀ x ∈ s.xs, ∀ v ∈ x.row, RV v) /\ ∀ x ∈ s.xs, -1000000 <= x.w /\ x.w <= 1000000 := by
 have h := (jv _).1 h; exact ⟨by simpa [S.z] using h.len, fun x hx => (h.row (zj x) (List.mem_map_of_mem hx)).1, fun x hx => (h.row (zj x) (List.mem_map_of_mem hx)).2, fun x hx => (h.w (zj x) (List.mem_map_of_mem hx)).2⟩
theorem MC (a b : S) : fl [a, b] = a.xs ++ b.xs := by simp [fl]
theorem TT (a b : S) (B : Option Addr) (cap : Nat) (w : World) (hz : xF w B (fl [a, b])) (ha : zu a.z = 0) (hb : zu b.z = 0) :
  Calls Tryz.prog 52 #[.slice B (fl [a, b]).length cap] w fun en w' => yu w w' en (yN (a.z ++ b.z)) := by
 obtain ⟨a1, a2, a3, a4⟩ := S.facts ha; obtain ⟨b1, b2, b3, b4⟩ := S.facts hb; have e : (fl [a, b]).map zj = a.z ++ b.z := by rw [MC, List.map_append]; rfl
 rw [<- e]; have mem : ∀ x ∈ fl [a, b], x ∈ a.xs \/ x ∈ b.xs := fun x hx => by rw [MC] at hx; exact List.mem_append.1 hx
 refine kF _ _ _ _ (by rw [MC, List.length_append]; omega) hz (fun x hx => ?_) (fun x hx => ?_) (fun x hx => ?_)
 ·rcases mem x hx with h | h
  ·have := a2 x h; omega
  ·have := b2 x h; omega
 ·rcases mem x hx with h | h
  ·exact a3 x h
  ·exact b3 x h
 ·rcases mem x hx with h | h
  ·exact a4 x h
  ·exact b4 x h
theorem KE (a b : S) (g : Nat) (w : World) (t : TypeId) (h : zb w g t #[.slice a.A a.xs.length a.cap, .slice b.A b.xs.length b.cap]) (ha : In w a) (hb : In w b) :
  Calls Tryz.prog 51 #[.slice (some ⟨g, 0, none⟩) 2 2] w fun en w' => en = .returned (.int .i64 (xW [a.z, b.z])) /\ za w w' :=
 KD [a, b] (some ⟨g, 0, none⟩) 2 w (by simp) (TN h ha.z hb.z) (fun s hs => by simp at hs; rcases hs with rfl | rfl; exact ha.ok; exact hb.ok) _ rfl
theorem XK (a : S) (g : Nat) (w : World) (t : TypeId) (h : zb w g t #[.slice a.A a.xs.length a.cap]) (ha : In w a) :
  Calls Tryz.prog 51 #[.slice (some ⟨g, 0, none⟩) 1 1] w fun en w' => en = .returned (.int .i64 (zu a.z)) /\ za w w' :=
 KD [a] (some ⟨g, 0, none⟩) 1 w (by simp) (Gk h ha.z) (fun s hs => by simp at hs; rcases hs with rfl; exact ha.ok) _ (by simp only [List.map_cons, List.map_nil, xW]; split; rfl; simp_all)
theorem Jy (a b : S) (g : Nat) (w : World) (t : TypeId) (h : zb w g t #[.slice a.A a.xs.length a.cap, .slice b.A b.xs.length b.cap]) (ha : In w a) (hb : In w b) (hl : a.xs.length + b.xs.length <= 10000) :
  Calls Tryz.prog 53 #[.slice (some ⟨g, 0, none⟩) 2 2] w fun en w' => ∃ (B : Option Addr) (cap : Nat), en = .returned (.slice B (fl [a, b]).length cap) /\ xF w' B (fl [a, b]) /\ yw B (fl [a, b]).length cap /\ za w w' :=
 RW [a, b] (some ⟨g, 0, none⟩) 2 w (by simp) (TN h ha.z hb.z) (by rw [MC, List.length_append]; omega) (fun s hs => by simp at hs; rcases hs with rfl | rfl; exact ha.sl; exact hb.sl)
theorem Mp (a b : S) (w : World) (ha : In w a) (hb : In w b) :
  Calls Tryz.prog 26 #[.slice a.A a.xs.length a.cap, .slice b.A b.xs.length b.cap] w fun en w' => yu w w' en (yI a.z b.z 1) := by
 have Ha := Lib.hid ha; have Hb := Lib.hid hb; clear ha hb; go_enter Tryz.func26, Tryz.ntmps26; obtain ⟨E, hE⟩ : ∃ E, xW [a.z, b.z] = E := ⟨_, rfl⟩
 have cr := fun W (h1 : zb W w.heap.size 38 #[.slice a.A a.xs.length a.cap, .slice b.A b.xs.length b.cap]) (hg : za w W) => KE a b w.heap.size W _ h1 (Ha.out.grow hg) (Hb.out.grow hg)
 rw [hE] at cr; have HE := Lib.hid hE; clear hE; go_upto_region 2 with (go_at_call 51; ((with_reducible refine (cr _ (zb.new _ _ _) (by with_reducible repeat (first | exact za.refl _ | assumption | refine za.set ?_ (by simp <;> omega) _ | refine za.al ?_ _ | refine za.drew ?_ | refine za.drewN ?_ _ | refine za.trans ?_ (by assumption)))).mono ?_); rintro e w2 ⟨rfl, hg2⟩)); have G2 := ((za.refl w).al _).trans hg2; clear cr
 by_cases h0 : E = 0
 ·have d0 : (E != 0) = false := by simpa using h0
  obtain ⟨ra, rb⟩ := L8 (HE.out.trans h0); obtain ⟨a1, a2, a3, a4⟩ := S.facts ra; obtain ⟨b1, b2, b3, b4⟩ := S.facts rb; have cc := fun W (h1 : zb W w2.heap.size 38 #[.slice a.A a.xs.length a.cap, .slice b.A b.xs.length b.cap]) (hg : za w W) => Jy a b w2.heap.size W _ h1 (Ha.out.grow hg) (Hb.out.grow hg) (by omega)
  have fin : yI a.z b.z 1 = yN (a.z ++ b.z) := by rw [Ms, HE.out, if_neg (by simpa using h0), Vr]
  have Fin := Lib.hid fin; have cs := fun B cap W hz => TT a b B cap W hz ra rb
  clear fin ra rb a1 a2 a3 a4 b1 b2 b3 b4
  go_wp2_with (first
   | (go_at_call 53; ((with_reducible refine (cc _ (zb.new _ _ _) (G2.al _)).mono ?_); rintro e w3 ⟨B, cap, rfl, hz3, hk3, hg3⟩; have Hz3 := Lib.hid hz3; clear hz3 hk3))
   | (go_at_call 52; ((with_reducible refine (cs _ _ _ Hz3.out).mono ?_); rintro e w4 ⟨C, zs, cap2, rfl, hz4, hm4, hk4, hg4⟩; have Out := Lib.hid (And.intro hz4 (And.intro hm4 hk4)); clear hz4 hm4 hk4)))
  refine bodyPost_ret (by simp [results, Tryz.results26, go_sem] <;> rfl) rfl ?_; exact ⟨C, zs, cap2, by rw [Fin.out], Out.out.1, by rw [Fin.out]; exact Out.out.2.1, Out.out.2.2, ((G2.al _).trans hg3).trans hg4⟩
 ·have d0 : (E != 0) = true := by simpa using h0
  go_wp2; refine bodyPost_ret (by simp [results, Tryz.results26, go_sem] <;> rfl) rfl ?_; have e : yI a.z b.z 1 = ([], E) := by rw [Ms, HE.out, if_pos h0]
  exact ⟨none, [], 0, by rw [e]; rfl, yd _ _, by rw [e]; rfl, yw.nil, G2⟩
theorem DV.kept {w w' : World} {base n g : Nat} {v : Value} {xs : List Value} {r : List V} (h : DV w g r) (hown : w.ownsRow base 62 2 v n xs) (hg : w.grownBy w' v.ownBlock) : DV w' g r := by
 have h1 := hg.block g h.lt (fun e => by
  rcases hown.2 with ⟨rfl, _⟩ | ⟨g', cap, cur, rfl, _, hgb, _⟩
  ·simp [Value.ownBlock] at e
  ·simp [Value.ownBlock] at e; subst e; have h2 : w.heap[g]? = some (.cells (zH r).toArray 24 (0, 0)) := h; rw [hgb] at h2
   simp at h2)
 exact h1.trans h
theorem Xn (f : Int -> Int) {xs : List I} {k : Nat} {x : I} (h : xs[k]? = some x) : yq f ((xs.take (k + 1)).map zj) = yq f ((xs.take k).map zj) ++ (if f x.w ≠ 0 then [(zd x.row, f x.w)] else []) := by
 obtain ⟨h1, e1⟩ := List.getElem?_eq_some_iff.1 h; rw [List.take_succ_eq_append_getElem h1, e1]; unfold yq; simp only [List.map_append, List.filter_append, List.map_cons, List.map_nil, zj]
 by_cases hf : f x.w = 0
 ·simp [hf]
 ·simp [hf]
theorem T4 {r : List V} (hr : ∀ v ∈ r, RV v) : ∀ {z : List Z}, (∀ y ∈ z, ∀ v ∈ y.1, RV v) -> (∀ y ∈ z, zG y.1 r ≠ 0) -> yi z r = 0
 | [], _, _ => rfl
 | y :: z, hz, h => by
  rw [zm, T4 hr (fun u hu => hz u (by simp [hu])) (fun u hu => h u (by simp [hu])), if_neg]
  ·rfl
  ·intro e; exact h y (by simp) ((yE y.1 r (hz y (by simp)) hr).2 e)
theorem D8 {r : List V} (hr : ∀ v ∈ r, RV v) : ∀ {z : List Z} {x : Z}, (∀ y ∈ z, ∀ v ∈ y.1, RV v) -> z.Pairwise (fun x y => zG x.1 y.1 < 0) -> x ∈ z -> zG x.1 r = 0 -> yi z r = x.2
 | y :: z, x, hz, hu, hx, h => by
  have e := (yE x.1 r (hz x hx) hr).1 h; rcases List.mem_cons.1 hx with rfl | hx
  ·rw [zm, if_pos e, Jl (hz x (by simp)) (fun u hu => hz u (by simp [hu])) (List.pairwise_cons.1 hu).1 e]; simp
  ·rw [zm, D8 hr (fun u hu => hz u (by simp [hu])) (List.pairwise_cons.1 hu).2 hx h, if_neg]
   ·simp
   ·intro e2; have h1 := (List.pairwise_cons.1 hu).1 x hx; have h2 := (yE y.1 x.1 (hz y (by simp)) (hz x (by simp [hx]))).2 (e2.trans e.symm); omega
abbrev zbZ : Value := .func (.func 94) #[] #[]
theorem TY (x : I) (r : List V) (Ar : Option Addr) (cr : Nat) (w : World) (hx : xp w x.A x.row) (lx : x.row.length <= 9223372036854775807) (rx : ∀ v ∈ x.row, RV v) (hr : xp w Ar r) (lr : r.length <= 9223372036854775807) (rr : ∀ v ∈ r, RV v) :
  Calls Tryz.prog 94 #[.agg #[.slice x.A x.row.length x.cap, .int .i64 x.w], .slice Ar r.length cr] w fun e w' => e = .returned (.int .i64 (zG x.row r)) /\ za w w' := by
 have c := fun W (h : za w W) => qH x.row r x.A Ar x.cap cr W lx lr (hx.grow h) (hr.grow h)
 have e : zB x7 x.row r = zG x.row r := zW _ _ rx rr; rw [e] at c; clear hx hr rx rr e; go_enter Tryz.func94, Tryz.ntmps94
 go_wp2_with (go_at_call 85; ((with_reducible refine (c _ (by with_reducible repeat (first | exact za.refl _ | assumption | refine za.set ?_ (by simp <;> omega) _ | refine za.al ?_ _ | refine za.drew ?_ | refine za.drewN ?_ _ | refine za.trans ?_ (by assumption)))).mono ?_); rintro e w' ⟨rfl, hg'⟩))
 go_ret; exact zA rfl (by with_reducible repeat (first | exact za.refl _ | assumption | refine za.set ?_ (by simp <;> omega) _ | refine za.al ?_ _ | refine za.drew ?_ | refine za.drewN ?_ _ | refine za.trans ?_ (by assumption)))
theorem NK (xs : List I) (A : Option Addr) (c : Nat) (r : List V) (Ar : Option Addr) (cr : Nat) (w : World) (hlen : xs.length <= 400) (hz : xF w A xs) (hl : ∀ x ∈ xs, x.row.length <= 8) (hrv : ∀ x ∈ xs, ∀ v ∈ x.row, RV v) (hup : ∀ (i j : Nat) (x y : I), xs[i]? = some x -> xs[j]? = some y -> i < j -> zG x.row y.row < 0) (hr : xp w Ar r) (lr : r.length <= 1000) (rr : ∀ v ∈ r, RV v) :
  Calls Tryz.prog 93 #[.slice A xs.length c, .slice Ar r.length cr, zbZ] w fun en w' => (∃ (k : Nat) (b : Bool), en = .returned (.tuple #[.int .i64 k, .bool b]) /\ (b = true -> ∃ x, xs[k]? = some x /\ zG x.row r = 0) /\ (b = false -> ∀ x ∈ xs, zG x.row r ≠ 0)) /\ za w w' := by
 have Hz := Lib.hid hz; have Hl := Lib.hid hl; have Hrv := Lib.hid hrv; have Hup := Lib.hid hup; have Hr := Lib.hid hr; have Rr := Lib.hid rr; clear hz hl hrv hup hr rr; go_enter Tryz.func93, Tryz.ntmps93; go_wp2
 go_loopw [9, 10] (fun si sj wr => ∃ (i j : Nat), si = .int .i64 (i : Int) /\ sj = .int .i64 (j : Int) /\ i <= j /\ j <= xs.length /\ (∀ t x, xs[t]? = some x -> t < i -> zG x.row r < 0) /\ (∀ t x, xs[t]? = some x -> j <= t -> 0 <= zG x.row r) /\ za w wr) (fun si sj _ => (intOf sj).toNat - (intOf si).toNat)
 case atStart => exact ⟨0, xs.length, rfl, rfl, Nat.zero_le _, Nat.le_refl _, fun t x h1 h2 => by omega, fun t x h1 h2 => by have := (List.getElem?_eq_some_iff.1 h1).1; omega, za.refl _⟩
 case round =>
  obtain ⟨i, j, rfl, rfl, hij, hjb, hlo, hhi, hg⟩ := hrel; have Lo := Lib.hid hlo; have Hi := Lib.hid hhi; clear hlo hhi
  by_cases hlt : i < j
  ·have dl : decide ((i : Int) < (j : Int)) = true := by simp; omega
   obtain ⟨h, eh⟩ : ∃ h : Nat, h = (i + j) / 2 := ⟨_, rfl⟩
   have eh2 : ((i : Int) + (j : Int)) / 2 = (h : Int) := by omega
   have h1 : i <= h := by omega
   have h2 : h < j := by omega
   have hbig : (i : Int) + j <= 200000 := by omega
   have hhN : h < xs.length := by omega
   obtain ⟨x, hxk⟩ : ∃ x, xs[h]? = some x := ⟨_, List.getElem?_eq_getElem hhN⟩
   obtain ⟨gx, ox, rfl, c1, c2, hxv⟩ := (Hz.out.grow hg) h x hxk; have hmem := List.mem_of_getElem? hxk; have cc := fun W (h : za wr W) => TY x r Ar cr W (hxv.grow h) (by have := Hl.out x hmem; omega) (Hrv.out x hmem) (Hr.out.grow (hg.trans h)) (by omega) Rr.out
   obtain ⟨d, hd⟩ : ∃ d, zG x.row r = d := ⟨_, rfl⟩
   rw [hd] at cc; have Hd := Lib.hid hd; have Hxk := Lib.hid hxk; have Eh := Lib.hid eh; have b0 : (0 : Int) <= (h : Int) := by omega
   have b1 : (h : Int) < (xs.length : Int) := by omega
   clear hd hxk hmem hxv eh
   by_cases hc : d < 0
   ·have dc : decide (d < 0) = true := by simpa using hc
    have hnew : ∀ t y, xs[t]? = some y -> t < h + 1 -> zG y.row r < 0 := fun t y ht hlt' => by
     by_cases e : t = h
     ·subst e; have := ht.symm.trans Hxk.out; cases this; rw [Hd.out]; exact hc
     ·exact jH (Hup.out t h y x ht Hxk.out (by omega)) (by rw [Hd.out]; exact hc)
    have Hnew := Lib.hid hnew; clear hnew
    go_wp2_with (go_at_call 94; ((with_reducible refine (cc _ (za.refl _)).mono ?_); rintro e w3 ⟨rfl, hg3⟩))
    go_roundw
    case rel => exact ⟨h + 1, j, by go_num, rfl, by omega, hjb, Hnew.out, Hi.out, hg.trans hg3⟩
    case measure => simp [intOf]; omega
   ·have dc : decide (d < 0) = false := by simpa using hc
    have hnew : ∀ t y, xs[t]? = some y -> h <= t -> 0 <= zG y.row r := fun t y ht hlt' => by
     by_cases e : t = h
     ·subst e; have := ht.symm.trans Hxk.out; cases this; rw [Hd.out]; omega
     ·have h3 := Hup.out h t x y Hxk.out ht (by omega); have h4 := yD x.row r; have h5 := xu (a := r) (b := x.row) (c := y.row) (by rw [h4, Hd.out]; omega) (by omega); have h6 := yD y.row r; omega
    have Hnew := Lib.hid hnew; clear hnew
    go_wp2_with (go_at_call 94; ((with_reducible refine (cc _ (za.refl _)).mono ?_); rintro e w3 ⟨rfl, hg3⟩))
    go_roundw
    case rel => exact ⟨i, h, rfl, by go_num, by omega, by omega, Lo.out, Hnew.out, hg.trans hg3⟩
    case measure => simp [intOf]; omega
  ·obtain rfl : i = j := by omega
   have dl : decide ((i : Int) < (i : Int)) = false := by simp
   by_cases hn : i < xs.length
   ·have dn : decide ((i : Int) < (xs.length : Int)) = true := by simp; omega
    obtain ⟨x, hxk⟩ : ∃ x, xs[i]? = some x := ⟨_, List.getElem?_eq_getElem hn⟩
    obtain ⟨gx, ox, rfl, c1, c2, hxv⟩ := (Hz.out.grow hg) i x hxk; have hmem := List.mem_of_getElem? hxk; have cc := fun W (h : za wr W) => TY x r Ar cr W (hxv.grow h) (by have := Hl.out x hmem; omega) (Hrv.out x hmem) (Hr.out.grow (hg.trans h)) (by omega) Rr.out
    obtain ⟨d, hd⟩ : ∃ d, zG x.row r = d := ⟨_, rfl⟩
    rw [hd] at cc; have Hd := Lib.hid hd; have Hxk := Lib.hid hxk; have b0 : (0 : Int) <= (i : Int) := by omega
    have b1 : (i : Int) < (xs.length : Int) := by omega
    clear hd hxk hmem hxv
    have hres : ((d == 0) = true -> ∃ x, xs[i]? = some x /\ zG x.row r = 0) /\ ((d == 0) = false -> ∀ x ∈ xs, zG x.row r ≠ 0) := by
     refine ⟨fun e => ⟨x, Hxk.out, by rw [Hd.out]; simpa using e⟩, fun e y hy => ?_⟩; have hd0 : d ≠ 0 := by simpa using e
     obtain ⟨t, ht, ey⟩ := List.mem_iff_getElem.1 hy; have hty : xs[t]? = some y := by rw [<- ey]; exact List.getElem?_eq_getElem ht
     have hi0 := Hi.out i x Hxk.out (Nat.le_refl _); rw [Hd.out] at hi0; rcases Nat.lt_trichotomy t i with h | h | h
     ·have := Lo.out t y hty h; omega
     ·subst h; have := hty.symm.trans Hxk.out; cases this; rw [Hd.out]; exact hd0
     ·have h3 := Hup.out i t x y Hxk.out hty h; have h4 := yD x.row r; have h5 := jH (a := r) (b := x.row) (c := y.row) (by rw [h4, Hd.out]; omega) h3; have h6 := yD y.row r; omega
    have Res := Lib.hid hres; clear hres; obtain ⟨b, hb⟩ : ∃ b, (d == 0) = b := ⟨_, rfl⟩
    rw [hb] at Res
    go_wp2_with (go_at_call 94; ((with_reducible refine (cc _ (za.refl _)).mono ?_); rintro e w3 ⟨rfl, hg3⟩))
    refine bodyPost_ret (by simp [results, Tryz.results93, go_sem] <;> rfl) rfl ?_; exact ⟨⟨i, b, rfl, Res.out.1, Res.out.2⟩, hg.trans hg3⟩
   ·obtain rfl : i = xs.length := by omega
    have hres : ∀ x ∈ xs, zG x.row r ≠ 0 := fun y hy => by
     obtain ⟨t, ht, ey⟩ := List.mem_iff_getElem.1 hy; have := Lo.out t y (by rw [<- ey]; exact List.getElem?_eq_getElem ht) ht; omega
    have Res := Lib.hid hres; clear hres; go_wp2; refine bodyPost_ret (by simp [results, Tryz.results93, go_sem] <;> rfl) rfl ?_; exact ⟨⟨xs.length, false, rfl, (fun e => by cases e), (fun _ => Res.out)⟩, hg⟩
theorem Rn (xs : List I) (A : Option Addr) (c : Nat) (r : List V) (Ar : Option Addr) (cr : Nat) (w : World) (hz : xF w A xs) (hw : zu (xs.map zj) = 0) (hr : xp w Ar r) (hre : QH r = 0) :
  Calls Tryz.prog 50 #[.slice A xs.length c, .slice Ar r.length cr] w fun en w' => en = .returned (.int .i64 (yi (xs.map zj) r)) /\ za w w' := by
 obtain ⟨a1, a2, a3, a4⟩ := S.facts (s := ⟨A, xs, c⟩) hw; have a1 : xs.length <= 400 := a1; have hup0 := ((jv _).1 hw).up; have hrv0 : ∀ y ∈ xs.map zj, ∀ v ∈ y.1, RV v := fun y hy => (((jv _).1 hw).row y hy).2
 have hup : ∀ (i j : Nat) (x y : I), xs[i]? = some x -> xs[j]? = some y -> i < j -> zG x.row y.row < 0 := fun i j x y hx hy hij => by
  have h1 := List.pairwise_iff_getElem.1 hup0 i j (by simpa using (List.getElem?_eq_some_iff.1 hx).1) (by simpa using (List.getElem?_eq_some_iff.1 hy).1) hij; simp only [List.getElem_map, (List.getElem?_eq_some_iff.1 hx).2, (List.getElem?_eq_some_iff.1 hy).2] at h1; exact h1
 obtain ⟨l8, rr⟩ := (YR r).1 hre; have cs := NK xs A c r Ar cr w a1 hz a2 a3 hup hr (by omega) rr; obtain ⟨R, hR⟩ : ∃ R, yi (xs.map zj) r = R := ⟨_, rfl⟩
 have hit : ∀ (k : Nat) (x : I), xs[k]? = some x -> zG x.row r = 0 -> x.w = R := fun k x hx h => by
  rw [<- hR]; exact (D8 (x := zj x) rr hrv0 hup0 (List.mem_map_of_mem (List.mem_of_getElem? hx)) h).symm
 have miss : (∀ x ∈ xs, zG x.row r ≠ 0) -> R = 0 := fun h => by
  rw [<- hR]; exact T4 rr hrv0 (fun y hy => by obtain ⟨x, hx, rfl⟩ := List.mem_map.1 hy; exact h x hx)
 rw [hR]; have Jm := Lib.hid hit; have Miss := Lib.hid miss; have Hz := Lib.hid hz; clear hz hw hr hre a2 a3 a4 hup0 hrv0 hup rr hR hit miss; go_enter Tryz.func50, Tryz.ntmps50; go_upto_region 2 with (go_at_call 93; ((with_reducible refine cs.mono ?_); rintro en w2 ⟨⟨k, b, rfl, h1, h2⟩, hg2⟩; have H1 := Lib.hid h1; have H2 := Lib.hid h2; clear h1 h2)); cases b with
 | true =>
  obtain ⟨x, hxk, h0⟩ := H1.out rfl; have e := Jm.out k x hxk h0; obtain ⟨gx, ox, rfl, c1, c2, _⟩ := (Hz.out.grow hg2) k x hxk; have hlt := (List.getElem?_eq_some_iff.1 hxk).1; have b0 : (0 : Int) <= (k : Int) := by omega
  have b1 : (k : Int) < (xs.length : Int) := by omega
  have E := Lib.hid e; clear hxk h0 e; go_wp2; go_ret; exact zA E.out hg2
 | false =>
  have e := Lib.hid (Miss.out (H2.out rfl)); go_wp2; go_ret; exact zA e.out.symm hg2
end Go.Proofs.YtcaedcpjdmlilaaGreat

