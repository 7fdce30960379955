/-
  Joined texts of this claim: Zs11, Zs12, Zs13, Zs14, Zs15, Zs20. What each proves its own head says; no condition beside those that each theorem names.
-/
import Derived.Test.YtpdimihojeonhaaGH
import Derived.Laws.AppendOwnNone
import Derived.Deep.DeepCutAuto
import Derived.Test.YtpdimihojeonhaaGI
import Derived.Lib.AppendZeros
/-
  The reference's Bare, Put.
-/
namespace Go.Proofs.Ytpdimihojeonhaa
open Go.RowKit Go.Calm
set_option linter.unusedSimpArgs false
set_option linter.unusedVariables false

theorem flatW_append : ∀ xs ys : List V, flatW (xs ++ ys) = flatW xs ++ flatW ys
  | [], ys => rfl
  | x :: xs, ys => by simp [flatW, flatW_append xs ys]
theorem flatW_one : ∀ xs : List V, ∀ u ∈ flatW xs, u.oneCell' = true
  | [], u, hu => by simp [flatW] at hu
  | x :: xs, u, hu => by
    simp only [flatW, List.mem_cons] at hu
    rcases hu with rfl | rfl | rfl | hu
    · rfl
    · rfl
    · rfl
    · exact flatW_one xs u hu
theorem flatI_one : ∀ xs : List I, ∀ u ∈ flatI xs, u.oneCell' = true
  | [], u, hu => by simp [flatI] at hu
  | x :: xs, u, hu => by
    simp only [flatI, List.mem_cons] at hu
    rcases hu with rfl | rfl | hu
    · rfl
    · rfl
    · exact flatI_one xs u hu
theorem own_vsl {w : World} {base : Nat} {v : Value} {ys : List V} (h : w.ownsRow base 24 3 v ys.length (flatW ys)) : ∃ (B : Option Addr) (cap : Nat), v = .slice B ys.length cap ∧ VSl w B ys := by
  obtain ⟨_, h⟩ := h
  rcases h with ⟨rfl, h0⟩ | ⟨gb, cap, cur, rfl, hB, hgb, hle, hmx, hcs, htk⟩
  · have : ys = [] := List.length_eq_zero_iff.1 h0
    subst this
    exact ⟨none, 0, rfl, fun i x hx => by simp at hx⟩
  · have hb : Blk w gb 24 cur := hgb
    have key : ∀ i v, (flatW ys)[i]? = some v → w.cell? ⟨gb, i, none⟩ = some v := fun i v hv => by
      rw [← htk, List.getElem?_take] at hv
      split at hv
      · rw [hb.cell]; simpa using hv
      · cases hv
    refine ⟨some ⟨gb, 0, none⟩, cap, rfl, fun i x hx => ⟨gb, 0, rfl, ?_⟩⟩
    obtain ⟨a, b, c⟩ := flatW_get ys i x hx
    exact ⟨by rw [Nat.zero_add]; exact key _ _ a, by rw [Nat.zero_add]; exact key _ _ b, by rw [Nat.zero_add]; exact key _ _ c⟩
theorem own_zin {w : World} {base : Nat} {v : Value} {ys : List I} (h : w.ownsRow base 47 2 v ys.length (flatI ys)) (hv : ∀ y ∈ ys, VSl w y.A y.row) : ∃ (B : Option Addr) (cap : Nat), v = .slice B ys.length cap ∧ ZIn w B ys := by
  obtain ⟨_, h⟩ := h
  rcases h with ⟨rfl, h0⟩ | ⟨gb, cap, cur, rfl, hB, hgb, hle, hmx, hcs, htk⟩
  · have : ys = [] := List.length_eq_zero_iff.1 h0
    subst this
    exact ⟨none, 0, rfl, fun i x hx => by simp at hx⟩
  · have hb : Blk w gb 47 cur := hgb
    have key : ∀ i v, (flatI ys)[i]? = some v → w.cell? ⟨gb, i, none⟩ = some v := fun i v hv => by
      rw [← htk, List.getElem?_take] at hv
      split at hv
      · rw [hb.cell]; simpa using hv
      · cases hv
    refine ⟨some ⟨gb, 0, none⟩, cap, rfl, fun i x hx => ⟨gb, 0, rfl, ?_, ?_, hv x (List.mem_of_getElem? hx)⟩⟩
    · rw [Nat.zero_add]; exact key _ _ (flatI_get ys i x hx).1
    · rw [Nat.zero_add]; exact key _ _ (flatI_get ys i x hx).2
theorem own_types {w : World} {b1 b2 n1 n2 s1 s2 : Nat} {e1 e2 : TypeId} {v1 v2 : Value} {x1 x2 : List Value} (h1 : w.ownsRow b1 e1 s1 v1 n1 x1) (h2 : w.ownsRow b2 e2 s2 v2 n2 x2) (hne : e1 ≠ e2) : v1.ownBlock = none ∨ v1.ownBlock ≠ v2.ownBlock := by
  rcases h1.2 with ⟨rfl, _⟩ | ⟨g, cap, cur, rfl, hB, hgb, _⟩
  · exact .inl rfl
  · right
    rcases h2.2 with ⟨rfl, _⟩ | ⟨g', cap', cur', rfl, hB', hgb', _⟩
    · simp [Value.ownBlock]
    · intro e
      simp [Value.ownBlock] at e
      subst e
      rw [hgb] at hgb'
      simp at hgb'
      exact hne hgb'.2
theorem info_val2' : ∃ ti, Try.prog.info? 24 = some ti ∧ ti.zero = some (.agg #[.int .i64 0, .int .i64 0, .string ⟨#[]⟩]) ∧ ti.size = 3 ∧ ti.bytes = 32 := by
  have h := info_val2
  cases hi : Try.prog.info? 24 with
  | none => rw [hi] at h; simp at h
  | some i => rw [hi] at h; simp at h; exact ⟨i, rfl, h⟩
/-- cells of rows that lie in memory, from one on -/
theorem zin_news {w : World} {g o : Nat} {xs : List I} (h : ZIn w (some ⟨g, o, none⟩) xs) (k : Nat) : ∀ j u, (flatI (xs.drop k))[j]? = some u → w.cell? ((⟨g, o + k * 2, none⟩ : Addr).add j) = some u := fun j u hj => by
  have hlt : j < (flatI (xs.drop k)).length := (List.getElem?_eq_some_iff.1 hj).1
  rw [flatI_len] at hlt
  have hi : j / 2 < (xs.drop k).length := by omega
  obtain ⟨x, hx⟩ : ∃ x, (xs.drop k)[j / 2]? = some x := ⟨_, List.getElem?_eq_getElem hi⟩
  obtain ⟨a, b⟩ := flatI_get _ _ _ hx
  rw [List.getElem?_drop] at hx
  obtain ⟨g', o', e, c1, c2, _⟩ := h _ _ hx
  cases e
  have hA : (⟨g, o + k * 2, none⟩ : Addr).add j = ⟨g, o + k * 2 + j, none⟩ := by
    unfold Addr.add
    split
    · rename_i h0; subst h0; rfl
    · rfl
  rw [hA]
  rcases Nat.mod_two_eq_zero_or_one j with h2 | h2
  · rw [show j / 2 * 2 = j by omega] at a
    rw [a] at hj; cases hj
    rw [show o + k * 2 + j = o + (k + j / 2) * 2 by omega]; exact c1
  · rw [show j / 2 * 2 + 1 = j by omega] at b
    rw [b] at hj; cases hj
    rw [show o + k * 2 + j = o + (k + j / 2) * 2 + 1 by omega]; exact c2
theorem zin_take {w : World} {g o : Nat} {xs : List I} (h : ZIn w (some ⟨g, o, none⟩) xs) (k : Nat) : ∀ j u, (flatI (xs.take k))[j]? = some u → w.cell? ((⟨g, o, none⟩ : Addr).add j) = some u := fun j u hj => by
  have := zin_news h 0 j u
  rw [Nat.zero_mul, Nat.add_zero, List.drop_zero] at this
  refine this ?_
  have e := flatI_append (xs.take k) (xs.drop k)
  rw [List.take_append_drop] at e
  rw [e, List.getElem?_append_left (List.getElem?_eq_some_iff.1 hj).1]
  exact hj

end Go.Proofs.Ytpdimihojeonhaa

/-
  The reference's Put: so much of a row more.
-/
namespace Go.Proofs.Ytpdimihojeonhaa
open Go.RowKit Go.Calm
set_option linter.unusedSimpArgs false
set_option linter.unusedVariables false

theorem addr_add (g o j : Nat) : (⟨g, o, none⟩ : Addr).add j = ⟨g, o + j, none⟩ := by
  unfold Addr.add
  split
  · rename_i h0; subst h0; rfl
  · rfl
/-- rows to be taken over into a row of the call's own -/
def Src (w : World) (src : Value) (L : List I) : Prop := (src = .slice none 0 0 ∧ L = []) ∨ ∃ ad c, src = .slice (some ad) L.length c ∧ ∀ j u, (flatI L)[j]? = some u → w.cell? (ad.add j) = some u
theorem Src.grow {w w' : World} {src : Value} {L : List I} (h : Src w src L) (hg : Grow w w') : Src w' src L := by
  rcases h with h | ⟨ad, c, e, h⟩
  · exact .inl h
  · exact .inr ⟨ad, c, e, fun j u hj => hg.cell (h j u hj)⟩
theorem wpList_append_src {w : World} {ops : Array Oper} {rest : List Oper} {o : Oper} {a : Act} {Q : Exit → Act → World → Prop} (hgd : o.guard = none) (s x : Operand)
    (ho : o.op = .call { callee := .builtin .append, args := #[s, x], argTypes := #[28, 28] })
    (base : Nat) (v : Value) (n : Nat) (xs : List I) (hs : a.eval s = v) (hown : w.ownsRow base 47 2 v n (flatI xs)) (src : Value) (L : List I) (hx : a.eval x = src) (hsrc : Src w src L) (hB : n + L.length ≤ 1000000) (hbase : base ≤ w.heap.size)
    (h : ∀ v' w', w'.ownsRow base 47 2 v' (n + L.length) (flatI (xs ++ L)) → w.grownBy w' v.ownBlock → wpList Try.prog ops Q rest (a.put o.dst v') w') : wpList Try.prog ops Q (o :: rest) a w := by
  obtain ⟨ti, hti, hz0, hz1, hz2⟩ := info_zrow'
  rcases hsrc with ⟨rfl, rfl⟩ | ⟨ad, c, rfl, hc⟩
  · refine wpList_append_own_none hgd s x _ ho base 47 ti 2 Try.underlying28 hti v n (flatI xs) hs hown hx ?_
    exact h v w (by simpa using hown) ⟨rfl, rfl, rfl, Nat.le_refl _, fun _ _ _ => rfl⟩
  · refine wpList_append_own _ hgd s x _ ho base 47 ti (.agg #[.slice none 0 0, .int .i64 0]) 2 32 Try.underlying28 hti hz0 hz1 hz2 rfl (by decide) v n (flatI xs) hs hown ad L.length c (flatI L) hx (by rw [flatI_len]) hc (flatI_one _) (by unfold maxLen; omega) (by omega) hbase ?_
    intro v' w' h1 h2 _
    exact h v' w' (by rw [flatI_append]; exact h1) h2
theorem src_take {w : World} {A : Option Addr} {xs : List I} {c k : Nat} (h : SlOk A xs.length c) (hz : ZIn w A xs) (hk : k ≤ xs.length) : Src w (.slice A k c) (xs.take k) := by
  obtain ⟨h1, h2⟩ := h
  cases A with
  | none =>
    have := h2 rfl
    obtain rfl : k = 0 := by omega
    exact .inl ⟨by rw [this], by simp⟩
  | some ad =>
    refine .inr ⟨ad, c, by rw [List.length_take, Nat.min_eq_left hk], ?_⟩
    cases xs with
    | nil => intro j u hj; simp [flatI] at hj
    | cons x l =>
      obtain ⟨g, o, e, _⟩ := hz 0 x rfl
      cases e
      exact zin_take hz k
theorem src_drop {w : World} {A : Option Addr} {xs : List I} {c k : Nat} (h : SlOk A xs.length c) (hz : ZIn w A xs) (hk : k ≤ xs.length) : Src w (sliced A k xs.length c 2) (xs.drop k) := by
  obtain ⟨h1, h2⟩ := h
  cases A with
  | none =>
    have := h2 rfl
    obtain rfl : k = 0 := by omega
    obtain h0 : xs.length = 0 := by omega
    exact .inl ⟨by simp [sliced, h0, this], by simpa using h0⟩
  | some ad =>
    by_cases hn : k < xs.length
    · obtain ⟨g, o, e, _⟩ := hz k _ (List.getElem?_eq_getElem hn)
      cases e
      refine .inr ⟨⟨g, o + k * 2, none⟩, c - k, ?_, zin_news hz k⟩
      unfold sliced
      rw [if_neg (by omega), Option.map_some, addr_add, List.length_drop]
    · have e : xs.length = k := by omega
      refine .inr ⟨if c = k then ad else ad.add (k * 2), c - k, ?_, fun j u hj => ?_⟩
      · unfold sliced; split <;> simp
      · rw [← e, List.drop_length] at hj
        simp [flatI] at hj
theorem own_zin' {w : World} {base : Nat} {v : Value} {ys : List I} (h : w.ownsRow base 47 2 v ys.length (flatI ys)) (hv : ∀ y ∈ ys, VSl w y.A y.row) : ∃ (B : Option Addr) (cap : Nat), v = .slice B ys.length cap ∧ ZIn w B ys ∧ SlOk B ys.length cap := by
  obtain ⟨B, cap, rfl, hz⟩ := own_zin h hv
  refine ⟨B, cap, rfl, hz, ?_⟩
  obtain ⟨_, h⟩ := h
  rcases h with ⟨e, h0⟩ | ⟨gb, cap', cur, e, hB, hgb, hle, hmx, hcs, htk⟩
  · simp at e
    exact ⟨by omega, fun _ => e.2.2⟩
  · simp at e
    obtain ⟨rfl, rfl⟩ := e
    exact ⟨hle, fun h => by cases h⟩
theorem putZ_at {xs : List I} {k : Nat} {x : I} (r : List V) (n : Int) (h : xs[k]? = some x) : putZ ((xs.drop k).map zOf) r n = if ordR x.row r < 0 then zOf x :: putZ ((xs.drop (k + 1)).map zOf) r n else if ordR x.row r = 0 then (if n + x.w ≠ 0 then (bareR r, n + x.w) :: (xs.drop (k + 1)).map zOf else (xs.drop (k + 1)).map zOf) else (if n ≠ 0 then (bareR r, n) :: (xs.drop k).map zOf else (xs.drop k).map zOf) := by
  obtain ⟨h1, e1⟩ := List.getElem?_eq_some_iff.1 h
  rw [List.drop_eq_getElem_cons h1, e1]; rfl
theorem putZ_step {xs : List I} {k : Nat} {x : I} {r : List V} {n : Int} (h : xs[k]? = some x) (hr : ordR x.row r < 0) (hi : putZ (xs.map zOf) r n = (xs.take k).map zOf ++ putZ ((xs.drop k).map zOf) r n) : putZ (xs.map zOf) r n = (xs.take (k + 1)).map zOf ++ putZ ((xs.drop (k + 1)).map zOf) r n := by
  obtain ⟨h1, e1⟩ := List.getElem?_eq_some_iff.1 h
  rw [hi, putZ_at r n h, if_pos hr, List.take_succ_eq_append_getElem h1, e1]; simp
theorem grow_own {w wr w' : World} {v : Value} (hg : Grow w wr) (h : wr.grownBy w' v.ownBlock) {e : TypeId} {s n : Nat} {xs : List Value} (hown : wr.ownsRow w.heap.size e s v n xs) : Grow w w' := by
  refine Grow.own hg h (fun i hi => ?_)
  rcases hown.2 with ⟨rfl, _⟩ | ⟨g, cap, cur, rfl, hB, _⟩
  · cases hi
  · simp [Value.ownBlock] at hi; omega
end Go.Proofs.Ytpdimihojeonhaa

/-
  The reference's Put: the walk.
-/
namespace Go.Proofs.Ytpdimihojeonhaa
open Go.RowKit Go.Calm
set_option linter.unusedSimpArgs false
set_option linter.unusedVariables false

theorem ZIn.vsl {w : World} {A : Option Addr} {xs : List I} (h : ZIn w A xs) : ∀ x ∈ xs, VSl w x.A x.row := fun x hx => by
  obtain ⟨i, hi, e⟩ := List.mem_iff_getElem.1 hx
  obtain ⟨_, _, _, _, _, hv⟩ := h i x (by rw [← e]; exact List.getElem?_eq_getElem hi)
  exact hv
theorem src_one {w : World} {g : Nat} {t : TypeId} {y : I} {m : Nat} (hm : y.row.length = m) (hb : Blk w g t #[.slice y.A m y.cap, .int .i64 y.w]) : Src w (.slice (some ⟨g, 0, none⟩) 1 1) [y] := by
  refine .inr ⟨⟨g, 0, none⟩, 1, rfl, fun j u hj => ?_⟩
  rw [addr_add, hb.cell]
  match j, hj with
  | 0, hj => simp [flatI] at hj; subst hj; rw [hm]; rfl
  | 1, hj => simp [flatI] at hj; subst hj; rfl
theorem own_zin2 {w : World} {base : Nat} {v : Value} {n : Nat} {ys : List I} (h : w.ownsRow base 47 2 v n (flatI ys)) (hv : ∀ y ∈ ys, VSl w y.A y.row) : ∃ (B : Option Addr) (cap : Nat), v = .slice B ys.length cap ∧ ZIn w B ys ∧ SlOk B ys.length cap := by
  have h1 := h.1
  rw [flatI_len] at h1
  obtain rfl : n = ys.length := by omega
  exact own_zin' h hv
theorem bareR_len (r : List V) : (bareR r).length = r.length := by simp [bareR]
theorem own_row {w : World} {base : Nat} {B : Option Addr} {n c : Nat} {row : List V} (h : w.ownsRow base 24 3 (.slice B n c) n (flatW (bareR row))) (hn : n = row.length) : VSl w B (bareR row) := by
  rw [hn, ← bareR_len row] at h
  obtain ⟨B', c', e, hv⟩ := own_vsl h
  simp at e
  rw [e.1]; exact hv
theorem vsl_mid {w : World} {A : Option Addr} {xs : List I} {k K : Nat} {y : I} (h : ZIn w A xs) (hy : VSl w y.A y.row) : ∀ u ∈ xs.take k ++ [y] ++ xs.drop K, VSl w u.A u.row := fun u hu => by
  simp only [List.mem_append, List.mem_singleton] at hu
  rcases hu with (hu | rfl) | hu
  · exact h.vsl u (List.mem_of_mem_take hu)
  · exact hy
  · exact h.vsl u (List.mem_of_mem_drop hu)
theorem vsl_mid0 {w : World} {A : Option Addr} {xs : List I} {k K : Nat} (h : ZIn w A xs) : ∀ u ∈ xs.take k ++ xs.drop K, VSl w u.A u.row := fun u hu => by
  simp only [List.mem_append] at hu
  rcases hu with hu | hu
  · exact h.vsl u (List.mem_of_mem_take hu)
  · exact h.vsl u (List.mem_of_mem_drop hu)
/-- a set given back, in a slice that may be cut -/
def GivesS (w w' : World) (e : Ending) (r : List Z) : Prop := ∃ (B : Option Addr) (ys : List I) (cap : Nat), e = .returned (.slice B ys.length cap) ∧ ZIn w' B ys ∧ ys.map zOf = r ∧ SlOk B ys.length cap ∧ Grow w w'
end Go.Proofs.Ytpdimihojeonhaa

/-
  Lists of sets in memory; zsets.right; slices.Grow, slices.Concat.
-/
namespace Go.Proofs.Ytpdimihojeonhaa
open Go.RowKit Go.Calm
set_option linter.unusedSimpArgs false
set_option linter.unusedVariables false

/-- a set in memory -/
structure S where
  A : Option Addr
  xs : List I
  cap : Nat
instance : Inhabited S := ⟨⟨none, [], 0⟩⟩
def S.z (s : S) : List Z := s.xs.map zOf
/-- sets at an address -/
def SIn (w : World) (A : Option Addr) (ss : List S) : Prop := ∀ i s, ss[i]? = some s → ∃ g o, A = some ⟨g, o, none⟩ ∧ w.cell? ⟨g, o + i, none⟩ = some (.slice s.A s.xs.length s.cap) ∧ ZIn w s.A s.xs
theorem SIn.grow {w w' : World} {A : Option Addr} {ss : List S} (h : SIn w A ss) (hg : Grow w w') : SIn w' A ss := fun i s hs => by
  obtain ⟨g, o, hA, a, b⟩ := h i s hs
  exact ⟨g, o, hA, hg.cell a, b.grow hg⟩
/-- the first thing that is wrong with sets -/
def rightZ : List (List Z) → Int
  | [] => 0
  | z :: l => if wrongZ z ≠ 0 then wrongZ z else rightZ l
theorem rightZ_at {ss : List S} {k : Nat} {s : S} (h : ss[k]? = some s) : rightZ ((ss.drop k).map S.z) = if wrongZ s.z ≠ 0 then wrongZ s.z else rightZ ((ss.drop (k + 1)).map S.z) := by
  obtain ⟨h1, e1⟩ := List.getElem?_eq_some_iff.1 h
  rw [List.drop_eq_getElem_cons h1, e1]; rfl
/-- a set no larger than memory has -/
def S.ok (s : S) : Prop := s.xs.length ≤ 9223372036854775807 ∧ ∀ x ∈ s.xs, x.row.length ≤ 9223372036854775807

set_option maxRecDepth 100000 in
set_option maxHeartbeats 4000000 in
theorem zright_any (ss : List S) (A : Option Addr) (c : Nat) (w : World) (hlen : ss.length ≤ 9223372036854775807) (hs : SIn w A ss) (hl : ∀ s ∈ ss, s.ok) (R : Int) (hR : rightZ (ss.map S.z) = R) :
    Calls Try.prog 52 #[.slice A ss.length c] w fun en w' => en = .returned (.int .i64 R) ∧ Grow w w' := by
  have HR := Lib.hid hR
  have Hs := Lib.hid hs
  have Hl := Lib.hid hl
  clear hs hR hl
  go_enter Try.func52, Try.ntmps52
  go_wp2
  go_loopw [8] (fun i wr => ∃ k : Nat, k ≤ ss.length ∧ i = .int .i64 k ∧ rightZ ((ss.drop k).map S.z) = R ∧ Grow w wr) (fun i _ => ss.length - (intOf i).toNat)
  case atStart => exact ⟨0, Nat.zero_le _, rfl, by simpa using HR.out, Grow.refl _⟩
  case round =>
    obtain ⟨k, hk, rfl, hinv, hg⟩ := hrel
    have Inv := Lib.hid hinv
    clear hinv
    by_cases hlt : k < ss.length
    · obtain ⟨s, hsk⟩ : ∃ s, ss[k]? = some s := ⟨_, List.getElem?_eq_getElem hlt⟩
      obtain ⟨g, o, rfl, c1, hz⟩ := (Hs.out.grow hg) k s hsk
      have hok := Hl.out s (List.mem_of_getElem? hsk)
      have inv2 := (rightZ_at hsk).symm.trans Inv.out
      obtain ⟨E, hE⟩ : ∃ E, wrongZ s.z = E := ⟨_, rfl⟩
      rw [hE] at inv2
      have cs := fun W (h : Grow wr W) => wrongz_any s.xs s.A s.cap W hok.1 (hz.grow h) hok.2 E hE
      have Inv2 := Lib.hid inv2
      clear inv2 hsk hz hok hE
      by_cases hw : E = 0
      · have dw : (E != 0) = false := by simpa using hw
        go_wp2_with (go_at_call 60; ((with_reducible refine (cs _ (by repeat (first | (with_reducible exact Grow.refl _) | (with_reducible assumption) | (with_reducible refine Grow.set ?_ (by first | (simp; done) | (simp; omega)) _) | (with_reducible refine Grow.al ?_ _) | (with_reducible refine Grow.drew ?_) | (with_reducible refine Grow.drewN ?_ _) | (with_reducible refine Grow.trans ?_ (by assumption))))).mono ?_); rintro e w2 ⟨rfl, hg2⟩))
        go_roundw
        case rel => exact ⟨k + 1, by omega, by go_num, by have := Inv2.out; rw [if_neg (by simpa using hw)] at this; exact this, hg.trans hg2⟩
        case measure => simp [intOf]; omega
      · have dw : (E != 0) = true := by simpa using hw
        go_wp2_with (go_at_call 60; ((with_reducible refine (cs _ (by repeat (first | (with_reducible exact Grow.refl _) | (with_reducible assumption) | (with_reducible refine Grow.set ?_ (by first | (simp; done) | (simp; omega)) _) | (with_reducible refine Grow.al ?_ _) | (with_reducible refine Grow.drew ?_) | (with_reducible refine Grow.drewN ?_ _) | (with_reducible refine Grow.trans ?_ (by assumption))))).mono ?_); rintro e w2 ⟨rfl, hg2⟩))
        go_ret
        exact ret_int (by have := Inv2.out; rw [if_pos hw] at this; exact this) (hg.trans hg2)
    · obtain rfl : k = ss.length := by omega
      have fin : R = 0 := by have := Inv.out; rw [List.drop_length] at this; exact this.symm
      go_wp2
      go_ret
      exact ret_int fin.symm hg

set_option maxRecDepth 100000 in
set_option maxHeartbeats 4000000 in
theorem grow_any (n : Nat) (w : World) (hn : n ≤ 100000) :
    Calls Try.prog 84 #[.slice none 0 0, .int .i64 n] w fun e w' => ∃ v, e = .returned v ∧ w'.ownsRow w.heap.size 47 2 v 0 (flatI []) ∧ Grow w w' := by
  obtain ⟨ti, hti, hz0, hz1, hz2⟩ := info_zrow'
  go_enter Try.func84, Try.ntmps84
  by_cases h0 : n = 0
  · subst h0
    go_wp2
    go_ret
    exact ⟨_, rfl, World.ownsRow_nil _ _ _ _, Grow.refl _⟩
  · have hpos : decide ((0 : Int) < (n : Int)) = true := decide_eq_true (by omega)
    have hwp : IntKind.i64.wrap (n : Int) = (n : Int) := by rw [IntKind.wrap_i64]; omega
    have hrz := fun ty => Lib.run_append_nil_zeros w 28 3 ty 47 ti _ .i64 .i64 Try.underlying28 Try.underlying3 hti hz0 n (by omega) (by omega) (by omega) (by rw [hz2]; omega)
    have hge : n ≤ grownCap w n 0 47 := grownCap_ge w n 0 _
    have hmx := grownCap_le_maxLen w n 0 47 (by unfold maxLen; omega)
    obtain ⟨G, hG⟩ : ∃ G, grownCap w n 0 47 = G := ⟨_, rfl⟩
    rw [hG] at hrz hge hmx
    have HM := Lib.hid hmx
    have hG63 : G ≤ 9223372036854775807 := by unfold maxLen at hmx; omega
    clear hG hmx
    go_wp2_with (at_builtin; refine Lib.wpList_append_run _ rfl _ _ _ _ rfl _ _ rfl rfl _ _ (hrz _) ?_)
    go_ret
    refine ⟨_, rfl, World.ownsRow_made w.drew _ G (Nat.le_refl _) HM.out ?_, (Grow.refl w).drew.al _⟩
    simp [size_zeroCells, Value.cells]
    omega
def fl (ss : List S) : List I := ss.flatMap S.xs
theorem fl_succ {ss : List S} {k : Nat} {s : S} (h : ss[k]? = some s) : fl (ss.take (k + 1)) = fl (ss.take k) ++ s.xs := by
  obtain ⟨h1, e1⟩ := List.getElem?_eq_some_iff.1 h
  rw [List.take_succ_eq_append_getElem h1, e1]; simp [fl]
theorem fl_len (ss : List S) (k : Nat) : (fl (ss.take k)).length ≤ (fl ss).length := by
  have : fl ss = fl (ss.take k) ++ fl (ss.drop k) := by unfold fl; rw [← List.flatMap_append, List.take_append_drop]
  rw [this, List.length_append]
  omega
theorem SIn.vsl {w : World} {A : Option Addr} {ss : List S} (h : SIn w A ss) : ∀ x ∈ fl ss, VSl w x.A x.row := fun x hx => by
  obtain ⟨s, hs, hx⟩ := List.mem_flatMap.1 hx
  obtain ⟨i, hi, e⟩ := List.mem_iff_getElem.1 hs
  obtain ⟨_, _, _, _, hz⟩ := h i s (by rw [← e]; exact List.getElem?_eq_getElem hi)
  exact hz.vsl x hx
theorem src_all {w : World} {A : Option Addr} {xs : List I} {c : Nat} (h : SlOk A xs.length c) (hz : ZIn w A xs) : Src w (.slice A xs.length c) xs := by
  have := src_take h hz (Nat.le_refl _)
  rwa [List.take_length] at this
set_option maxRecDepth 100000 in
set_option maxHeartbeats 4000000 in
theorem concat_any (ss : List S) (A : Option Addr) (c : Nat) (w : World) (hlen : ss.length ≤ 1000) (hs : SIn w A ss) (hsum : (fl ss).length ≤ 10000) (hok : ∀ s ∈ ss, SlOk s.A s.xs.length s.cap) :
    Calls Try.prog 53 #[.slice A ss.length c] w fun en w' => ∃ (B : Option Addr) (cap : Nat), en = .returned (.slice B (fl ss).length cap) ∧ ZIn w' B (fl ss) ∧ SlOk B (fl ss).length cap ∧ Grow w w' := by
  have Hs := Lib.hid hs
  have Hok := Lib.hid hok
  clear hs hok
  go_enter Try.func53, Try.ntmps53
  go_wp2
  go_loopw [3, 11] (fun n i wr => ∃ (k m : Nat), k ≤ ss.length ∧ i = .int .i64 k ∧ n = .int .i64 m ∧ m = (fl (ss.take k)).length ∧ Grow w wr) (fun _ i _ => ss.length - (intOf i).toNat)
  case atStart => exact ⟨0, 0, Nat.zero_le _, rfl, rfl, rfl, Grow.refl _⟩
  case round =>
    rename World => wa
    obtain ⟨k, m, hk, rfl, rfl, hm, hg⟩ := hrel
    have Hm := Lib.hid hm
    clear hm
    by_cases hlt : k < ss.length
    · obtain ⟨s, hsk⟩ : ∃ s, ss[k]? = some s := ⟨_, List.getElem?_eq_getElem hlt⟩
      obtain ⟨g, o, rfl, c1, hz⟩ := (Hs.out.grow hg) k s hsk
      have hm2 : m + s.xs.length = (fl (ss.take (k + 1))).length := by rw [fl_succ hsk, List.length_append, ← Hm.out]
      have hb := fl_len ss (k + 1)
      rw [← hm2] at hb
      have Hm2 := Lib.hid hm2
      have hwp : IntKind.i64.wrap ((m : Int) + (s.xs.length : Int)) = ((m + s.xs.length : Nat) : Int) := by rw [IntKind.wrap_i64]; omega
      have d0 : decide (((m + s.xs.length : Nat) : Int) < 0) = false := decide_eq_false (by omega)
      clear hm2 hsk hz
      go_wp2
      go_roundw
      case rel => exact ⟨k + 1, m + s.xs.length, by omega, by go_num, by go_num, Hm2.out, hg⟩
      case measure => simp [intOf]; omega
    · obtain rfl : k = ss.length := by omega
      have hm2 : m ≤ 10000 := by rw [Hm.out, List.take_length]; exact hsum
      have cg := fun W => grow_any m W (by omega)
      go_upto_region 10 with (go_at_call 84; ((with_reducible refine (cg _).mono ?_); rintro en w2 ⟨v, rfl, hown, hg2⟩; have Own := Lib.hid hown; clear hown))
      have G2 := hg.trans hg2
      go_wp2
      go_loopw [6, 27] (fun t i wq => ∃ (k n : Nat), k ≤ ss.length ∧ i = .int .i64 k ∧ n = (fl (ss.take k)).length ∧ wq.ownsRow wa.heap.size 47 2 t n (flatI (fl (ss.take k))) ∧ Grow wa wq) (fun _ i _ => ss.length - (intOf i).toNat)
      case atStart => exact ⟨0, 0, Nat.zero_le _, rfl, rfl, Own.out, hg2⟩
      case round =>
        obtain ⟨k, n, hk, rfl, hn, hown, hg3⟩ := hrel
        have Own3 := Lib.hid hown
        have Hn := Lib.hid hn
        clear hown hn
        by_cases hlt : k < ss.length
        · obtain ⟨s, hsk⟩ : ∃ s, ss[k]? = some s := ⟨_, List.getElem?_eq_getElem hlt⟩
          obtain ⟨g, o, rfl, c1, hz⟩ := (Hs.out.grow (hg.trans hg3)) k s hsk
          have src := Lib.hid (src_all (Hok.out s (List.mem_of_getElem? hsk)) hz)
          have hn2 : n + s.xs.length = (fl (ss.take (k + 1))).length := by rw [fl_succ hsk, List.length_append, ← Hn.out]
          have hfl := Lib.hid (fl_succ hsk)
          have hb := fl_len ss (k + 1)
          rw [← hn2] at hb
          have Hn2 := Lib.hid hn2
          clear hn2 hsk hz
          go_wp2_with (at_builtin; refine wpList_append_src rfl _ _ rfl wa.heap.size _ n (fl (ss.take k)) rfl Own3.out _ s.xs rfl src.out (by omega) hg3.size ?_; intro v' w7 hown' hgrow)
          have hg7 : Grow wa w7 := grow_own hg3 hgrow Own3.out
          have Own7 := Lib.hid hown'
          clear hgrow hown'
          go_wp2
          go_roundw
          case rel => exact ⟨k + 1, n + s.xs.length, by omega, by go_num, Hn2.out, by rw [hfl.out]; exact Own7.out, hg7⟩
          case measure => simp [intOf]; omega
        · obtain rfl : k = ss.length := by omega
          have own := Own3.out
          have hn := Hn.out
          rw [List.take_length] at own hn
          rw [hn] at own
          obtain ⟨B, cap, rfl, hz, hk⟩ := own_zin' own (Hs.out.grow (hg.trans hg3)).vsl
          have Fin := Lib.hid (And.intro hz hk)
          clear own hn hz hk
          go_wp2
          go_ret
          exact ⟨B, cap, rfl, Fin.out.1, Fin.out.2, hg.trans hg3⟩
end Go.Proofs.Ytpdimihojeonhaa

/-
  zsets.Add, each, Neg, Sub, Positive, Distinct.
-/
namespace Go.Proofs.Ytpdimihojeonhaa
open Go.RowKit Go.Calm
set_option linter.unusedSimpArgs false
set_option linter.unusedVariables false

/-- two sets side by side in new memory -/
theorem sin_two {w : World} {g : Nat} {t : TypeId} {s1 s2 : S} (hb : Blk w g t #[.slice s1.A s1.xs.length s1.cap, .slice s2.A s2.xs.length s2.cap]) (h1 : ZIn w s1.A s1.xs) (h2 : ZIn w s2.A s2.xs) : SIn w (some ⟨g, 0, none⟩) [s1, s2] := fun i s hs => by
  match i, hs with
  | 0, hs => simp at hs; subst hs; exact ⟨g, 0, rfl, by rw [hb.cell]; rfl, h1⟩
  | 1, hs => simp at hs; subst hs; exact ⟨g, 0, rfl, by rw [hb.cell]; rfl, h2⟩
theorem sin_one {w : World} {g : Nat} {t : TypeId} {s1 : S} (hb : Blk w g t #[.slice s1.A s1.xs.length s1.cap]) (h1 : ZIn w s1.A s1.xs) : SIn w (some ⟨g, 0, none⟩) [s1] := fun i s hs => by
  match i, hs with
  | 0, hs => simp at hs; subst hs; exact ⟨g, 0, rfl, by rw [hb.cell]; rfl, h1⟩
/-- a set's slice as it came in -/
structure In (w : World) (s : S) : Prop where
  z : ZIn w s.A s.xs
  sl : SlOk s.A s.xs.length s.cap
  ok : s.ok
theorem In.grow {w w' : World} {s : S} (h : In w s) (hg : Grow w w') : In w' s := ⟨h.z.grow hg, h.sl, h.ok⟩
def S.v (s : S) : Value := .slice s.A s.xs.length s.cap

theorem both_eq (x y : List Z) (t : Int) : bothZ x y t = if rightZ [x, y] ≠ 0 then ([], rightZ [x, y]) else sumZ (x ++ scaleZ t y) := by
  unfold bothZ rightZ
  by_cases h1 : wrongZ x = 0
  · by_cases h2 : wrongZ y = 0
    · simp [rightZ, h1, h2]
    · simp [rightZ, h1, h2]
  · simp [h1]
theorem right_two {x y : List Z} (h : rightZ [x, y] = 0) : wrongZ x = 0 ∧ wrongZ y = 0 := by
  unfold rightZ at h
  split at h
  · rename_i h1; exact absurd h h1
  · rename_i h1
    unfold rightZ at h
    split at h
    · rename_i h2; exact absurd h h2
    · rename_i h2
      exact ⟨by simpa using h1, by simpa using h2⟩
/-- what is right, as the walks want it -/
theorem S.facts {s : S} (h : wrongZ s.z = 0) : s.xs.length ≤ 400 ∧ (∀ x ∈ s.xs, x.row.length ≤ 8) ∧ (∀ x ∈ s.xs, ∀ v ∈ x.row, RV v) ∧ ∀ x ∈ s.xs, -1000000 ≤ x.w ∧ x.w ≤ 1000000 := by
  have h := (wrongZ_zero _).1 h
  exact ⟨by simpa [S.z] using h.len, fun x hx => (h.row (zOf x) (List.mem_map_of_mem hx)).1, fun x hx => (h.row (zOf x) (List.mem_map_of_mem hx)).2, fun x hx => (h.w (zOf x) (List.mem_map_of_mem hx)).2⟩
theorem fl_two (a b : S) : fl [a, b] = a.xs ++ b.xs := by simp [fl]
/-- the sum of two right sets put one behind the other -/
theorem sum_two (a b : S) (B : Option Addr) (cap : Nat) (w : World) (hz : ZIn w B (fl [a, b])) (ha : wrongZ a.z = 0) (hb : wrongZ b.z = 0) :
    Calls Try.prog 30 #[.slice B (fl [a, b]).length cap] w fun en w' => Gives w w' en (sumZ (a.z ++ b.z)) := by
  obtain ⟨a1, a2, a3, a4⟩ := S.facts ha
  obtain ⟨b1, b2, b3, b4⟩ := S.facts hb
  have e : (fl [a, b]).map zOf = a.z ++ b.z := by rw [fl_two, List.map_append]; rfl
  rw [← e]
  have mem : ∀ x ∈ fl [a, b], x ∈ a.xs ∨ x ∈ b.xs := fun x hx => by rw [fl_two] at hx; exact List.mem_append.1 hx
  refine sum_any _ _ _ _ (by rw [fl_two, List.length_append]; omega) hz (fun x hx => ?_) (fun x hx => ?_) (fun x hx => ?_)
  · rcases mem x hx with h | h
    · have := a2 x h; omega
    · have := b2 x h; omega
  · rcases mem x hx with h | h
    · exact a3 x h
    · exact b3 x h
  · rcases mem x hx with h | h
    · exact a4 x h
    · exact b4 x h
theorem zright_two (a b : S) (g : Nat) (w : World) (t : TypeId) (h : Blk w g t #[.slice a.A a.xs.length a.cap, .slice b.A b.xs.length b.cap]) (ha : In w a) (hb : In w b) :
    Calls Try.prog 52 #[.slice (some ⟨g, 0, none⟩) 2 2] w fun en w' => en = .returned (.int .i64 (rightZ [a.z, b.z])) ∧ Grow w w' :=
  zright_any [a, b] (some ⟨g, 0, none⟩) 2 w (by simp) (sin_two h ha.z hb.z) (fun s hs => by simp at hs; rcases hs with rfl | rfl; exact ha.ok; exact hb.ok) _ rfl
theorem zright_one (a : S) (g : Nat) (w : World) (t : TypeId) (h : Blk w g t #[.slice a.A a.xs.length a.cap]) (ha : In w a) :
    Calls Try.prog 52 #[.slice (some ⟨g, 0, none⟩) 1 1] w fun en w' => en = .returned (.int .i64 (wrongZ a.z)) ∧ Grow w w' :=
  zright_any [a] (some ⟨g, 0, none⟩) 1 w (by simp) (sin_one h ha.z) (fun s hs => by simp at hs; rcases hs with rfl; exact ha.ok) _ (by simp only [List.map_cons, List.map_nil, rightZ]; split; rfl; simp_all)
theorem concat_two (a b : S) (g : Nat) (w : World) (t : TypeId) (h : Blk w g t #[.slice a.A a.xs.length a.cap, .slice b.A b.xs.length b.cap]) (ha : In w a) (hb : In w b) (hl : a.xs.length + b.xs.length ≤ 10000) :
    Calls Try.prog 53 #[.slice (some ⟨g, 0, none⟩) 2 2] w fun en w' => ∃ (B : Option Addr) (cap : Nat), en = .returned (.slice B (fl [a, b]).length cap) ∧ ZIn w' B (fl [a, b]) ∧ SlOk B (fl [a, b]).length cap ∧ Grow w w' :=
  concat_any [a, b] (some ⟨g, 0, none⟩) 2 w (by simp) (sin_two h ha.z hb.z) (by rw [fl_two, List.length_append]; omega) (fun s hs => by simp at hs; rcases hs with rfl | rfl; exact ha.sl; exact hb.sl)
set_option maxRecDepth 100000 in
set_option maxHeartbeats 4000000 in
theorem add_any (a b : S) (w : World) (ha : In w a) (hb : In w b) :
    Calls Try.prog 28 #[.slice a.A a.xs.length a.cap, .slice b.A b.xs.length b.cap] w fun en w' => Gives w w' en (bothZ a.z b.z 1) := by
  have Ha := Lib.hid ha
  have Hb := Lib.hid hb
  clear ha hb
  go_enter Try.func28, Try.ntmps28
  obtain ⟨E, hE⟩ : ∃ E, rightZ [a.z, b.z] = E := ⟨_, rfl⟩
  have cr := fun W (h1 : Blk W w.heap.size 28 #[.slice a.A a.xs.length a.cap, .slice b.A b.xs.length b.cap]) (hg : Grow w W) => zright_two a b w.heap.size W _ h1 (Ha.out.grow hg) (Hb.out.grow hg)
  rw [hE] at cr
  have HE := Lib.hid hE
  clear hE
  go_upto_region 2 with (go_at_call 52; ((with_reducible refine (cr _ (Blk.new _ _ _) (by repeat (first | (with_reducible exact Grow.refl _) | (with_reducible assumption) | (with_reducible refine Grow.set ?_ (by first | (simp; done) | (simp; omega)) _) | (with_reducible refine Grow.al ?_ _) | (with_reducible refine Grow.drew ?_) | (with_reducible refine Grow.drewN ?_ _) | (with_reducible refine Grow.trans ?_ (by assumption))))).mono ?_); rintro e w2 ⟨rfl, hg2⟩))
  have G2 := ((Grow.refl w).al _).trans hg2
  clear cr
  by_cases h0 : E = 0
  · have d0 : (E != 0) = false := by simpa using h0
    obtain ⟨ra, rb⟩ := right_two (HE.out.trans h0)
    obtain ⟨a1, a2, a3, a4⟩ := S.facts ra
    obtain ⟨b1, b2, b3, b4⟩ := S.facts rb
    have cc := fun W (h1 : Blk W w2.heap.size 28 #[.slice a.A a.xs.length a.cap, .slice b.A b.xs.length b.cap]) (hg : Grow w W) => concat_two a b w2.heap.size W _ h1 (Ha.out.grow hg) (Hb.out.grow hg) (by omega)
    have fin : bothZ a.z b.z 1 = sumZ (a.z ++ b.z) := by rw [both_eq, HE.out, if_neg (by simpa using h0), scale_one]
    have Fin := Lib.hid fin
    have cs := fun B cap W hz => sum_two a b B cap W hz ra rb
    clear fin ra rb a1 a2 a3 a4 b1 b2 b3 b4
    go_wp2_with (first
      | (go_at_call 53; ((with_reducible refine (cc _ (Blk.new _ _ _) (G2.al _)).mono ?_); rintro e w3 ⟨B, cap, rfl, hz3, hk3, hg3⟩; have Hz3 := Lib.hid hz3; clear hz3 hk3))
      | (go_at_call 30; ((with_reducible refine (cs _ _ _ Hz3.out).mono ?_); rintro e w4 ⟨C, zs, cap2, rfl, hz4, hm4, hk4, hg4⟩; have Out := Lib.hid (And.intro hz4 (And.intro hm4 hk4)); clear hz4 hm4 hk4)))
    refine bodyPost_ret (by simp [results, Try.results28, go_sem] <;> rfl) rfl ?_
    exact ⟨C, zs, cap2, by rw [Fin.out], Out.out.1, by rw [Fin.out]; exact Out.out.2.1, Out.out.2.2, ((G2.al _).trans hg3).trans hg4⟩
  · have d0 : (E != 0) = true := by simpa using h0
    go_wp2
    refine bodyPost_ret (by simp [results, Try.results28, go_sem] <;> rfl) rfl ?_
    have e : bothZ a.z b.z 1 = ([], E) := by rw [both_eq, HE.out, if_pos h0]
    exact ⟨none, [], 0, by rw [e]; rfl, zin_nil _ _, by rw [e]; rfl, SlOk.nil, G2⟩

theorem DV.kept {w w' : World} {base n g : Nat} {v : Value} {xs : List Value} {r : List V} (h : DV w g r) (hown : w.ownsRow base 47 2 v n xs) (hg : w.grownBy w' v.ownBlock) : DV w' g r := by
  have h1 := hg.block g h.lt (fun e => by
    rcases hown.2 with ⟨rfl, _⟩ | ⟨g', cap, cur, rfl, _, hgb, _⟩
    · simp [Value.ownBlock] at e
    · simp [Value.ownBlock] at e
      subst e
      have h2 : w.heap[g]? = some (.cells (flatW r).toArray 24 (0, 0)) := h
      rw [hgb] at h2
      simp at h2)
  exact h1.trans h
theorem eachL_snoc (f : Int → Int) {xs : List I} {k : Nat} {x : I} (h : xs[k]? = some x) : eachL f ((xs.take (k + 1)).map zOf) = eachL f ((xs.take k).map zOf) ++ (if f x.w ≠ 0 then [(bareR x.row, f x.w)] else []) := by
  obtain ⟨h1, e1⟩ := List.getElem?_eq_some_iff.1 h
  rw [List.take_succ_eq_append_getElem h1, e1]
  unfold eachL
  simp only [List.map_append, List.filter_append, List.map_cons, List.map_nil, zOf]
  by_cases hf : f x.w = 0
  · simp [hf]
  · simp [hf]
end Go.Proofs.Ytpdimihojeonhaa

/-
  zsets.Weight: binary search.
-/
namespace Go.Proofs.Ytpdimihojeonhaa
open Go.RowKit Go.Calm
set_option linter.unusedSimpArgs false
set_option linter.unusedVariables false

theorem wt_miss {r : List V} (hr : ∀ v ∈ r, RV v) : ∀ {z : List Z}, (∀ y ∈ z, ∀ v ∈ y.1, RV v) → (∀ y ∈ z, ordR y.1 r ≠ 0) → wtZ z r = 0
  | [], _, _ => rfl
  | y :: z, hz, h => by
    rw [wtZ_cons, wt_miss hr (fun u hu => hz u (by simp [hu])) (fun u hu => h u (by simp [hu])), if_neg]
    · rfl
    · intro e
      exact h y (by simp) ((ordR_zero y.1 r (hz y (by simp)) hr).2 e)
theorem wt_hit {r : List V} (hr : ∀ v ∈ r, RV v) : ∀ {z : List Z} {x : Z}, (∀ y ∈ z, ∀ v ∈ y.1, RV v) → z.Pairwise (fun x y => ordR x.1 y.1 < 0) → x ∈ z → ordR x.1 r = 0 → wtZ z r = x.2
  | y :: z, x, hz, hu, hx, h => by
    have e := (ordR_zero x.1 r (hz x hx) hr).1 h
    rcases List.mem_cons.1 hx with rfl | hx
    · rw [wtZ_cons, if_pos e, wt_none (hz x (by simp)) (fun u hu => hz u (by simp [hu])) (List.pairwise_cons.1 hu).1 e]
      simp
    · rw [wtZ_cons, wt_hit hr (fun u hu => hz u (by simp [hu])) (List.pairwise_cons.1 hu).2 hx h, if_neg]
      · simp
      · intro e2
        have h1 := (List.pairwise_cons.1 hu).1 x hx
        have h2 := (ordR_zero y.1 x.1 (hz y (by simp)) (hz x (by simp [hx]))).2 (e2.trans e.symm)
        omega
abbrev wcmpF : Value := .func (.func 44) #[] #[]
set_option maxRecDepth 100000 in
theorem wcmp_fn (x : I) (r : List V) (Ar : Option Addr) (cr : Nat) (w : World) (hx : VSl w x.A x.row) (lx : x.row.length ≤ 9223372036854775807) (rx : ∀ v ∈ x.row, RV v) (hr : VSl w Ar r) (lr : r.length ≤ 9223372036854775807) (rr : ∀ v ∈ r, RV v) :
    Calls Try.prog 44 #[.agg #[.slice x.A x.row.length x.cap, .int .i64 x.w], .slice Ar r.length cr] w fun e w' => e = .returned (.int .i64 (ordR x.row r)) ∧ Grow w w' := by
  have c := fun W (h : Grow w W) => vrows_any x.row r x.A Ar x.cap cr W lx lr (hx.grow h) (hr.grow h)
  have e : rowsG cmpV x.row r = ordR x.row r := rows_cmp_ord _ _ rx rr
  rw [e] at c
  clear hx hr rx rr e
  go_enter Try.func44, Try.ntmps44
  go_wp2_with (go_at_call 42; ((with_reducible refine (c _ (by repeat (first | (with_reducible exact Grow.refl _) | (with_reducible assumption) | (with_reducible refine Grow.set ?_ (by first | (simp; done) | (simp; omega)) _) | (with_reducible refine Grow.al ?_ _) | (with_reducible refine Grow.drew ?_) | (with_reducible refine Grow.drewN ?_ _) | (with_reducible refine Grow.trans ?_ (by assumption))))).mono ?_); rintro e w' ⟨rfl, hg'⟩))
  go_ret
  exact ret_int rfl (by repeat (first | (with_reducible exact Grow.refl _) | (with_reducible assumption) | (with_reducible refine Grow.set ?_ (by first | (simp; done) | (simp; omega)) _) | (with_reducible refine Grow.al ?_ _) | (with_reducible refine Grow.drew ?_) | (with_reducible refine Grow.drewN ?_ _) | (with_reducible refine Grow.trans ?_ (by assumption))))
set_option maxRecDepth 100000 in
set_option maxHeartbeats 8000000 in
theorem bsearch_any (xs : List I) (A : Option Addr) (c : Nat) (r : List V) (Ar : Option Addr) (cr : Nat) (w : World) (hlen : xs.length ≤ 400) (hz : ZIn w A xs) (hl : ∀ x ∈ xs, x.row.length ≤ 8) (hrv : ∀ x ∈ xs, ∀ v ∈ x.row, RV v) (hup : ∀ (i j : Nat) (x y : I), xs[i]? = some x → xs[j]? = some y → i < j → ordR x.row y.row < 0) (hr : VSl w Ar r) (lr : r.length ≤ 1000) (rr : ∀ v ∈ r, RV v) :
    Calls Try.prog 43 #[.slice A xs.length c, .slice Ar r.length cr, wcmpF] w fun en w' => (∃ (k : Nat) (b : Bool), en = .returned (.tuple #[.int .i64 k, .bool b]) ∧ (b = true → ∃ x, xs[k]? = some x ∧ ordR x.row r = 0) ∧ (b = false → ∀ x ∈ xs, ordR x.row r ≠ 0)) ∧ Grow w w' := by
  have Hz := Lib.hid hz
  have Hl := Lib.hid hl
  have Hrv := Lib.hid hrv
  have Hup := Lib.hid hup
  have Hr := Lib.hid hr
  have Rr := Lib.hid rr
  clear hz hl hrv hup hr rr
  go_enter Try.func43, Try.ntmps43
  go_wp2
  go_loopw [9, 10] (fun si sj wr => ∃ (i j : Nat), si = .int .i64 (i : Int) ∧ sj = .int .i64 (j : Int) ∧ i ≤ j ∧ j ≤ xs.length ∧ (∀ t x, xs[t]? = some x → t < i → ordR x.row r < 0) ∧ (∀ t x, xs[t]? = some x → j ≤ t → 0 ≤ ordR x.row r) ∧ Grow w wr) (fun si sj _ => (intOf sj).toNat - (intOf si).toNat)
  case atStart => exact ⟨0, xs.length, rfl, rfl, Nat.zero_le _, Nat.le_refl _, fun t x h1 h2 => by omega, fun t x h1 h2 => by have := (List.getElem?_eq_some_iff.1 h1).1; omega, Grow.refl _⟩
  case round =>
    obtain ⟨i, j, rfl, rfl, hij, hjb, hlo, hhi, hg⟩ := hrel
    have Lo := Lib.hid hlo
    have Hi := Lib.hid hhi
    clear hlo hhi
    by_cases hlt : i < j
    · have dl : decide ((i : Int) < (j : Int)) = true := by simp; omega
      obtain ⟨h, eh⟩ : ∃ h : Nat, h = (i + j) / 2 := ⟨_, rfl⟩
      have eh2 : ((i : Int) + (j : Int)) / 2 = (h : Int) := by omega
      have h1 : i ≤ h := by omega
      have h2 : h < j := by omega
      have hbig : (i : Int) + j ≤ 200000 := by omega
      have hhN : h < xs.length := by omega
      obtain ⟨x, hxk⟩ : ∃ x, xs[h]? = some x := ⟨_, List.getElem?_eq_getElem hhN⟩
      obtain ⟨gx, ox, rfl, c1, c2, hxv⟩ := (Hz.out.grow hg) h x hxk
      have hmem := List.mem_of_getElem? hxk
      have cc := fun W (h : Grow wr W) => wcmp_fn x r Ar cr W (hxv.grow h) (by have := Hl.out x hmem; omega) (Hrv.out x hmem) (Hr.out.grow (hg.trans h)) (by omega) Rr.out
      obtain ⟨d, hd⟩ : ∃ d, ordR x.row r = d := ⟨_, rfl⟩
      rw [hd] at cc
      have Hd := Lib.hid hd
      have Hxk := Lib.hid hxk
      have Eh := Lib.hid eh
      have b0 : (0 : Int) ≤ (h : Int) := by omega
      have b1 : (h : Int) < (xs.length : Int) := by omega
      clear hd hxk hmem hxv eh
      by_cases hc : d < 0
      · have dc : decide (d < 0) = true := by simpa using hc
        have hnew : ∀ t y, xs[t]? = some y → t < h + 1 → ordR y.row r < 0 := fun t y ht hlt' => by
          by_cases e : t = h
          · subst e
            have := ht.symm.trans Hxk.out
            cases this
            rw [Hd.out]; exact hc
          · exact ordR_lt (Hup.out t h y x ht Hxk.out (by omega)) (by rw [Hd.out]; exact hc)
        have Hnew := Lib.hid hnew
        clear hnew
        go_wp2_with (go_at_call 44; ((with_reducible refine (cc _ (Grow.refl _)).mono ?_); rintro e w3 ⟨rfl, hg3⟩))
        go_roundw
        case rel => exact ⟨h + 1, j, by go_num, rfl, by omega, hjb, Hnew.out, Hi.out, hg.trans hg3⟩
        case measure => simp [intOf]; omega
      · have dc : decide (d < 0) = false := by simpa using hc
        have hnew : ∀ t y, xs[t]? = some y → h ≤ t → 0 ≤ ordR y.row r := fun t y ht hlt' => by
          by_cases e : t = h
          · subst e
            have := ht.symm.trans Hxk.out
            cases this
            rw [Hd.out]; omega
          · have h3 := Hup.out h t x y Hxk.out ht (by omega)
            have h4 := ordR_swap x.row r
            have h5 := ordR_trans (a := r) (b := x.row) (c := y.row) (by rw [h4, Hd.out]; omega) (by omega)
            have h6 := ordR_swap y.row r
            omega
        have Hnew := Lib.hid hnew
        clear hnew
        go_wp2_with (go_at_call 44; ((with_reducible refine (cc _ (Grow.refl _)).mono ?_); rintro e w3 ⟨rfl, hg3⟩))
        go_roundw
        case rel => exact ⟨i, h, rfl, by go_num, by omega, by omega, Lo.out, Hnew.out, hg.trans hg3⟩
        case measure => simp [intOf]; omega
    · obtain rfl : i = j := by omega
      have dl : decide ((i : Int) < (i : Int)) = false := by simp
      by_cases hn : i < xs.length
      · have dn : decide ((i : Int) < (xs.length : Int)) = true := by simp; omega
        obtain ⟨x, hxk⟩ : ∃ x, xs[i]? = some x := ⟨_, List.getElem?_eq_getElem hn⟩
        obtain ⟨gx, ox, rfl, c1, c2, hxv⟩ := (Hz.out.grow hg) i x hxk
        have hmem := List.mem_of_getElem? hxk
        have cc := fun W (h : Grow wr W) => wcmp_fn x r Ar cr W (hxv.grow h) (by have := Hl.out x hmem; omega) (Hrv.out x hmem) (Hr.out.grow (hg.trans h)) (by omega) Rr.out
        obtain ⟨d, hd⟩ : ∃ d, ordR x.row r = d := ⟨_, rfl⟩
        rw [hd] at cc
        have Hd := Lib.hid hd
        have Hxk := Lib.hid hxk
        have b0 : (0 : Int) ≤ (i : Int) := by omega
        have b1 : (i : Int) < (xs.length : Int) := by omega
        clear hd hxk hmem hxv
        have hres : ((d == 0) = true → ∃ x, xs[i]? = some x ∧ ordR x.row r = 0) ∧ ((d == 0) = false → ∀ x ∈ xs, ordR x.row r ≠ 0) := by
          refine ⟨fun e => ⟨x, Hxk.out, by rw [Hd.out]; simpa using e⟩, fun e y hy => ?_⟩
          have hd0 : d ≠ 0 := by simpa using e
          obtain ⟨t, ht, ey⟩ := List.mem_iff_getElem.1 hy
          have hty : xs[t]? = some y := by rw [← ey]; exact List.getElem?_eq_getElem ht
          have hi0 := Hi.out i x Hxk.out (Nat.le_refl _)
          rw [Hd.out] at hi0
          rcases Nat.lt_trichotomy t i with h | h | h
          · have := Lo.out t y hty h; omega
          · subst h
            have := hty.symm.trans Hxk.out
            cases this
            rw [Hd.out]; exact hd0
          · have h3 := Hup.out i t x y Hxk.out hty h
            have h4 := ordR_swap x.row r
            have h5 := ordR_lt (a := r) (b := x.row) (c := y.row) (by rw [h4, Hd.out]; omega) h3
            have h6 := ordR_swap y.row r
            omega
        have Res := Lib.hid hres
        clear hres
        obtain ⟨b, hb⟩ : ∃ b, (d == 0) = b := ⟨_, rfl⟩
        rw [hb] at Res
        go_wp2_with (go_at_call 44; ((with_reducible refine (cc _ (Grow.refl _)).mono ?_); rintro e w3 ⟨rfl, hg3⟩))
        refine bodyPost_ret (by simp [results, Try.results43, go_sem] <;> rfl) rfl ?_
        exact ⟨⟨i, b, rfl, Res.out.1, Res.out.2⟩, hg.trans hg3⟩
      · obtain rfl : i = xs.length := by omega
        have hres : ∀ x ∈ xs, ordR x.row r ≠ 0 := fun y hy => by
          obtain ⟨t, ht, ey⟩ := List.mem_iff_getElem.1 hy
          have := Lo.out t y (by rw [← ey]; exact List.getElem?_eq_getElem ht) ht
          omega
        have Res := Lib.hid hres
        clear hres
        go_wp2
        refine bodyPost_ret (by simp [results, Try.results43, go_sem] <;> rfl) rfl ?_
        exact ⟨⟨xs.length, false, rfl, (fun e => by cases e), (fun _ => Res.out)⟩, hg⟩
set_option maxRecDepth 100000 in
set_option maxHeartbeats 4000000 in
theorem zweight_any (xs : List I) (A : Option Addr) (c : Nat) (r : List V) (Ar : Option Addr) (cr : Nat) (w : World) (hz : ZIn w A xs) (hw : wrongZ (xs.map zOf) = 0) (hr : VSl w Ar r) (hre : rowE r = 0) :
    Calls Try.prog 19 #[.slice A xs.length c, .slice Ar r.length cr] w fun en w' => en = .returned (.int .i64 (wtZ (xs.map zOf) r)) ∧ Grow w w' := by
  obtain ⟨a1, a2, a3, a4⟩ := S.facts (s := ⟨A, xs, c⟩) hw
  have a1 : xs.length ≤ 400 := a1
  have hup0 := ((wrongZ_zero _).1 hw).up
  have hrv0 : ∀ y ∈ xs.map zOf, ∀ v ∈ y.1, RV v := fun y hy => (((wrongZ_zero _).1 hw).row y hy).2
  have hup : ∀ (i j : Nat) (x y : I), xs[i]? = some x → xs[j]? = some y → i < j → ordR x.row y.row < 0 := fun i j x y hx hy hij => by
    have h1 := List.pairwise_iff_getElem.1 hup0 i j (by simpa using (List.getElem?_eq_some_iff.1 hx).1) (by simpa using (List.getElem?_eq_some_iff.1 hy).1) hij
    simp only [List.getElem_map, (List.getElem?_eq_some_iff.1 hx).2, (List.getElem?_eq_some_iff.1 hy).2] at h1
    exact h1
  obtain ⟨l8, rr⟩ := (rowE_zero r).1 hre
  have cs := bsearch_any xs A c r Ar cr w a1 hz a2 a3 hup hr (by omega) rr
  obtain ⟨R, hR⟩ : ∃ R, wtZ (xs.map zOf) r = R := ⟨_, rfl⟩
  have hit : ∀ (k : Nat) (x : I), xs[k]? = some x → ordR x.row r = 0 → x.w = R := fun k x hx h => by
    rw [← hR]; exact (wt_hit (x := zOf x) rr hrv0 hup0 (List.mem_map_of_mem (List.mem_of_getElem? hx)) h).symm
  have miss : (∀ x ∈ xs, ordR x.row r ≠ 0) → R = 0 := fun h => by
    rw [← hR]; exact wt_miss rr hrv0 (fun y hy => by obtain ⟨x, hx, rfl⟩ := List.mem_map.1 hy; exact h x hx)
  rw [hR]
  have Hit := Lib.hid hit
  have Miss := Lib.hid miss
  have Hz := Lib.hid hz
  clear hz hw hr hre a2 a3 a4 hup0 hrv0 hup rr hR hit miss
  go_enter Try.func19, Try.ntmps19
  go_upto_region 2 with (go_at_call 43; ((with_reducible refine cs.mono ?_); rintro en w2 ⟨⟨k, b, rfl, h1, h2⟩, hg2⟩; have H1 := Lib.hid h1; have H2 := Lib.hid h2; clear h1 h2))
  cases b with
  | true =>
    obtain ⟨x, hxk, h0⟩ := H1.out rfl
    have e := Hit.out k x hxk h0
    obtain ⟨gx, ox, rfl, c1, c2, _⟩ := (Hz.out.grow hg2) k x hxk
    have hlt := (List.getElem?_eq_some_iff.1 hxk).1
    have b0 : (0 : Int) ≤ (k : Int) := by omega
    have b1 : (k : Int) < (xs.length : Int) := by omega
    have E := Lib.hid e
    clear hxk h0 e
    go_wp2
    go_ret
    exact ret_int E.out hg2
  | false =>
    have e := Lib.hid (Miss.out (H2.out rfl))
    go_wp2
    go_ret
    exact ret_int e.out.symm hg2
end Go.Proofs.Ytpdimihojeonhaa
