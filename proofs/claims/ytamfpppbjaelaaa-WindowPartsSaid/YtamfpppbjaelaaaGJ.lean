/-
  Joined texts of this claim: Zs7, Zs11, Zs12, Zs13, Zs14, Zs16, Zs15, Zs20. What each proves its own head says; no condition beside those that each theorem names.
-/
import Derived.Test.YtamfpppbjaelaaaGH
import Derived.Deep.DeepCutAuto
import Derived.Laws.AppendOwnNone
import Derived.Test.YtamfpppbjaelaaaGI
import Derived.Lib.AppendZeros
set_option maxRecDepth 100000
set_option maxHeartbeats 4000000
namespace Go.Proofs.Ytamfpppbjaelaaa
open Go.RowKit Go.Calm
set_option linter.unusedSimpArgs false
set_option linter.unusedVariables false
theorem flatW_append : ∀ xs ys : List V, flatW (xs ++ ys) = flatW xs ++ flatW ys
  | [], ys => rfl
  | x :: xs, ys => by simp [flatW, flatW_append xs ys]
theorem flatW_one : ∀ xs : List V, ∀ u ∈ flatW xs, u.oneCell' = true
  | [], u, hu => by simp [flatW] at hu
  | x :: xs, u, hu => by
    simp only [flatW, List.mem_cons] at hu
    rcases hu with rfl | rfl | rfl | hu
    · rfl
    · rfl
    · rfl
    · exact flatW_one xs u hu
theorem flatI_one : ∀ xs : List I, ∀ u ∈ flatI xs, u.oneCell' = true
  | [], u, hu => by simp [flatI] at hu
  | x :: xs, u, hu => by
    simp only [flatI, List.mem_cons] at hu
    rcases hu with rfl | rfl | hu
    · rfl
    · rfl
    · exact flatI_one xs u hu
theorem own_vsl {w : World} {base : Nat} {v : Value} {ys : List V} (h : w.ownsRow base 30 3 v ys.length (flatW ys)) : ∃ (B : Option Addr) (cap : Nat), v = .slice B ys.length cap ∧ VSl w B ys := by
  obtain ⟨_, h⟩ := h
  rcases h with ⟨rfl, h0⟩ | ⟨gb, cap, cur, rfl, hB, hgb, hle, hmx, hcs, htk⟩
  · have : ys = [] := List.length_eq_zero_iff.1 h0
    subst this
    exact ⟨none, 0, rfl, fun i x hx => by simp at hx⟩
  · have hb : Blk w gb 30 cur := hgb
    have key : ∀ i v, (flatW ys)[i]? = some v → w.cell? ⟨gb, i, none⟩ = some v := fun i v hv => by
      rw [← htk, List.getElem?_take] at hv
      split at hv
      · rw [hb.cell]; simpa using hv
      · cases hv
    refine ⟨some ⟨gb, 0, none⟩, cap, rfl, fun i x hx => ⟨gb, 0, rfl, ?_⟩⟩
    obtain ⟨a, b, c⟩ := flatW_get ys i x hx
    exact ⟨by rw [Nat.zero_add]; exact key _ _ a, by rw [Nat.zero_add]; exact key _ _ b, by rw [Nat.zero_add]; exact key _ _ c⟩
theorem own_zin {w : World} {base : Nat} {v : Value} {ys : List I} (h : w.ownsRow base 39 2 v ys.length (flatI ys)) (hv : ∀ y ∈ ys, VSl w y.A y.row) : ∃ (B : Option Addr) (cap : Nat), v = .slice B ys.length cap ∧ ZIn w B ys := by
  obtain ⟨_, h⟩ := h
  rcases h with ⟨rfl, h0⟩ | ⟨gb, cap, cur, rfl, hB, hgb, hle, hmx, hcs, htk⟩
  · have : ys = [] := List.length_eq_zero_iff.1 h0
    subst this
    exact ⟨none, 0, rfl, fun i x hx => by simp at hx⟩
  · have hb : Blk w gb 39 cur := hgb
    have key : ∀ i v, (flatI ys)[i]? = some v → w.cell? ⟨gb, i, none⟩ = some v := fun i v hv => by
      rw [← htk, List.getElem?_take] at hv
      split at hv
      · rw [hb.cell]; simpa using hv
      · cases hv
    refine ⟨some ⟨gb, 0, none⟩, cap, rfl, fun i x hx => ⟨gb, 0, rfl, ?_, ?_, hv x (List.mem_of_getElem? hx)⟩⟩
    · rw [Nat.zero_add]; exact key _ _ (flatI_get ys i x hx).1
    · rw [Nat.zero_add]; exact key _ _ (flatI_get ys i x hx).2
theorem own_types {w : World} {b1 b2 n1 n2 s1 s2 : Nat} {e1 e2 : TypeId} {v1 v2 : Value} {x1 x2 : List Value} (h1 : w.ownsRow b1 e1 s1 v1 n1 x1) (h2 : w.ownsRow b2 e2 s2 v2 n2 x2) (hne : e1 ≠ e2) : v1.ownBlock = none ∨ v1.ownBlock ≠ v2.ownBlock := by
  rcases h1.2 with ⟨rfl, _⟩ | ⟨g, cap, cur, rfl, hB, hgb, _⟩
  · exact .inl rfl
  · right
    rcases h2.2 with ⟨rfl, _⟩ | ⟨g', cap', cur', rfl, hB', hgb', _⟩
    · simp [Value.ownBlock]
    · intro e
      simp [Value.ownBlock] at e
      subst e
      rw [hgb] at hgb'
      simp at hgb'
      exact hne hgb'.2
theorem info_val2' : ∃ ti, Try.prog.info? 30 = some ti ∧ ti.zero = some (.agg #[.int .i64 0, .int .i64 0, .string ⟨#[]⟩]) ∧ ti.size = 3 ∧ ti.bytes = 32 := by
  have h := info_val2
  cases hi : Try.prog.info? 30 with
  | none => rw [hi] at h; simp at h
  | some i => rw [hi] at h; simp at h; exact ⟨i, rfl, h⟩
theorem addr_add (g o j : Nat) : (⟨g, o, none⟩ : Addr).add j = ⟨g, o + j, none⟩ := by
  unfold Addr.add
  split
  · rename_i h0; subst h0; rfl
  · rfl
def Src (w : World) (src : Value) (L : List I) : Prop := (src = .slice none 0 0 ∧ L = []) ∨ ∃ ad c, src = .slice (some ad) L.length c ∧ ∀ j u, (flatI L)[j]? = some u → w.cell? (ad.add j) = some u
theorem Src.grow {w w' : World} {src : Value} {L : List I} (h : Src w src L) (hg : Grow w w') : Src w' src L := by
  rcases h with h | ⟨ad, c, e, h⟩
  · exact .inl h
  · exact .inr ⟨ad, c, e, fun j u hj => hg.cell (h j u hj)⟩
theorem wpList_append_src {w : World} {ops : Array Oper} {rest : List Oper} {o : Oper} {a : Act} {Q : Exit → Act → World → Prop} (hgd : o.guard = none) (s x : Operand)
    (ho : o.op = .call { callee := .builtin .append, args := #[s, x], argTypes := #[24, 24] })
    (base : Nat) (v : Value) (n : Nat) (xs : List I) (hs : a.eval s = v) (hown : w.ownsRow base 39 2 v n (flatI xs)) (src : Value) (L : List I) (hx : a.eval x = src) (hsrc : Src w src L) (hB : n + L.length ≤ 1000000) (hbase : base ≤ w.heap.size)
    (h : ∀ v' w', w'.ownsRow base 39 2 v' (n + L.length) (flatI (xs ++ L)) → w.grownBy w' v.ownBlock → wpList Try.prog ops Q rest (a.put o.dst v') w') : wpList Try.prog ops Q (o :: rest) a w := by
  obtain ⟨ti, hti, hz0, hz1, hz2⟩ := info_zrow'
  rcases hsrc with ⟨rfl, rfl⟩ | ⟨ad, c, rfl, hc⟩
  · refine wpList_append_own_none hgd s x _ ho base 39 ti 2 Try.underlying24 hti v n (flatI xs) hs hown hx ?_
    exact h v w (by simpa using hown) ⟨rfl, rfl, rfl, Nat.le_refl _, fun _ _ _ => rfl⟩
  · refine wpList_append_own _ hgd s x _ ho base 39 ti (.agg #[.slice none 0 0, .int .i64 0]) 2 32 Try.underlying24 hti hz0 hz1 hz2 rfl (by decide) v n (flatI xs) hs hown ad L.length c (flatI L) hx (by rw [flatI_len]) hc (flatI_one _) (by unfold maxLen; omega) (by omega) hbase ?_
    intro v' w' h1 h2 _
    exact h v' w' (by rw [flatI_append]; exact h1) h2
theorem own_zin' {w : World} {base : Nat} {v : Value} {ys : List I} (h : w.ownsRow base 39 2 v ys.length (flatI ys)) (hv : ∀ y ∈ ys, VSl w y.A y.row) : ∃ (B : Option Addr) (cap : Nat), v = .slice B ys.length cap ∧ ZIn w B ys ∧ SlOk B ys.length cap := by
  obtain ⟨B, cap, rfl, hz⟩ := own_zin h hv
  refine ⟨B, cap, rfl, hz, ?_⟩
  obtain ⟨_, h⟩ := h
  rcases h with ⟨e, h0⟩ | ⟨gb, cap', cur, e, hB, hgb, hle, hmx, hcs, htk⟩
  · simp at e
    exact ⟨by omega, fun _ => e.2.2⟩
  · simp at e
    obtain ⟨rfl, rfl⟩ := e
    exact ⟨hle, fun h => by cases h⟩
theorem grow_own {w wr w' : World} {v : Value} (hg : Grow w wr) (h : wr.grownBy w' v.ownBlock) {e : TypeId} {s n : Nat} {xs : List Value} (hown : wr.ownsRow w.heap.size e s v n xs) : Grow w w' := by
  refine Grow.own hg h (fun i hi => ?_)
  rcases hown.2 with ⟨rfl, _⟩ | ⟨g, cap, cur, rfl, hB, _⟩
  · cases hi
  · simp [Value.ownBlock] at hi; omega
theorem ZIn.vsl {w : World} {A : Option Addr} {xs : List I} (h : ZIn w A xs) : ∀ x ∈ xs, VSl w x.A x.row := fun x hx => by
  obtain ⟨i, hi, e⟩ := List.mem_iff_getElem.1 hx
  obtain ⟨_, _, _, _, _, hv⟩ := h i x (by rw [← e]; exact List.getElem?_eq_getElem hi)
  exact hv
theorem src_one {w : World} {g : Nat} {t : TypeId} {y : I} {m : Nat} (hm : y.row.length = m) (hb : Blk w g t #[.slice y.A m y.cap, .int .i64 y.w]) : Src w (.slice (some ⟨g, 0, none⟩) 1 1) [y] := by
  refine .inr ⟨⟨g, 0, none⟩, 1, rfl, fun j u hj => ?_⟩
  rw [addr_add, hb.cell]
  match j, hj with
  | 0, hj => simp [flatI] at hj; subst hj; rw [hm]; rfl
  | 1, hj => simp [flatI] at hj; subst hj; rfl
theorem own_zin2 {w : World} {base : Nat} {v : Value} {n : Nat} {ys : List I} (h : w.ownsRow base 39 2 v n (flatI ys)) (hv : ∀ y ∈ ys, VSl w y.A y.row) : ∃ (B : Option Addr) (cap : Nat), v = .slice B ys.length cap ∧ ZIn w B ys ∧ SlOk B ys.length cap := by
  have h1 := h.1
  rw [flatI_len] at h1
  obtain rfl : n = ys.length := by omega
  exact own_zin' h hv
theorem bareR_len (r : List V) : (bareR r).length = r.length := by simp [bareR]
def GivesS (w w' : World) (e : Ending) (r : List Z) : Prop := ∃ (B : Option Addr) (ys : List I) (cap : Nat), e = .returned (.slice B ys.length cap) ∧ ZIn w' B ys ∧ ys.map zOf = r ∧ SlOk B ys.length cap ∧ Grow w w'
structure S where
  A : Option Addr
  xs : List I
  cap : Nat
instance : Inhabited S := ⟨⟨none, [], 0⟩⟩
def S.z (s : S) : List Z := s.xs.map zOf
def SIn (w : World) (A : Option Addr) (ss : List S) : Prop := ∀ i s, ss[i]? = some s → ∃ g o, A = some ⟨g, o, none⟩ ∧ w.cell? ⟨g, o + i, none⟩ = some (.slice s.A s.xs.length s.cap) ∧ ZIn w s.A s.xs
theorem SIn.grow {w w' : World} {A : Option Addr} {ss : List S} (h : SIn w A ss) (hg : Grow w w') : SIn w' A ss := fun i s hs => by
  obtain ⟨g, o, hA, a, b⟩ := h i s hs
  exact ⟨g, o, hA, hg.cell a, b.grow hg⟩
def rightZ : List (List Z) → Int
  | [] => 0
  | z :: l => if wrongZ z ≠ 0 then wrongZ z else rightZ l
theorem rightZ_at {ss : List S} {k : Nat} {s : S} (h : ss[k]? = some s) : rightZ ((ss.drop k).map S.z) = if wrongZ s.z ≠ 0 then wrongZ s.z else rightZ ((ss.drop (k + 1)).map S.z) := by
  obtain ⟨h1, e1⟩ := List.getElem?_eq_some_iff.1 h
  rw [List.drop_eq_getElem_cons h1, e1]; rfl
def S.ok (s : S) : Prop := s.xs.length ≤ 9223372036854775807 ∧ ∀ x ∈ s.xs, x.row.length ≤ 9223372036854775807

theorem zright_any (ss : List S) (A : Option Addr) (c : Nat) (w : World) (hlen : ss.length ≤ 9223372036854775807) (hs : SIn w A ss) (hl : ∀ s ∈ ss, s.ok) (R : Int) (hR : rightZ (ss.map S.z) = R) :
    Calls Try.prog 60 #[.slice A ss.length c] w fun en w' => en = .returned (.int .i64 R) ∧ Grow w w' := by
  have HR := Lib.hid hR
  have Hs := Lib.hid hs
  have Hl := Lib.hid hl
  clear hs hR hl
  go_enter Try.func60, Try.ntmps60
  go_wp2
  go_loopw [8] (fun i wr => ∃ k : Nat, k ≤ ss.length ∧ i = .int .i64 k ∧ rightZ ((ss.drop k).map S.z) = R ∧ Grow w wr) (fun i _ => ss.length - (intOf i).toNat)
  case atStart => exact ⟨0, Nat.zero_le _, rfl, by simpa using HR.out, Grow.refl _⟩
  case round =>
    obtain ⟨k, hk, rfl, hinv, hg⟩ := hrel
    have Inv := Lib.hid hinv
    clear hinv
    by_cases hlt : k < ss.length
    · obtain ⟨s, hsk⟩ : ∃ s, ss[k]? = some s := ⟨_, List.getElem?_eq_getElem hlt⟩
      obtain ⟨g, o, rfl, c1, hz⟩ := (Hs.out.grow hg) k s hsk
      have hok := Hl.out s (List.mem_of_getElem? hsk)
      have inv2 := (rightZ_at hsk).symm.trans Inv.out
      obtain ⟨E, hE⟩ : ∃ E, wrongZ s.z = E := ⟨_, rfl⟩
      rw [hE] at inv2
      have cs := fun W (h : Grow wr W) => wrongz_any s.xs s.A s.cap W hok.1 (hz.grow h) hok.2 E hE
      have Inv2 := Lib.hid inv2
      clear inv2 hsk hz hok hE
      by_cases hw : E = 0
      · have dw : (E != 0) = false := by simpa using hw
        go_wp2_with (go_at_call 40; ((with_reducible refine (cs _ growW).mono ?_); rintro e w2 ⟨rfl, hg2⟩))
        go_roundw
        case rel => exact ⟨k + 1, by omega, by go_num, by have := Inv2.out; rw [if_neg (by simpa using hw)] at this; exact this, hg.trans hg2⟩
        case measure => simp [intOf]; omega
      · have dw : (E != 0) = true := by simpa using hw
        go_wp2_with (go_at_call 40; ((with_reducible refine (cs _ growW).mono ?_); rintro e w2 ⟨rfl, hg2⟩))
        go_ret
        exact ret_int (by have := Inv2.out; rw [if_pos hw] at this; exact this) (hg.trans hg2)
    · obtain rfl : k = ss.length := by omega
      have fin : R = 0 := by have := Inv.out; rw [List.drop_length] at this; exact this.symm
      go_wp2
      go_ret
      exact ret_int fin.symm hg

def fl (ss : List S) : List I := ss.flatMap S.xs
theorem SIn.vsl {w : World} {A : Option Addr} {ss : List S} (h : SIn w A ss) : ∀ x ∈ fl ss, VSl w x.A x.row := fun x hx => by
  obtain ⟨s, hs, hx⟩ := List.mem_flatMap.1 hx
  obtain ⟨i, hi, e⟩ := List.mem_iff_getElem.1 hs
  obtain ⟨_, _, _, _, hz⟩ := h i s (by rw [← e]; exact List.getElem?_eq_getElem hi)
  exact hz.vsl x hx
theorem addZ_bd {K : Int} : ∀ (l z : List Z) {M : Int}, 0 ≤ M → 0 ≤ K → bdZ M z → bdZ K l → bdZ (M + K * l.length) (addZ z l)
  | [], z, M, _, _, hz, _ => by simpa [addZ] using hz
  | x :: l, z, M, hM, hK, hz, hl => by
    have h1 := putZ_bd (r := x.1) (n := x.2) hz hM (hl x (by simp)).1 (hl x (by simp)).2
    have h2 := addZ_bd l (putZ z x.1 x.2) (M := M + K) (by omega) hK h1 (fun y hy => hl y (by simp [hy]))
    rw [addZ_cons]
    intro y hy
    have := h2 y hy
    rw [List.length_cons, Int.natCast_succ, Int.mul_add, Int.mul_one]
    omega
theorem setZ_bd {K : Int} {l : List Z} (hK : 0 ≤ K) (hl : bdZ K l) : bdZ (K * l.length) (setZ l) := fun y hy => by
  have := addZ_bd l [] (M := 0) (by omega) hK (fun x hx => by simp at hx) hl y hy
  omega
def Pl (l : List Z) : Prop := (∀ x ∈ l, x.1.length ≤ 1000 ∧ ∀ v ∈ x.1, RV v) ∧ bdZ 1000000 l
theorem Pl.snoc {l : List Z} {x : Z} (h : Pl l) (h1 : x.1.length ≤ 1000) (h2 : ∀ v ∈ x.1, RV v) (h3 : -1000000 ≤ x.2 ∧ x.2 ≤ 1000000) : Pl (l ++ [x]) := by
  refine ⟨fun y hy => ?_, fun y hy => ?_⟩
  · rcases List.mem_append.1 hy with hy | hy
    · exact h.1 y hy
    · simp at hy; subst hy; exact ⟨h1, h2⟩
  · rcases List.mem_append.1 hy with hy | hy
    · exact h.2 y hy
    · simp at hy; subst hy; exact h3
theorem Pl.nil : Pl [] := ⟨fun x hx => by simp at hx, fun x hx => by simp at hx⟩
structure PutSt (w wr : World) (t : Value) (l : List Z) : Prop where
  sl : ∃ (B : Option Addr) (ys : List I) (cap : Nat), t = .slice B ys.length cap ∧ ZIn wr B ys ∧ ys.map zOf = setZ l ∧ SlOk B ys.length cap
  grow : Grow w wr
  pl : Pl l
theorem PutSt.nil (w wr : World) (hg : Grow w wr) : PutSt w wr (.slice none 0 0) [] := ⟨⟨none, [], 0, rfl, zin_nil _ _, rfl, SlOk.nil⟩, hg, Pl.nil⟩
theorem sin_one {w : World} {g : Nat} {t : TypeId} {s1 : S} (hb : Blk w g t #[.slice s1.A s1.xs.length s1.cap]) (h1 : ZIn w s1.A s1.xs) : SIn w (some ⟨g, 0, none⟩) [s1] := fun i s hs => by
  match i, hs with
  | 0, hs => simp at hs; subst hs; exact ⟨g, 0, rfl, by rw [hb.cell]; rfl, h1⟩
structure In (w : World) (s : S) : Prop where
  z : ZIn w s.A s.xs
  sl : SlOk s.A s.xs.length s.cap
  ok : s.ok
theorem In.grow {w w' : World} {s : S} (h : In w s) (hg : Grow w w') : In w' s := ⟨h.z.grow hg, h.sl, h.ok⟩
def S.v (s : S) : Value := .slice s.A s.xs.length s.cap

theorem S.facts {s : S} (h : wrongZ s.z = 0) : s.xs.length ≤ 400 ∧ (∀ x ∈ s.xs, x.row.length ≤ 8) ∧ (∀ x ∈ s.xs, ∀ v ∈ x.row, RV v) ∧ ∀ x ∈ s.xs, -1000000 ≤ x.w ∧ x.w ≤ 1000000 := by
  have h := (wrongZ_zero _).1 h
  exact ⟨by simpa [S.z] using h.len, fun x hx => (h.row (zOf x) (List.mem_map_of_mem hx)).1, fun x hx => (h.row (zOf x) (List.mem_map_of_mem hx)).2, fun x hx => (h.w (zOf x) (List.mem_map_of_mem hx)).2⟩
theorem zright_one (a : S) (g : Nat) (w : World) (t : TypeId) (h : Blk w g t #[.slice a.A a.xs.length a.cap]) (ha : In w a) :
    Calls Try.prog 60 #[.slice (some ⟨g, 0, none⟩) 1 1] w fun en w' => en = .returned (.int .i64 (wrongZ a.z)) ∧ Grow w w' :=
  zright_any [a] (some ⟨g, 0, none⟩) 1 w (by simp) (sin_one h ha.z) (fun s hs => by simp at hs; rcases hs with rfl; exact ha.ok) _ (by simp only [List.map_cons, List.map_nil, rightZ]; split; rfl; simp_all)
theorem DV.kept {w w' : World} {base n g : Nat} {v : Value} {xs : List Value} {r : List V} (h : DV w g r) (hown : w.ownsRow base 39 2 v n xs) (hg : w.grownBy w' v.ownBlock) : DV w' g r := by
  have h1 := hg.block g h.lt (fun e => by
    rcases hown.2 with ⟨rfl, _⟩ | ⟨g', cap, cur, rfl, _, hgb, _⟩
    · simp [Value.ownBlock] at e
    · simp [Value.ownBlock] at e
      subst e
      have h2 : w.heap[g]? = some (.cells (flatW r).toArray 30 (0, 0)) := h
      rw [hgb] at h2
      simp at h2)
  exact h1.trans h
theorem eachL_snoc (f : Int → Int) {xs : List I} {k : Nat} {x : I} (h : xs[k]? = some x) : eachL f ((xs.take (k + 1)).map zOf) = eachL f ((xs.take k).map zOf) ++ (if f x.w ≠ 0 then [(bareR x.row, f x.w)] else []) := by
  obtain ⟨h1, e1⟩ := List.getElem?_eq_some_iff.1 h
  rw [List.take_succ_eq_append_getElem h1, e1]
  unfold eachL
  simp only [List.map_append, List.filter_append, List.map_cons, List.map_nil, zOf]
  by_cases hf : f x.w = 0
  · simp [hf]
  · simp [hf]
end Go.Proofs.Ytamfpppbjaelaaa
