/- Parts of a proof. No condition. -/
import Derived.Laws.AppendOwnNone
import Derived.Test.YthhbiemnbkfobaaGreatGI
import Derived.Lib.AppendZeros
set_option maxRecDepth 100000
set_option maxHeartbeats 8000000
set_option maxRecDepth 100000
set_option linter.unusedSimpArgs false
set_option linter.unusedVariables false
namespace Go
variable {p : Prop}
theorem os_ (h : p := by simp [results, Tryz.results132, go_sem] <;> rfl) : p := h
theorem ou_ (h : p := by simp [results, Tryz.results32, go_sem] <;> rfl) : p := h
theorem oQ_ (h : p := by rw [<- e]; exact qQ_ hi) : p := h
theorem ve_ (h : p := by rw [QP, List.length_append]; omega) : p := h
theorem vr_ (h : p := by unfold maxLen; omega) : p := h
theorem vz_ (h : p := by simpa using hown) : p := h
theorem vC_ (h : p := by rw [hz2]; omega) : p := h
theorem uz_ (h : p := by
 exact ⟨k + 1, n + s.xs.length, by omega, by go_num, Hn2.out, by rw [hfl.out]; exact Own7.out, hg7⟩) : p := h
theorem uE_ (h : p := by
 match i, hs with
 | 0, hs => simp at hs; subst hs; exact ⟨g, 0, rfl, by rw [hb.cell]; rfl, h1⟩
 | 1, hs => simp at hs; subst hs; exact ⟨g, 0, rfl, by rw [hb.cell]; rfl, h2⟩) : p := h
theorem uJ_ (h : p := by
 subst h0
 go_wp2; go_ret; exact ⟨_, rfl, World.ownsRow_nil _ _ _ _, za.refl _⟩) : p := h
theorem uL_ (h : p := by
 exact ⟨k + 1, m + s.xs.length, by omega, by go_num, by go_num, Hm2.out, hg⟩) : p := h
theorem uX_ (h : p := by
 have : ys = [] := List.length_eq_zero_iff.1 h0
 subst this; exact ⟨none, 0, rfl, fun i x hx => by simp at hx⟩) : p := h
theorem u2_ (h : p := by
 exact ⟨k + 1, by omega, by go_num, by have := Inv2.out; rw [if_neg vI_] at this; exact this, hg.trans hg2⟩) : p := h
theorem u4_ (h : p := by
 exact ⟨0, 0, Nat.zero_le _, rfl, rfl, rfl, za.refl _⟩) : p := h
theorem u7_ (h : p := by
 exact ⟨0, 0, Nat.zero_le _, rfl, rfl, Own.out, hg2⟩) : p := h
theorem u8_ (h : p := by
 rw [<- htk, List.getElem?_take] at hv; split at hv
 · rw [hb.cell]; simpa using hv
 · cases hv) : p := h
theorem wx_ (h : p := by
 unfold Addr.add; split
 · rename_i h0; subst h0; rfl
 · rfl) : p := h
end Go
namespace Go.Proofs.YthhbiemnbkfobaaGreat
open Go.RowKit Go.Calm
theorem YG : ∀ xs ys : List V, zG (xs ++ ys) = zG xs ++ zG ys
  | [], ys => rfl
  | x :: xs, ys => by simp [zG, YG xs ys]
theorem Jl : ∀ xs : List V, ∀ u ∈ zG xs, u.oneCell' = true
  | [], u, hu => by simp [zG] at hu
  | x :: xs, u, hu => by
    simp only [zG, List.mem_cons] at hu; rcases hu with rfl | rfl | rfl | hu
    · rfl
    · rfl
    · rfl
    · exact Jl xs u hu
theorem Xx : ∀ xs : List I, ∀ u ∈ zq xs, u.oneCell' = true
  | [], u, hu => by simp [zq] at hu
  | x :: xs, u, hu => by
    simp only [zq, List.mem_cons] at hu; rcases hu with rfl | rfl | hu
    · rfl
    · rfl
    · exact Xx xs u hu
theorem KL {w : World} {base : Nat} {v : Value} {ys : List V} (h : w.ownsRow base 24 3 v ys.length (zG ys)) : ∃ (B : Option Addr) (cap : Nat), v = .slice B ys.length cap /\ xd w B ys := by
  obtain ⟨_, h⟩ := h; rcases h with ⟨rfl, h0⟩ | ⟨gb, cap, cur, rfl, hB, hgb, hle, hmx, hcs, htk⟩
  · exact uX_
  · have hb : zc w gb 24 cur := hgb
    have key : ∀ i v, (zG ys)[i]? = some v -> w.cell? ⟨gb, i, none⟩ = some v := fun i v hv => u8_
    refine ⟨some ⟨gb, 0, none⟩, cap, rfl, fun i x hx => ⟨gb, 0, rfl, ?_⟩⟩; obtain ⟨a, b, c⟩ := jR ys i x hx; exact ⟨by rw [Nat.zero_add]; exact key _ _ a, by rw [Nat.zero_add]; exact key _ _ b, by rw [Nat.zero_add]; exact key _ _ c⟩
theorem Be {w : World} {base : Nat} {v : Value} {ys : List I} (h : w.ownsRow base 54 2 v ys.length (zq ys)) (hv : ∀ y ∈ ys, xd w y.A y.row) : ∃ (B : Option Addr) (cap : Nat), v = .slice B ys.length cap /\ yI w B ys := by
  obtain ⟨_, h⟩ := h; rcases h with ⟨rfl, h0⟩ | ⟨gb, cap, cur, rfl, hB, hgb, hle, hmx, hcs, htk⟩
  · exact uX_
  · have hb : zc w gb 54 cur := hgb
    have key : ∀ i v, (zq ys)[i]? = some v -> w.cell? ⟨gb, i, none⟩ = some v := fun i v hv => u8_
    refine ⟨some ⟨gb, 0, none⟩, cap, rfl, fun i x hx => ⟨gb, 0, rfl, ?_, ?_, hv x (qZ_ hx)⟩⟩
    · rw [Nat.zero_add]; exact key _ _ (xI ys i x hx).1
    · rw [Nat.zero_add]; exact key _ _ (xI ys i x hx).2
theorem Sq {w : World} {b1 b2 n1 n2 s1 s2 : Nat} {e1 e2 : TypeId} {v1 v2 : Value} {x1 x2 : List Value} (h1 : w.ownsRow b1 e1 s1 v1 n1 x1) (h2 : w.ownsRow b2 e2 s2 v2 n2 x2) (hne : e1 ≠ e2) : v1.ownBlock = none \/ v1.ownBlock ≠ v2.ownBlock := by
  rcases h1.2 with ⟨rfl, _⟩ | ⟨g, cap, cur, rfl, hB, hgb, _⟩
  · exact .inl rfl
  · right
    rcases h2.2 with ⟨rfl, _⟩ | ⟨g', cap', cur', rfl, hB', hgb', _⟩
    · simp [Value.ownBlock]
    · intro e
      simp [Value.ownBlock] at e; subst e; rw [hgb] at hgb'; simp at hgb'; exact hne hgb'.2
theorem X9 : ∃ ti, Tryz.prog.info? 24 = some ti /\ ti.zero = some (.agg #[.int .i64 0, .int .i64 0, .string ⟨#[]⟩]) /\ ti.size = 3 /\ ti.bytes = 32 := by
  have h := Ju; cases hi : Tryz.prog.info? 24 with
  | none => rw [hi] at h; simp at h
  | some i => rw [hi] at h; simp at h; exact ⟨i, rfl, h⟩
theorem U3 {w : World} {g o : Nat} {xs : List I} (h : yI w (some ⟨g, o, none⟩) xs) (k : Nat) : ∀ j u, (zq (xs.drop k))[j]? = some u -> w.cell? ((⟨g, o + k * 2, none⟩ : Addr).add j) = some u := fun j u hj => by
  have hlt : j < (zq (xs.drop k)).length := (qQ9.1 hj).1; rw [yS] at hlt; have hi : j / 2 < (xs.drop k).length := by omega
  obtain ⟨x, hx⟩ : ∃ x, (xs.drop k)[j / 2]? = some x := ⟨_, qQ_ hi⟩
  obtain ⟨a, b⟩ := xI _ _ _ hx; rw [List.getElem?_drop] at hx; obtain ⟨g', o', e, c1, c2, _⟩ := h _ _ hx; cases e
  have hA : (⟨g, o + k * 2, none⟩ : Addr).add j = ⟨g, o + k * 2 + j, none⟩ := wx_
  rw [hA]; rcases Nat.mod_two_eq_zero_or_one j with h2 | h2
  · rw [show j / 2 * 2 = j by omega] at a
    rw [a] at hj; cases hj; rw [show o + k * 2 + j = o + (k + j / 2) * 2 by omega]; exact c1
  · rw [show j / 2 * 2 + 1 = j by omega] at b
    rw [b] at hj; cases hj; rw [show o + k * 2 + j = o + (k + j / 2) * 2 + 1 by omega]; exact c2
theorem U4 {w : World} {g o : Nat} {xs : List I} (h : yI w (some ⟨g, o, none⟩) xs) (k : Nat) : ∀ j u, (zq (xs.take k))[j]? = some u -> w.cell? ((⟨g, o, none⟩ : Addr).add j) = some u := fun j u hj => by
  have := U3 h 0 j u; rw [Nat.zero_mul, Nat.add_zero, List.drop_zero] at this; refine this ?_; have e := xh (xs.take k) (xs.drop k); rw [List.take_append_drop] at e; rw [e, List.getElem?_append_left (qQ9.1 hj).1]; exact hj
theorem yw (g o j : Nat) : (⟨g, o, none⟩ : Addr).add j = ⟨g, o + j, none⟩ := wx_
def Vc (w : World) (src : Value) (L : List I) : Prop := (src = .slice none 0 0 /\ L = []) \/ ∃ ad c, src = .slice (some ad) L.length c /\ ∀ j u, (zq L)[j]? = some u -> w.cell? (ad.add j) = some u
theorem Vc.grow {w w' : World} {src : Value} {L : List I} (h : Vc w src L) (hg : za w w') : Vc w' src L := by
  rcases h with h | ⟨ad, c, e, h⟩
  · exact .inl h
  · exact .inr ⟨ad, c, e, fun j u hj => hg.cell (h j u hj)⟩
theorem zZ {w : World} {ops : Array Oper} {rest : List Oper} {o : Oper} {a : Act} {Q : Exit -> Act -> World -> Prop} (hgd : o.guard = none) (s x : Operand)
    (ho : o.op = .call { callee := .builtin .append, args := #[s, x], argTypes := #[34, 34] })
    (base : Nat) (v : Value) (n : Nat) (xs : List I) (hs : a.eval s = v) (hown : w.ownsRow base 54 2 v n (zq xs)) (src : Value) (L : List I) (hx : a.eval x = src) (hsrc : Vc w src L) (hB : n + L.length <= 1000000) (hbase : base <= w.heap.size)
    (h : ∀ v' w', w'.ownsRow base 54 2 v' (n + L.length) (zq (xs ++ L)) -> w.grownBy w' v.ownBlock -> wpList Tryz.prog ops Q rest (a.put o.dst v') w') : wpList Tryz.prog ops Q (o :: rest) a w := by
  obtain ⟨ti, hti, hz0, hz1, hz2⟩ := xX; rcases hsrc with ⟨rfl, rfl⟩ | ⟨ad, c, rfl, hc⟩
  · refine wpList_append_own_none hgd s x _ ho base 54 ti 2 Tryz.underlying34 hti v n (zq xs) hs hown hx ?_
    exact h v w vz_ ⟨rfl, rfl, rfl, Nat.le_refl _, fun _ _ _ => rfl⟩
  · refine wpList_append_own _ hgd s x _ ho base 54 ti (.agg #[.slice none 0 0, .int .i64 0]) 2 32 Tryz.underlying34 hti hz0 hz1 hz2 rfl vT_ v n (zq xs) hs hown ad L.length c (zq L) hx (by rw [yS]) hc (Xx _) vr_ vU_ hbase ?_
    intro v' w' h1 h2 _; exact h v' w' (by rw [xh]; exact h1) h2
theorem UC {w : World} {A : Option Addr} {xs : List I} {c k : Nat} (h : zN A xs.length c) (hz : yI w A xs) (hk : k <= xs.length) : Vc w (.slice A k c) (xs.take k) := by
  obtain ⟨h1, h2⟩ := h; cases A with
  | none =>
    have := h2 rfl; obtain rfl : k = 0 := by omega
    exact .inl ⟨by rw [this], by simp⟩
  | some ad =>
    refine .inr ⟨ad, c, by rw [List.length_take, Nat.min_eq_left hk], ?_⟩; cases xs with
    | nil => intro j u hj; simp [zq] at hj
    | cons x l =>
      obtain ⟨g, o, e, _⟩ := hz 0 x rfl; cases e; exact U4 hz k
theorem qN {w : World} {base : Nat} {v : Value} {ys : List I} (h : w.ownsRow base 54 2 v ys.length (zq ys)) (hv : ∀ y ∈ ys, xd w y.A y.row) : ∃ (B : Option Addr) (cap : Nat), v = .slice B ys.length cap /\ yI w B ys /\ zN B ys.length cap := by
  obtain ⟨B, cap, rfl, hz⟩ := Be h hv; refine ⟨B, cap, rfl, hz, ?_⟩; obtain ⟨_, h⟩ := h; rcases h with ⟨e, h0⟩ | ⟨gb, cap', cur, e, hB, hgb, hle, hmx, hcs, htk⟩
  · simp at e
    exact ⟨by omega, fun _ => e.2.2⟩
  · simp at e
    obtain ⟨rfl, rfl⟩ := e; exact ⟨hle, fun h => by cases h⟩
theorem yg {w wr w' : World} {v : Value} (hg : za w wr) (h : wr.grownBy w' v.ownBlock) {e : TypeId} {s n : Nat} {xs : List Value} (hown : wr.ownsRow w.heap.size e s v n xs) : za w w' := by
  refine za.own hg h (fun i hi => ?_); rcases hown.2 with ⟨rfl, _⟩ | ⟨g, cap, cur, rfl, hB, _⟩
  · cases hi
  · simp [Value.ownBlock] at hi; omega
theorem yI.vsl {w : World} {A : Option Addr} {xs : List I} (h : yI w A xs) : ∀ x ∈ xs, xd w x.A x.row := fun x hx => by
  obtain ⟨i, hi, e⟩ := List.mem_iff_getElem.1 hx; obtain ⟨_, _, _, _, _, hv⟩ := h i x oQ_; exact hv
theorem jD {w : World} {g : Nat} {t : TypeId} {y : I} {m : Nat} (hm : y.row.length = m) (hb : zc w g t #[.slice y.A m y.cap, .int .i64 y.w]) : Vc w (.slice (some ⟨g, 0, none⟩) 1 1) [y] := by
  refine .inr ⟨⟨g, 0, none⟩, 1, rfl, fun j u hj => ?_⟩; rw [yw, hb.cell]
  match j, hj with
  | 0, hj => simp [zq] at hj; subst hj; rw [hm]; rfl
  | 1, hj => simp [zq] at hj; subst hj; rfl
theorem kY {w : World} {base : Nat} {v : Value} {n : Nat} {ys : List I} (h : w.ownsRow base 54 2 v n (zq ys)) (hv : ∀ y ∈ ys, xd w y.A y.row) : ∃ (B : Option Addr) (cap : Nat), v = .slice B ys.length cap /\ yI w B ys /\ zN B ys.length cap := by
  have h1 := h.1; rw [yS] at h1; obtain rfl : n = ys.length := by omega
  exact qN h hv
theorem qr (r : List V) : (zg r).length = r.length := by simp [zg]
def zK (w w' : World) (e : Ending) (r : List Z) : Prop := ∃ (B : Option Addr) (ys : List I) (cap : Nat), e = .returned (.slice B ys.length cap) /\ yI w' B ys /\ ys.map zp = r /\ zN B ys.length cap /\ za w w'
structure S where
  A : Option Addr
  xs : List I
  cap : Nat
instance : Inhabited S := ⟨⟨none, [], 0⟩⟩
def S.z (s : S) : List Z := s.xs.map zp
def Rj (w : World) (A : Option Addr) (ss : List S) : Prop := ∀ i s, ss[i]? = some s -> ∃ g o, A = some ⟨g, o, none⟩ /\ w.cell? ⟨g, o + i, none⟩ = some (.slice s.A s.xs.length s.cap) /\ yI w s.A s.xs
theorem Rj.grow {w w' : World} {A : Option Addr} {ss : List S} (h : Rj w A ss) (hg : za w w') : Rj w' A ss := fun i s hs => by
  obtain ⟨g, o, hA, a, b⟩ := h i s hs; exact ⟨g, o, hA, hg.cell a, b.grow hg⟩
def xF : List (List Z) -> Int
  | [] => 0
  | z :: l => if zw z ≠ 0 then zw z else xF l
theorem Sw {ss : List S} {k : Nat} {s : S} (h : ss[k]? = some s) : xF ((ss.drop k).map S.z) = if zw s.z ≠ 0 then zw s.z else xF ((ss.drop (k + 1)).map S.z) := v7_
def S.ok (s : S) : Prop := s.xs.length <= 9223372036854775807 /\ ∀ x ∈ s.xs, x.row.length <= 9223372036854775807
theorem Wz (ss : List S) (A : Option Addr) (c : Nat) (w : World) (hlen : ss.length <= 9223372036854775807) (hs : Rj w A ss) (hl : ∀ s ∈ ss, s.ok) (R : Int) (hR : xF (ss.map S.z) = R) :
    Calls Tryz.prog 37 #[.slice A ss.length c] w fun en w' => en = .returned (.int .i64 R) /\ za w w' := by
  have HR := hh_ hR; have Hs := hh_ hs; have Hl := hh_ hl; clear hs hR hl; go_enter Tryz.func37, Tryz.ntmps37; go_wp2
  go_loopw [8] (fun i wr => ∃ k : Nat, k <= ss.length /\ i = .int .i64 k /\ xF ((ss.drop k).map S.z) = R /\ za w wr) (fun i _ => ss.length - (intOf i).toNat)
  case atStart => exact ⟨0, Nat.zero_le _, rfl, by simpa using HR.out, za.refl _⟩
  case round =>
    obtain ⟨k, hk, rfl, hinv, hg⟩ := hrel; have kL := hh_ hinv; clear hinv
    by_cases hlt : k < ss.length
    · obtain ⟨s, hsk⟩ : ∃ s, ss[k]? = some s := ⟨_, qQ_ hlt⟩
      obtain ⟨g, o, rfl, c1, hz⟩ := (Hs.out.grow hg) k s hsk; have hok := Hl.out s (qZ_ hsk); have inv2 := (Sw hsk).symm.trans kL.out; obtain ⟨E, hE⟩ : ∃ E, zw s.z = E := ⟨_, rfl⟩
      rw [hE] at inv2; have cs := fun W (h : za wr W) => Ww s.xs s.A s.cap W hok.1 (hz.grow h) hok.2 E hE
      have Inv2 := hh_ inv2; clear inv2 hsk hz hok hE
      by_cases hw : E = 0
      · have dw : (E != 0) = false := by simpa using hw
        go_wp2_with (go_at_call 46; ((with_reducible refine (cs _ zi).mono ?_); rintro e w2 ⟨rfl, hg2⟩))
        go_roundw
        case rel => exact u2_
        case measure => exact vZ_
      · have dw : (E != 0) = true := by simpa using hw
        go_wp2_with (go_at_call 46; ((with_reducible refine (cs _ zi).mono ?_); rintro e w2 ⟨rfl, hg2⟩))
        go_ret; exact zx op_ (hg.trans hg2)
    · obtain rfl : k = ss.length := by omega
      have fin : R = 0 := by have := kL.out; rw [List.drop_length] at this; exact this.symm
      go_wp2; go_ret; exact zx fin.symm hg
theorem TN (n : Nat) (w : World) (hn : n <= 100000) :
    Calls Tryz.prog 77 #[.slice none 0 0, .int .i64 n] w fun e w' => ∃ v, e = .returned v /\ w'.ownsRow w.heap.size 54 2 v 0 (zq []) /\ za w w' := by
  obtain ⟨ti, hti, hz0, hz1, hz2⟩ := xX; go_enter Tryz.func77, Tryz.ntmps77
  by_cases h0 : n = 0
  · exact uJ_
  · have hpos : decide ((0 : Int) < (n : Int)) = true := decide_eq_true vU_
    have hwp : IntKind.i64.wrap (n : Int) = (n : Int) := by rw [IntKind.wrap_i64]; omega
    have hrz := fun ty => Lib.run_append_nil_zeros w 34 3 ty 54 ti _ .i64 .i64 Tryz.underlying34 Tryz.underlying3 hti hz0 n vU_ vU_ vU_ vC_
    have hge : n <= grownCap w n 0 54 := grownCap_ge w n 0 _; have hmx := grownCap_le_maxLen w n 0 54 vr_; obtain ⟨G, hG⟩ : ∃ G, grownCap w n 0 54 = G := ⟨_, rfl⟩
    rw [hG] at hrz hge hmx; have HM := hh_ hmx; have hG63 : G <= 9223372036854775807 := by unfold maxLen at hmx; omega
    clear hG hmx
    go_wp2_with (at_builtin; refine Lib.wpList_append_run _ rfl _ _ _ _ rfl _ _ rfl rfl _ _ (hrz _) ?_)
    go_ret; refine ⟨_, rfl, World.ownsRow_made w.drew _ G (Nat.le_refl _) HM.out ?_, (za.refl w).drew.al _⟩; simp [size_zeroCells, Value.cells]; omega
def fl (ss : List S) : List I := ss.flatMap S.xs
theorem Ko {ss : List S} {k : Nat} {s : S} (h : ss[k]? = some s) : fl (ss.take (k + 1)) = fl (ss.take k) ++ s.xs := by
  obtain ⟨h1, e1⟩ := qQ9.1 h; rw [List.take_succ_eq_append_getElem h1, e1]; simp [fl]
theorem TK (ss : List S) (k : Nat) : (fl (ss.take k)).length <= (fl ss).length := by
  have : fl ss = fl (ss.take k) ++ fl (ss.drop k) := by unfold fl; rw [<- List.flatMap_append, List.take_append_drop]
  rw [this, List.length_append]; omega
theorem Rj.vsl {w : World} {A : Option Addr} {ss : List S} (h : Rj w A ss) : ∀ x ∈ fl ss, xd w x.A x.row := fun x hx => by
  obtain ⟨s, hs, hx⟩ := List.mem_flatMap.1 hx; obtain ⟨i, hi, e⟩ := List.mem_iff_getElem.1 hs; obtain ⟨_, _, _, _, hz⟩ := h i s oQ_; exact hz.vsl x hx
theorem PR {w : World} {A : Option Addr} {xs : List I} {c : Nat} (h : zN A xs.length c) (hz : yI w A xs) : Vc w (.slice A xs.length c) xs := by
  have := UC h hz (Nat.le_refl _)
  rwa [List.take_length] at this
theorem Qz (ss : List S) (A : Option Addr) (c : Nat) (w : World) (hlen : ss.length <= 1000) (hs : Rj w A ss) (hsum : (fl ss).length <= 10000) (hok : ∀ s ∈ ss, zN s.A s.xs.length s.cap) :
    Calls Tryz.prog 38 #[.slice A ss.length c] w fun en w' => ∃ (B : Option Addr) (cap : Nat), en = .returned (.slice B (fl ss).length cap) /\ yI w' B (fl ss) /\ zN B (fl ss).length cap /\ za w w' := by
  have Hs := hh_ hs; have Hok := hh_ hok; clear hs hok; go_enter Tryz.func38, Tryz.ntmps38; go_wp2
  go_loopw [3, 11] (fun n i wr => ∃ (k m : Nat), k <= ss.length /\ i = .int .i64 k /\ n = .int .i64 m /\ m = (fl (ss.take k)).length /\ za w wr) (fun _ i _ => ss.length - (intOf i).toNat)
  case atStart => exact u4_
  case round =>
    rename World => wa
    obtain ⟨k, m, hk, rfl, rfl, hm, hg⟩ := hrel; have Hm := hh_ hm; clear hm
    by_cases hlt : k < ss.length
    · obtain ⟨s, hsk⟩ : ∃ s, ss[k]? = some s := ⟨_, qQ_ hlt⟩
      obtain ⟨g, o, rfl, c1, hz⟩ := (Hs.out.grow hg) k s hsk; have hm2 : m + s.xs.length = (fl (ss.take (k + 1))).length := by rw [Ko hsk, List.length_append, <- Hm.out]
      have hb := TK ss (k + 1); rw [<- hm2] at hb; have Hm2 := hh_ hm2; have hwp : IntKind.i64.wrap ((m : Int) + (s.xs.length : Int)) = ((m + s.xs.length : Nat) : Int) := by rw [IntKind.wrap_i64]; omega
      have d0 : decide (((m + s.xs.length : Nat) : Int) < 0) = false := decide_eq_false vU_; clear hm2 hsk hz; go_wp2; go_roundw
      case rel => exact uL_
      case measure => exact vZ_
    · obtain rfl : k = ss.length := by omega
      have hm2 : m <= 10000 := by rw [Hm.out, List.take_length]; exact hsum
      have cg := fun W => TN m W vU_
      go_upto_region 10 with (go_at_call 77; ((with_reducible refine (cg _).mono ?_); rintro en w2 ⟨v, rfl, hown, hg2⟩; have Own := hh_ hown; clear hown)); have G2 := hg.trans hg2; go_wp2
      go_loopw [6, 27] (fun t i wq => ∃ (k n : Nat), k <= ss.length /\ i = .int .i64 k /\ n = (fl (ss.take k)).length /\ wq.ownsRow wa.heap.size 54 2 t n (zq (fl (ss.take k))) /\ za wa wq) (fun _ i _ => ss.length - (intOf i).toNat)
      case atStart => exact u7_
      case round =>
        obtain ⟨k, n, hk, rfl, hn, hown, hg3⟩ := hrel; have Own3 := hh_ hown; have Hn := hh_ hn; clear hown hn
        by_cases hlt : k < ss.length
        · obtain ⟨s, hsk⟩ : ∃ s, ss[k]? = some s := ⟨_, qQ_ hlt⟩
          obtain ⟨g, o, rfl, c1, hz⟩ := (Hs.out.grow (hg.trans hg3)) k s hsk; have src := hh_ (PR (Hok.out s (qZ_ hsk)) hz); have hn2 : n + s.xs.length = (fl (ss.take (k + 1))).length := by rw [Ko hsk, List.length_append, <- Hn.out]
          have hfl := hh_ (Ko hsk); have hb := TK ss (k + 1); rw [<- hn2] at hb; have Hn2 := hh_ hn2; clear hn2 hsk hz
          go_wp2_with (at_builtin; refine zZ rfl _ _ rfl wa.heap.size _ n (fl (ss.take k)) rfl Own3.out _ s.xs rfl src.out vU_ hg3.size ?_; intro v' w7 hown' hgrow)
          have hg7 : za wa w7 := yg hg3 hgrow Own3.out; have Own7 := hh_ hown'; clear hgrow hown'; go_wp2; go_roundw
          case rel => exact uz_
          case measure => exact vZ_
        · obtain rfl : k = ss.length := by omega
          have own := Own3.out; have hn := Hn.out; rw [List.take_length] at own hn; rw [hn] at own; obtain ⟨B, cap, rfl, hz, hk⟩ := qN own (Hs.out.grow (hg.trans hg3)).vsl; have Fin := hh_ (And.intro hz hk); clear own hn hz hk; go_wp2; go_ret; exact ⟨B, cap, rfl, Fin.out.1, Fin.out.2, hg.trans hg3⟩
theorem Pj {K : Int} : ∀ (l z : List Z) {M : Int}, 0 <= M -> 0 <= K -> Lt M z -> Lt K l -> Lt (M + K * l.length) (Qr z l)
  | [], z, M, _, _, hz, _ => by simpa [Qr] using hz
  | x :: l, z, M, hM, hK, hz, hl => by
    have h1 := Bv (r := x.1) (n := x.2) hz hM (hl x vV_).1 (hl x vV_).2; have h2 := Pj l (kK z x.1 x.2) (M := M + K) vU_ hK h1 (fun y hy => hl y vR_); rw [Xm]; intro y hy; have := h2 y hy; rw [List.length_cons, Int.natCast_succ, Int.mul_add, Int.mul_one]; omega
theorem BM {K : Int} {l : List Z} (hK : 0 <= K) (hl : Lt K l) : Lt (K * l.length) (zW l) := fun y hy => by
  have := Pj l [] (M := 0) vU_ hK (fun x hx => by simp at hx) hl y hy; omega
def Pl (l : List Z) : Prop := (∀ x ∈ l, x.1.length <= 1000 /\ ∀ v ∈ x.1, RV v) /\ Lt 1000000 l
theorem Pl.snoc {l : List Z} {x : Z} (h : Pl l) (h1 : x.1.length <= 1000) (h2 : ∀ v ∈ x.1, RV v) (h3 : -1000000 <= x.2 /\ x.2 <= 1000000) : Pl (l ++ [x]) := by
  refine ⟨fun y hy => ?_, fun y hy => ?_⟩
  · rcases List.mem_append.1 hy with hy | hy
    · exact h.1 y hy
    · simp at hy; subst hy; exact ⟨h1, h2⟩
  · rcases List.mem_append.1 hy with hy | hy
    · exact h.2 y hy
    · simp at hy; subst hy; exact h3
theorem Pl.nil : Pl [] := ⟨fun x hx => by simp at hx, fun x hx => by simp at hx⟩
structure Lg (w wr : World) (t : Value) (l : List Z) : Prop where
  sl : ∃ (B : Option Addr) (ys : List I) (cap : Nat), t = .slice B ys.length cap /\ yI wr B ys /\ ys.map zp = zW l /\ zN B ys.length cap
  grow : za w wr
  pl : Pl l
theorem Lg.nil (w wr : World) (hg : za w wr) : Lg w wr (.slice none 0 0) [] := ⟨⟨none, [], 0, rfl, zu _ _, rfl, zN.nil⟩, hg, Pl.nil⟩
theorem Lg.more {w wr wq : World} {t : Value} {l : List Z} (h : Lg w wr t l) (hg : za wr wq) : Lg w wq t l := by
  obtain ⟨⟨B, ys, cap, h1, h2, h3, h4⟩, h5, h6⟩ := h; exact ⟨⟨B, ys, cap, h1, h2.grow hg, h3, h4⟩, h5.trans hg, h6⟩
theorem PO {w : World} {g : Nat} {t : TypeId} {s1 s2 : S} (hb : zc w g t #[.slice s1.A s1.xs.length s1.cap, .slice s2.A s2.xs.length s2.cap]) (h1 : yI w s1.A s1.xs) (h2 : yI w s2.A s2.xs) : Rj w (some ⟨g, 0, none⟩) [s1, s2] := fun i s hs => uE_
theorem BO {w : World} {g : Nat} {t : TypeId} {s1 : S} (hb : zc w g t #[.slice s1.A s1.xs.length s1.cap]) (h1 : yI w s1.A s1.xs) : Rj w (some ⟨g, 0, none⟩) [s1] := fun i s hs => by
  match i, hs with
  | 0, hs => simp at hs; subst hs; exact ⟨g, 0, rfl, by rw [hb.cell]; rfl, h1⟩
structure In (w : World) (s : S) : Prop where
  z : yI w s.A s.xs
  sl : zN s.A s.xs.length s.cap
  ok : s.ok
theorem In.grow {w w' : World} {s : S} (h : In w s) (hg : za w w') : In w' s := ⟨h.z.grow hg, h.sl, h.ok⟩
def S.v (s : S) : Value := .slice s.A s.xs.length s.cap
theorem Kf (x y : List Z) (t : Int) : yL x y t = if xF [x, y] ≠ 0 then ([], xF [x, y]) else yF (x ++ zP t y) := by
  unfold yL xF
  by_cases h1 : zw x = 0
  · by_cases h2 : zw y = 0
    · simp [xF, h1, h2]
    · simp [xF, h1, h2]
  · simp [h1]
theorem JN {x y : List Z} (h : xF [x, y] = 0) : zw x = 0 /\ zw y = 0 := by
  unfold xF at h; split at h
  · exact uD_
  · rename_i h1
    unfold xF at h; split at h
    · rename_i h2; exact absurd h h2
    · rename_i h2
      exact ⟨by simpa using h1, by simpa using h2⟩
theorem S.facts {s : S} (h : zw s.z = 0) : s.xs.length <= 400 /\ (∀ x ∈ s.xs, x.row.length <= 8) /\ (∀ x ∈ s.xs, ∀ v ∈ x.row, RV v) /\ ∀ x ∈ s.xs, -1000000 <= x.w /\ x.w <= 1000000 := by
  have h := (qQ _).1 h; exact ⟨by simpa [S.z] using h.len, fun x hx => (h.row (zp x) (qZ9 hx)).1, fun x hx => (h.row (zp x) (qZ9 hx)).2, fun x hx => (h.w (zp x) (qZ9 hx)).2⟩
theorem QP (a b : S) : fl [a, b] = a.xs ++ b.xs := by simp [fl]
theorem PY (a b : S) (B : Option Addr) (cap : Nat) (w : World) (hz : yI w B (fl [a, b])) (ha : zw a.z = 0) (hb : zw b.z = 0) :
    Calls Tryz.prog 20 #[.slice B (fl [a, b]).length cap] w fun en w' => yK w w' en (yF (a.z ++ b.z)) := by
  obtain ⟨a1, a2, a3, a4⟩ := S.facts ha; obtain ⟨b1, b2, b3, b4⟩ := S.facts hb; have e : (fl [a, b]).map zp = a.z ++ b.z := by rw [QP, List.map_append]; rfl
  rw [<- e]; have mem : ∀ x ∈ fl [a, b], x ∈ a.xs \/ x ∈ b.xs := fun x hx => by rw [QP] at hx; exact List.mem_append.1 hx
  refine jF _ _ _ _ ve_ hz (fun x hx => ?_) (fun x hx => ?_) (fun x hx => ?_)
  · rcases mem x hx with h | h
    · have := a2 x h; omega
    · have := b2 x h; omega
  · rcases mem x hx with h | h
    · exact a3 x h
    · exact b3 x h
  · rcases mem x hx with h | h
    · exact a4 x h
    · exact b4 x h
theorem WC (a b : S) (g : Nat) (w : World) (t : TypeId) (h : zc w g t #[.slice a.A a.xs.length a.cap, .slice b.A b.xs.length b.cap]) (ha : In w a) (hb : In w b) :
    Calls Tryz.prog 37 #[.slice (some ⟨g, 0, none⟩) 2 2] w fun en w' => en = .returned (.int .i64 (xF [a.z, b.z])) /\ za w w' :=
  Wz [a, b] (some ⟨g, 0, none⟩) 2 w vV_ (PO h ha.z hb.z) (fun s hs => by simp at hs; rcases hs with rfl | rfl; exact ha.ok; exact hb.ok) _ rfl
theorem Pf (a : S) (g : Nat) (w : World) (t : TypeId) (h : zc w g t #[.slice a.A a.xs.length a.cap]) (ha : In w a) :
    Calls Tryz.prog 37 #[.slice (some ⟨g, 0, none⟩) 1 1] w fun en w' => en = .returned (.int .i64 (zw a.z)) /\ za w w' :=
  Wz [a] (some ⟨g, 0, none⟩) 1 w vV_ (BO h ha.z) (fun s hs => by simp at hs; rcases hs with rfl; exact ha.ok) _ (by simp only [List.map_cons, List.map_nil, xF]; split; rfl; simp_all)
theorem QA (a b : S) (g : Nat) (w : World) (t : TypeId) (h : zc w g t #[.slice a.A a.xs.length a.cap, .slice b.A b.xs.length b.cap]) (ha : In w a) (hb : In w b) (hl : a.xs.length + b.xs.length <= 10000) :
    Calls Tryz.prog 38 #[.slice (some ⟨g, 0, none⟩) 2 2] w fun en w' => ∃ (B : Option Addr) (cap : Nat), en = .returned (.slice B (fl [a, b]).length cap) /\ yI w' B (fl [a, b]) /\ zN B (fl [a, b]).length cap /\ za w w' :=
  Qz [a, b] (some ⟨g, 0, none⟩) 2 w vV_ (PO h ha.z hb.z) ve_ (fun s hs => by simp at hs; rcases hs with rfl | rfl; exact ha.sl; exact hb.sl)
theorem Pk (a b : S) (w : World) (ha : In w a) (hb : In w b) :
    Calls Tryz.prog 32 #[.slice a.A a.xs.length a.cap, .slice b.A b.xs.length b.cap] w fun en w' => yK w w' en (yL a.z b.z 1) := by
  have Ha := hh_ ha; have Hb := hh_ hb; clear ha hb; go_enter Tryz.func32, Tryz.ntmps32; obtain ⟨E, hE⟩ : ∃ E, xF [a.z, b.z] = E := ⟨_, rfl⟩
  have cr := fun W (h1 : zc W w.heap.size 34 #[.slice a.A a.xs.length a.cap, .slice b.A b.xs.length b.cap]) (hg : za w W) => WC a b w.heap.size W _ h1 (Ha.out.grow hg) (Hb.out.grow hg)
  rw [hE] at cr; have HE := hh_ hE; clear hE; go_upto_region 2 with (go_at_call 37; ((with_reducible refine (cr _ (zc.new _ _ _) zi).mono ?_); rintro e w2 ⟨rfl, hg2⟩)); have G2 := ((za.refl w).al _).trans hg2; clear cr
  by_cases h0 : E = 0
  · have d0 : (E != 0) = false := by simpa using h0
    obtain ⟨ra, rb⟩ := JN (HE.out.trans h0); obtain ⟨a1, a2, a3, a4⟩ := S.facts ra; obtain ⟨b1, b2, b3, b4⟩ := S.facts rb; have cc := fun W (h1 : zc W w2.heap.size 34 #[.slice a.A a.xs.length a.cap, .slice b.A b.xs.length b.cap]) (hg : za w W) => QA a b w2.heap.size W _ h1 (Ha.out.grow hg) (Hb.out.grow hg) vU_
    have fin : yL a.z b.z 1 = yF (a.z ++ b.z) := by rw [Kf, HE.out, if_neg vE_, SF]
    have Fin := hh_ fin; have cs := fun B cap W hz => PY a b B cap W hz ra rb
    clear fin ra rb a1 a2 a3 a4 b1 b2 b3 b4
    go_wp2_with (first
      | (go_at_call 38; ((with_reducible refine (cc _ (zc.new _ _ _) (G2.al _)).mono ?_); rintro e w3 ⟨B, cap, rfl, hz3, hk3, hg3⟩; have Hz3 := hh_ hz3; clear hz3 hk3))
      | (go_at_call 20; ((with_reducible refine (cs _ _ _ Hz3.out).mono ?_); rintro e w4 ⟨C, zs, cap2, rfl, hz4, hm4, hk4, hg4⟩; have Out := hh_ (And.intro hz4 (And.intro hm4 hk4)); clear hz4 hm4 hk4)))
    refine qX_ ou_ rfl ?_; exact ⟨C, zs, cap2, by rw [Fin.out], Out.out.1, by rw [Fin.out]; exact Out.out.2.1, Out.out.2.2, ((G2.al _).trans hg3).trans hg4⟩
  · have d0 : (E != 0) = true := by simpa using h0
    go_wp2; refine qX_ ou_ rfl ?_; have e : yL a.z b.z 1 = ([], E) := by rw [Kf, HE.out, if_pos h0]
    exact ⟨none, [], 0, by rw [e]; rfl, zu _ _, by rw [e]; rfl, zN.nil, G2⟩
theorem DV.kept {w w' : World} {base n g : Nat} {v : Value} {xs : List Value} {r : List V} (h : DV w g r) (hown : w.ownsRow base 54 2 v n xs) (hg : w.grownBy w' v.ownBlock) : DV w' g r := by
  have h1 := hg.block g h.lt (fun e => by
    rcases hown.2 with ⟨rfl, _⟩ | ⟨g', cap, cur, rfl, _, hgb, _⟩
    · simp [Value.ownBlock] at e
    · simp [Value.ownBlock] at e
      subst e; have h2 : w.heap[g]? = some (.cells (zG r).toArray 24 (0, 0)) := h; rw [hgb] at h2
      simp at h2)
  exact h1.trans h
theorem Np (f : Int -> Int) {xs : List I} {k : Nat} {x : I} (h : xs[k]? = some x) : yo f ((xs.take (k + 1)).map zp) = yo f ((xs.take k).map zp) ++ (if f x.w ≠ 0 then [(zg x.row, f x.w)] else []) := by
  obtain ⟨h1, e1⟩ := qQ9.1 h; rw [List.take_succ_eq_append_getElem h1, e1]; unfold yo; simp only [List.map_append, List.filter_append, List.map_cons, List.map_nil, zp]
  by_cases hf : f x.w = 0
  · simp [hf]
  · simp [hf]
theorem Rg {r : List V} (hr : ∀ v ∈ r, RV v) : ∀ {z : List Z}, (∀ y ∈ z, ∀ v ∈ y.1, RV v) -> (∀ y ∈ z, zv y.1 r ≠ 0) -> zE z r = 0
  | [], _, _ => rfl
  | y :: z, hz, h => by
    rw [zl, Rg hr (fun u hu => hz u vS_) (fun u hu => h u vS_), if_neg]
    · rfl
    · intro e
      exact h y vV_ ((yq y.1 r (hz y vV_) hr).2 e)
theorem UZ {r : List V} (hr : ∀ v ∈ r, RV v) : ∀ {z : List Z} {x : Z}, (∀ y ∈ z, ∀ v ∈ y.1, RV v) -> z.Pairwise (fun x y => zv x.1 y.1 < 0) -> x ∈ z -> zv x.1 r = 0 -> zE z r = x.2
  | y :: z, x, hz, hu, hx, h => by
    have e := (yq x.1 r (hz x hx) hr).1 h; rcases List.mem_cons.1 hx with rfl | hx
    · rw [zl, if_pos e, Qn (hz x vV_) (fun u hu => hz u vS_) (List.pairwise_cons.1 hu).1 e]
      simp
    · rw [zl, UZ hr (fun u hu => hz u vS_) (List.pairwise_cons.1 hu).2 hx h, if_neg]
      · simp
      · intro e2
        have h1 := (List.pairwise_cons.1 hu).1 x hx; have h2 := (yq y.1 x.1 (hz y vV_) (hz x vQ_)).2 (e2.trans e.symm); omega
abbrev Fw : Value := .func (.func 133) #[] #[]
theorem Rc (x : I) (r : List V) (Ar : Option Addr) (cr : Nat) (w : World) (hx : xd w x.A x.row) (lx : x.row.length <= 9223372036854775807) (rx : ∀ v ∈ x.row, RV v) (hr : xd w Ar r) (lr : r.length <= 9223372036854775807) (rr : ∀ v ∈ r, RV v) :
    Calls Tryz.prog 133 #[.agg #[.slice x.A x.row.length x.cap, .int .i64 x.w], .slice Ar r.length cr] w fun e w' => e = .returned (.int .i64 (zv x.row r)) /\ za w w' := by
  have c := fun W (h : za w W) => qd x.row r x.A Ar x.cap cr W lx lr (hx.grow h) (hr.grow h)
  have e : zB xP x.row r = zv x.row r := yb _ _ rx rr; rw [e] at c; clear hx hr rx rr e; go_enter Tryz.func133, Tryz.ntmps133
  go_wp2_with (go_at_call 74; ((with_reducible refine (c _ zi).mono ?_); rintro e w' ⟨rfl, hg'⟩))
  go_ret; exact zx rfl zi
theorem Lu (xs : List I) (A : Option Addr) (c : Nat) (r : List V) (Ar : Option Addr) (cr : Nat) (w : World) (hlen : xs.length <= 400) (hz : yI w A xs) (hl : ∀ x ∈ xs, x.row.length <= 8) (hrv : ∀ x ∈ xs, ∀ v ∈ x.row, RV v) (hup : ∀ (i j : Nat) (x y : I), xs[i]? = some x -> xs[j]? = some y -> i < j -> zv x.row y.row < 0) (hr : xd w Ar r) (lr : r.length <= 1000) (rr : ∀ v ∈ r, RV v) :
    Calls Tryz.prog 132 #[.slice A xs.length c, .slice Ar r.length cr, Fw] w fun en w' => (∃ (k : Nat) (b : Bool), en = .returned (.tuple #[.int .i64 k, .bool b]) /\ (b = true -> ∃ x, xs[k]? = some x /\ zv x.row r = 0) /\ (b = false -> ∀ x ∈ xs, zv x.row r ≠ 0)) /\ za w w' := by
  have Hz := hh_ hz; have Hl := hh_ hl; have Hrv := hh_ hrv; have Hup := hh_ hup; have Hr := hh_ hr; have Rr := hh_ rr; clear hz hl hrv hup hr rr; go_enter Tryz.func132, Tryz.ntmps132; go_wp2
  go_loopw [9, 10] (fun si sj wr => ∃ (i j : Nat), si = .int .i64 (i : Int) /\ sj = .int .i64 (j : Int) /\ i <= j /\ j <= xs.length /\ (∀ t x, xs[t]? = some x -> t < i -> zv x.row r < 0) /\ (∀ t x, xs[t]? = some x -> j <= t -> 0 <= zv x.row r) /\ za w wr) (fun si sj _ => (intOf sj).toNat - (intOf si).toNat)
  case atStart => exact ⟨0, xs.length, rfl, rfl, Nat.zero_le _, Nat.le_refl _, fun t x h1 h2 => by omega, fun t x h1 h2 => by have := (qQ9.1 h1).1; omega, za.refl _⟩
  case round =>
    obtain ⟨i, j, rfl, rfl, hij, hjb, hlo, hhi, hg⟩ := hrel; have Lo := hh_ hlo; have Hi := hh_ hhi; clear hlo hhi
    by_cases hlt : i < j
    · have dl : decide ((i : Int) < (j : Int)) = true := by simp; omega
      obtain ⟨h, eh⟩ : ∃ h : Nat, h = (i + j) / 2 := ⟨_, rfl⟩
      have eh2 : ((i : Int) + (j : Int)) / 2 = (h : Int) := by omega
      have h1 : i <= h := by omega
      have h2 : h < j := by omega
      have hbig : (i : Int) + j <= 200000 := by omega
      have hhN : h < xs.length := by omega
      obtain ⟨x, hxk⟩ : ∃ x, xs[h]? = some x := ⟨_, qQ_ hhN⟩
      obtain ⟨gx, ox, rfl, c1, c2, hxv⟩ := (Hz.out.grow hg) h x hxk; have hmem := qZ_ hxk; have cc := fun W (h : za wr W) => Rc x r Ar cr W (hxv.grow h) (by have := Hl.out x hmem; omega) (Hrv.out x hmem) (Hr.out.grow (hg.trans h)) vU_ Rr.out
      obtain ⟨d, hd⟩ : ∃ d, zv x.row r = d := ⟨_, rfl⟩
      rw [hd] at cc; have Hd := hh_ hd; have Hxk := hh_ hxk; have Eh := hh_ eh; have b0 : (0 : Int) <= (h : Int) := by omega
      have b1 : (h : Int) < (xs.length : Int) := by omega
      clear hd hxk hmem hxv eh
      by_cases hc : d < 0
      · have dc : decide (d < 0) = true := by simpa using hc
        have hnew : ∀ t y, xs[t]? = some y -> t < h + 1 -> zv y.row r < 0 := fun t y ht hlt' => by
          by_cases e : t = h
          · subst e
            have := ht.symm.trans Hxk.out; cases this; rw [Hd.out]; exact hc
          · exact q4 (Hup.out t h y x ht Hxk.out vU_) (by rw [Hd.out]; exact hc)
        have Hnew := hh_ hnew; clear hnew
        go_wp2_with (go_at_call 133; ((with_reducible refine (cc _ (za.refl _)).mono ?_); rintro e w3 ⟨rfl, hg3⟩))
        go_roundw
        case rel => exact ⟨h + 1, j, by go_num, rfl, by omega, hjb, Hnew.out, Hi.out, hg.trans hg3⟩
        case measure => exact vZ_
      · have dc : decide (d < 0) = false := by simpa using hc
        have hnew : ∀ t y, xs[t]? = some y -> h <= t -> 0 <= zv y.row r := fun t y ht hlt' => by
          by_cases e : t = h
          · subst e
            have := ht.symm.trans Hxk.out; cases this; rw [Hd.out]; omega
          · have h3 := Hup.out h t x y Hxk.out ht vU_
            have h4 := yA x.row r; have h5 := xi (a := r) (b := x.row) (c := y.row) (by rw [h4, Hd.out]; omega) vU_; have h6 := yA y.row r; omega
        have Hnew := hh_ hnew; clear hnew
        go_wp2_with (go_at_call 133; ((with_reducible refine (cc _ (za.refl _)).mono ?_); rintro e w3 ⟨rfl, hg3⟩))
        go_roundw
        case rel => exact ⟨i, h, rfl, by go_num, by omega, by omega, Lo.out, Hnew.out, hg.trans hg3⟩
        case measure => exact vZ_
    · obtain rfl : i = j := by omega
      have dl : decide ((i : Int) < (i : Int)) = false := by simp
      by_cases hn : i < xs.length
      · have dn : decide ((i : Int) < (xs.length : Int)) = true := by simp; omega
        obtain ⟨x, hxk⟩ : ∃ x, xs[i]? = some x := ⟨_, qQ_ hn⟩
        obtain ⟨gx, ox, rfl, c1, c2, hxv⟩ := (Hz.out.grow hg) i x hxk; have hmem := qZ_ hxk; have cc := fun W (h : za wr W) => Rc x r Ar cr W (hxv.grow h) (by have := Hl.out x hmem; omega) (Hrv.out x hmem) (Hr.out.grow (hg.trans h)) vU_ Rr.out
        obtain ⟨d, hd⟩ : ∃ d, zv x.row r = d := ⟨_, rfl⟩
        rw [hd] at cc; have Hd := hh_ hd; have Hxk := hh_ hxk; have b0 : (0 : Int) <= (i : Int) := by omega
        have b1 : (i : Int) < (xs.length : Int) := by omega
        clear hd hxk hmem hxv
        have hres : ((d == 0) = true -> ∃ x, xs[i]? = some x /\ zv x.row r = 0) /\ ((d == 0) = false -> ∀ x ∈ xs, zv x.row r ≠ 0) := by
          refine ⟨fun e => ⟨x, Hxk.out, by rw [Hd.out]; simpa using e⟩, fun e y hy => ?_⟩; have hd0 : d ≠ 0 := by simpa using e
          obtain ⟨t, ht, ey⟩ := List.mem_iff_getElem.1 hy; have hty : xs[t]? = some y := by rw [<- ey]; exact qQ_ ht
          have hi0 := Hi.out i x Hxk.out (Nat.le_refl _); rw [Hd.out] at hi0; rcases Nat.lt_trichotomy t i with h | h | h
          · have := Lo.out t y hty h; omega
          · subst h
            have := hty.symm.trans Hxk.out; cases this; rw [Hd.out]; exact hd0
          · have h3 := Hup.out i t x y Hxk.out hty h
            have h4 := yA x.row r; have h5 := q4 (a := r) (b := x.row) (c := y.row) (by rw [h4, Hd.out]; omega) h3; have h6 := yA y.row r; omega
        have Res := hh_ hres; clear hres; obtain ⟨b, hb⟩ : ∃ b, (d == 0) = b := ⟨_, rfl⟩
        rw [hb] at Res
        go_wp2_with (go_at_call 133; ((with_reducible refine (cc _ (za.refl _)).mono ?_); rintro e w3 ⟨rfl, hg3⟩))
        refine qX_ os_ rfl ?_; exact ⟨⟨i, b, rfl, Res.out.1, Res.out.2⟩, hg.trans hg3⟩
      · obtain rfl : i = xs.length := by omega
        have hres : ∀ x ∈ xs, zv x.row r ≠ 0 := fun y hy => by
          obtain ⟨t, ht, ey⟩ := List.mem_iff_getElem.1 hy; have := Lo.out t y (by rw [<- ey]; exact qQ_ ht) ht; omega
        have Res := hh_ hres; clear hres; go_wp2; refine qX_ os_ rfl ?_; exact ⟨⟨xs.length, false, rfl, (fun e => by cases e), (fun _ => Res.out)⟩, hg⟩
theorem MR (xs : List I) (A : Option Addr) (c : Nat) (r : List V) (Ar : Option Addr) (cr : Nat) (w : World) (hz : yI w A xs) (hw : zw (xs.map zp) = 0) (hr : xd w Ar r) (hre : XH r = 0) :
    Calls Tryz.prog 99 #[.slice A xs.length c, .slice Ar r.length cr] w fun en w' => en = .returned (.int .i64 (zE (xs.map zp) r)) /\ za w w' := by
  obtain ⟨a1, a2, a3, a4⟩ := S.facts (s := ⟨A, xs, c⟩) hw; have a1 : xs.length <= 400 := a1; have hup0 := ((qQ _).1 hw).up; have hrv0 : ∀ y ∈ xs.map zp, ∀ v ∈ y.1, RV v := fun y hy => (((qQ _).1 hw).row y hy).2
  have hup : ∀ (i j : Nat) (x y : I), xs[i]? = some x -> xs[j]? = some y -> i < j -> zv x.row y.row < 0 := fun i j x y hx hy hij => by
    have h1 := List.pairwise_iff_getElem.1 hup0 i j (by simpa using (qQ9.1 hx).1) (by simpa using (qQ9.1 hy).1) hij; simp only [List.getElem_map, (qQ9.1 hx).2, (qQ9.1 hy).2] at h1; exact h1
  obtain ⟨l8, rr⟩ := (jc r).1 hre; have cs := Lu xs A c r Ar cr w a1 hz a2 a3 hup hr vU_ rr; obtain ⟨R, hR⟩ : ∃ R, zE (xs.map zp) r = R := ⟨_, rfl⟩
  have hit : ∀ (k : Nat) (x : I), xs[k]? = some x -> zv x.row r = 0 -> x.w = R := fun k x hx h => by
    rw [<- hR]; exact (UZ (x := zp x) rr hrv0 hup0 (qZ9 (qZ_ hx)) h).symm
  have miss : (∀ x ∈ xs, zv x.row r ≠ 0) -> R = 0 := fun h => by
    rw [<- hR]; exact Rg rr hrv0 (fun y hy => by obtain ⟨x, hx, rfl⟩ := List.mem_map.1 hy; exact h x hx)
  rw [hR]; have WD := hh_ hit; have Miss := hh_ miss; have Hz := hh_ hz; clear hz hw hr hre a2 a3 a4 hup0 hrv0 hup rr hR hit miss; go_enter Tryz.func99, Tryz.ntmps99; go_upto_region 2 with (go_at_call 132; ((with_reducible refine cs.mono ?_); rintro en w2 ⟨⟨k, b, rfl, h1, h2⟩, hg2⟩; have H1 := hh_ h1; have H2 := hh_ h2; clear h1 h2)); cases b with
  | true =>
    obtain ⟨x, hxk, h0⟩ := H1.out rfl; have e := WD.out k x hxk h0; obtain ⟨gx, ox, rfl, c1, c2, _⟩ := (Hz.out.grow hg2) k x hxk; have hlt := (qQ9.1 hxk).1; have b0 : (0 : Int) <= (k : Int) := by omega
    have b1 : (k : Int) < (xs.length : Int) := by omega
    have E := hh_ e; clear hxk h0 e; go_wp2; go_ret; exact zx E.out hg2
  | false =>
    have e := hh_ (Miss.out (H2.out rfl)); go_wp2; go_ret; exact zx e.out.symm hg2
