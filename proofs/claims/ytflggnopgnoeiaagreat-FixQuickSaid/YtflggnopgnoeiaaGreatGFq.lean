/- Parts of a proof. No condition. -/
import Derived.Laws.IdiomCopy
import Derived.Test.YtflggnopgnoeiaaGreatGFb
set_option maxRecDepth 100000
set_option maxHeartbeats 16000000
set_option maxRecDepth 100000
set_option linter.unusedSimpArgs false
set_option linter.unusedVariables false
namespace Go
variable {p : Prop}
theorem vb_ (h : p := by simp [results, Tryz.results50, go_sem] <;> rfl) : p := h
theorem vc_ (h : p := by simp [results, Tryz.results13, go_sem] <;> rfl) : p := h
theorem vT_ (h : p := by rw [<- HGR.out]; exact W34.out.size) : p := h
theorem w6_ (h : p := by
 subst h; unfold xp at hW; split at hW
 ·rename_i h1; exact absurd hW h1
 ·split at hW
  ·rename_i h2; exact absurd hW h2
  ·rename_i h2; rw [hC] at h2; simpa using h2) : p := h
theorem xi_ (h : p := by
 apply Classical.byContradiction; intro hne; rw [if_neg uX_] at hp2; split at hp2
 ·cases hp2
 ·rw [Bool.and_eq_true, decide_eq_true_iff] at hp2; omega) : p := h
theorem xt_ (h : p := by
 obtain ⟨hk, e⟩ := qQ9.1 hy; rw [List.take_succ_eq_append_getElem hk, e, List.filter_append]; simp [h]) : p := h
end Go
namespace Go.Proofs.YtflggnopgnoeiaaGreat
open Go.RowKit Go.Calm
abbrev EB (gr : Nat) : Value := .func (.func 52) #[] #[.pointer (some ⟨gr, 0, none⟩)]
theorem Vh (P : I -> Bool) (gr : Nat) (xs : List I) (A : Option Addr) (c : Nat) (w : World) (hlen : xs.length <= 200000) (hz : xe w A xs) (hf : ∀ y ∈ xs, ∀ W, za w W -> Calls Tryz.prog 52 #[.agg #[.slice y.A y.row.length y.cap, .int .i64 y.w], .pointer (some ⟨gr, 0, none⟩)] W fun e w' => e = .returned (.bool (!P y)) /\ za W w') :
  Calls Tryz.prog 106 #[.slice A xs.length c, EB gr] w fun en w' => ∃ i : Int, en = .returned (.int .i64 i) /\ ((i = -1 /\ ∀ x ∈ xs, P x = true) \/ ∃ k : Nat, i = k /\ k < xs.length /\ (∀ j x, j < k -> xs[j]? = some x -> P x = true) /\ ∃ x, xs[k]? = some x /\ P x = false) /\ za w w' := by
 have Hz := hh_ hz; have HF := hh_ hf; clear hz hf; go_enter Tryz.func106, Tryz.ntmps106; go_wp2
 go_loopw [8] (fun i wr => ∃ k : Nat, k <= xs.length /\ i = .int .i64 k /\ (∀ j x, j < k -> xs[j]? = some x -> P x = true) /\ za w wr) (fun i _ => xs.length - (intOf i).toNat)
 case atStart => exact ⟨0, Nat.zero_le _, rfl, fun j x h => absurd h (Nat.not_lt_zero _), za.refl _⟩
 case round =>
  rename World => wr
  obtain ⟨k, hk, rfl, hp, hg⟩ := hrel; have HP := hh_ hp; clear hp
  by_cases hlt : k < xs.length
  ·obtain ⟨y, hyk⟩ : ∃ y, xs[k]? = some y := ⟨_, qQ_ hlt⟩
   obtain ⟨gx, ox, rfl, c1, c2, hyv⟩ := (Hz.out.grow hg) k y hyk; have HY := hh_ hyk; have cf := fun W (h : za w W) => HF.out y (qZ_ hyk) W h
   clear hyk hyv; have b0 : (0 : Int) <= (k : Int) := by omega
   have b1 : (k : Int) < (xs.length : Int) := by omega
   by_cases hw : P y = false
   ·simp only [hw, Bool.not_false] at cf
    go_wp2_with (go_at_call 52; ((with_reducible refine (cf _ hg).mono ?_); rintro e w2 ⟨rfl, hg2⟩))
    go_ret; exact ⟨_, rfl, .inr ⟨k, rfl, hlt, HP.out, y, HY.out, hw⟩, hg.trans hg2⟩
   ·have hw : P y = true := by simpa using hw
    have HW := hh_ hw; simp only [hw, Bool.not_true] at cf
    go_wp2_with (go_at_call 52; ((with_reducible refine (cf _ hg).mono ?_); rintro e w2 ⟨rfl, hg2⟩))
    go_roundw
    case rel =>
     refine ⟨k + 1, by omega, by go_num, fun j x hj hx => ?_, hg.trans hg2⟩
     by_cases e : j = k
     ·subst e; rw [HY.out] at hx; cases hx; exact HW.out
     ·exact HP.out j x uX_ hx
    case measure => exact u1_
  ·obtain rfl : k = xs.length := by omega
   go_wp2; go_ret
   exact ⟨_, rfl, .inl ⟨rfl, fun x hx => by
    obtain ⟨j, hj, e⟩ := List.mem_iff_getElem.1 hx
    exact HP.out j x hj (by rw [qQ_ hj, e])⟩, hg⟩
/-! what clear does -/
theorem BN (w : World) : (zeroValue 53).run Tryz.prog w = .ok (.agg #[.slice none 0 0, .int .i64 0]) w := by
 obtain ⟨ti, h1, h2, _⟩ := qO; simp [zeroValue, typeInfo, h1, h2]
theorem Kk (w : World) (ty : TypeId) (b o n c : Nat) (hn : 0 < n) (hc : ∀ j, j < n * 2 -> (w.cell? ⟨b, o + j, none⟩).isSome = true) (hf : ∀ j, w.frozen? ⟨b, j, none⟩ = false) :
  (Builtin.clear_ #[25] ty #[.slice (some ⟨b, o, none⟩) n c]).run Tryz.prog w = .ok (.tuple #[]) (w.setCells b o (Builtin.zeroCells #[.slice none 0 0, .int .i64 0] n).toList) := by
 have hl : (Builtin.zeroCells #[.slice none 0 0, .int .i64 0] n).toList.length = n * 2 := by simp [Builtin.zeroCells]
 have h1 : ∀ v ∈ (Builtin.zeroCells #[.slice none 0 0, .int .i64 0] n).toList, v.oneCell' = true := fun v hv => by
  simp only [Builtin.zeroCells, Array.toList_map, List.mem_map] at hv; obtain ⟨i, _, rfl⟩ := hv; have : i % 2 = 0 \/ i % 2 = 1 := by omega
  rcases this with e | e
  ·simp [e]; rfl
  ·simp [e]; rfl
 have hst := run_storeCells_cells (P := Tryz.prog) b o _ 0 w (by intro j hj; rw [hl] at hj; simpa using hc j hj) (by intro j hj; exact hf _) h1; simp only [Nat.add_zero] at hst; obtain ⟨m, rfl⟩ : ∃ m, n = m + 1 := ⟨n - 1, by omega⟩
 simp [Builtin.clear_, run_underlying Tryz.underlying25, BN, Value.cells, hst]
theorem Z6 {g : Nat} {t : TypeId} : ∀ (vs : List Value) (o : Nat) (w : World) (cs : List Value), zb w g t cs.toArray -> ∃ ds : List Value, zb (w.setCells g o vs) g t ds.toArray /\ ds.length = cs.length /\ ds.take o = cs.take o
 | [], o, w, cs, h => ⟨cs, h, rfl, rfl⟩
 | v :: vs, o, w, cs, h => by
  have h2 := h.set o v; rw [List.setIfInBounds_toArray] at h2; obtain ⟨ds, h3, h4, h5⟩ := Z6 vs (o + 1) _ _ h2; refine ⟨ds, h3, by rw [h4, List.length_set], ?_⟩; have e : (ds.take (o + 1)).take o = ((cs.set o v).take (o + 1)).take o := by rw [h5]
  rw [List.take_take, List.take_take, Nat.min_eq_left (Nat.le_succ o)] at e; rw [e, List.take_set_of_le (Nat.le_refl o)]
theorem Ww {g : Nat} {w0 : World} : ∀ (vs : List Value) (o : Nat) (w : World), GX g w0 w -> GX g w0 (w.setCells g o vs)
 | [], o, w, h => h
 | v :: vs, o, w, h => Ww vs (o + 1) _ (h.set o v)
theorem Sl (xs : List I) (n : Nat) : zr (xs.take n) = (zr xs).take (n * 2) := by
 induction xs generalizing n with
 | nil => simp [zr]
 | cons x xs ih =>
  cases n with
  | zero => simp [zr]
  | succ n =>
   rw [show (n + 1) * 2 = n * 2 + 1 + 1 by omega]; simp [zr, ih]
theorem YE.cleared {w : World} {g n : Nat} {xs : List I} (h : YE w g xs) (hn : n <= xs.length) (vs : List Value) : YE (w.setCells g (n * 2) vs) g (xs.take n) := by
 obtain ⟨r, h⟩ := h; obtain ⟨ds, h1, h2, h3⟩ := Z6 vs (n * 2) w _ h; refine ⟨ds.drop (n * 2), ?_⟩
 have e : zr (xs.take n) = ds.take (n * 2) := by
  rw [h3, Sl, List.take_append_of_le_length (by rw [xv]; omega)]
 rw [e, List.take_append_drop]; exact h1
theorem YE.take {w : World} {g n : Nat} {xs : List I} (h : YE w g xs) (hn : n <= xs.length) : YE w g (xs.take n) := h.cleared hn []
theorem Vb {P : I -> Bool} {L : List I} {k : Nat} {y : I} (h : ∀ j x, j < k -> L[j]? = some x -> P x = true) (hy : L[k]? = some y) (hw : P y = false) : L.take k = (L.take (k + 1)).filter P := by
 obtain ⟨hk, e⟩ := qQ9.1 hy; rw [List.take_succ_eq_append_getElem hk, e, List.filter_append]; have e2 : [y].filter P = [] := by simp [hw]
 rw [e2, List.append_nil]; refine (List.filter_eq_self.2 fun x hx => ?_).symm; obtain ⟨j, hj, e3⟩ := List.mem_iff_getElem.1 hx; rw [List.length_take] at hj; rw [List.getElem_take] at e3; exact h j x uX_ (by rw [qQ_ uX_, e3])
theorem Va {P : I -> Bool} {L : List I} {j : Nat} {y : I} (hy : L[j]? = some y) (h : P y = false) : (L.take (j + 1)).filter P = (L.take j).filter P := xt_
theorem U9 {P : I -> Bool} {L : List I} {j : Nat} {y : I} (hy : L[j]? = some y) (h : P y = true) : (L.take (j + 1)).filter P = (L.take j).filter P ++ [y] := xt_
theorem UV {M L : List I} {j : Nat} (h : M.drop j = L.drop j) : M[j]? = L[j]? := by
 have e := congrArg (fun l : List I => l[0]?) h; simpa [List.getElem?_drop] using e
theorem LF {M L : List I} {j : Nat} (h : M.drop j = L.drop j) : M.drop (j + 1) = L.drop (j + 1) := by
 rw [<- List.drop_drop, <- List.drop_drop, h]
theorem Fc {M : List I} {n : Nat} (h : n < M.length) (y : I) : (M.set n y).take (n + 1) = M.take n ++ [y] := by
 have h2 : n < (M.set n y).length := by rw [List.length_set]; exact h
 rw [List.take_succ_eq_append_getElem h2, List.getElem_set_self, List.take_set_of_le (Nat.le_refl n)]
theorem Sd (P : I -> Bool) (gr g : Nat) (L : List I) (A : Option Addr) (c : Nat) (w : World) (hmax : L.length <= 200000) (hc : L.length <= c) (hz : xe w A L) (hd : L ≠ [] -> A = some ⟨g, 0, none⟩ /\ YE w g L) (hf : ∀ y ∈ L, ∀ W, GX g w W -> Calls Tryz.prog 52 #[.agg #[.slice y.A y.row.length y.cap, .int .i64 y.w], .pointer (some ⟨gr, 0, none⟩)] W fun e w' => e = .returned (.bool (!P y)) /\ za W w') :
  Calls Tryz.prog 51 #[.slice A L.length c, EB gr] w fun en w' => en = .returned (.slice A (L.filter P).length c) /\ ((L = [] /\ za w w') \/ A = some ⟨g, 0, none⟩ /\ YE w' g (L.filter P) /\ GX g w w') := by
 have ci := Vh P gr L A c w hmax hz (fun y hy W h => hf y hy W ((GX.refl g w).grow h)); have HD := hh_ hd; have HF := hh_ hf; clear hd hz hf; go_enter Tryz.func51, Tryz.ntmps51; go_upto_region 2 with (go_at_call 106; ((with_reducible refine ci.mono ?_); rintro en w2 ⟨i0, rfl, h12, hg2⟩; have H12 := hh_ h12; clear h12)); rcases H12.out with ⟨rfl, hall⟩ | ⟨k, rfl, hk, hpos, y0, hy0, hw0⟩
 ·have ef : L.filter P = L := List.filter_eq_self.2 (fun x hx => hall x hx); have EF := hh_ ef; clear hall ef H12; go_wp2; go_ret; refine ⟨by rw [EF.out]; rfl, ?_⟩
  by_cases hL : L = []
  ·exact .inl ⟨hL, hg2⟩
  ·obtain ⟨e, db⟩ := HD.out hL; exact .inr ⟨e, by rw [EF.out]; exact db.grow hg2, (GX.refl g w).grow hg2⟩
 ·obtain ⟨rfl, db⟩ := HD.out (fun e => by rw [e] at hk; exact absurd hk (Nat.not_lt_zero _)); have HD2 := hh_ (db.grow hg2); clear db; have d1 : ((k : Int) == -1) = false := by first | (simp; done) | (simp; omega)
  have HK := hh_ (Vb hpos hy0 hw0); clear hpos hy0 hw0 H12; go_wp2
  go_loopw [5, 6] (fun a b wr => ∃ (n j : Nat) (M : List I), a = .int .i64 n /\ b = .int .i64 j /\ n < j /\ j <= L.length /\ M.length = L.length /\ YE wr g M /\ M.take n = (L.take j).filter P /\ M.drop j = L.drop j /\ GX g w wr) (fun _ b _ => L.length - (intOf b).toNat)
  case atStart => exact ⟨k, k + 1, L, rfl, by go_num, by omega, by omega, rfl, HD2.out, HK.out, rfl, (GX.refl g w).grow hg2⟩
  case round =>
   rename World => wr
   obtain ⟨n, j, M, rfl, rfl, hnj, hj, hM, hdb, htk, hdr, hgx⟩ := hrel; have HDB := hh_ hdb; have HT := hh_ (And.intro htk hdr); have GXX := hh_ hgx; clear htk hdr hgx
   by_cases hlt : j < L.length
   ·obtain ⟨y, hyk⟩ : ∃ y, M[j]? = some y := ⟨_, qQ_ uX_⟩
    have hyL : L[j]? = some y := by rw [<- UV HT.out.2]; exact hyk
    obtain ⟨c1, c2⟩ := hdb.at hyk; have HY := hh_ (And.intro hyk hyL); have cf := fun W (h : GX g w W) => HF.out y (qZ_ hyL) W h
    have b0 : (0 : Int) <= (j : Int) := by omega
    have b1 : (j : Int) < (L.length : Int) := by omega
    clear hyk hyL hdb; go_upto_region 8 with fail
    refine zc (fun Z => zb Z wr.heap.size 53 #[.slice y.A y.row.length y.cap, .int .i64 y.w] /\ za wr Z) ⟨zb.new _ _ _, (za.refl wr).al _⟩ ?_; rintro Z ⟨Bz, Gz⟩; have BZ := hh_ Bz; obtain ⟨bz, fz⟩ := Bz.rules; clear c1 c2 Bz; generalize wr.heap.size = gz at *
    by_cases hw : P y = false
    ·have NT := hh_ hw; simp only [hw, Bool.not_false] at cf; clear hw
     go_wp2_with (go_at_call 52; ((with_reducible refine (cf _ (GXX.out.grow Gz)).mono ?_); rintro e w3 ⟨rfl, hg3⟩))
     go_roundw
     case rel => exact ⟨n, j + 1, M, rfl, by go_num, by omega, by omega, hM, HDB.out.grow (Gz.trans hg3), by rw [HT.out.1]; exact (Va HY.out.2 NT.out).symm, LF HT.out.2, GXX.out.grow (Gz.trans hg3)⟩
     case measure => exact u1_
    ·have hw : P y = true := by simpa using hw
     have NT := hh_ hw; simp only [hw, Bool.not_true] at cf; clear hw; go_upto_region 9 with (go_at_call 52; ((with_reducible refine (cf _ (GXX.out.grow Gz)).mono ?_); rintro e w3 ⟨rfl, hg3⟩)); have db3 := HDB.out.grow (Gz.trans hg3); obtain ⟨x, hxn⟩ : ∃ x, M[n]? = some x := ⟨_, qQ_ uX_⟩
     obtain ⟨e1, e2⟩ := db3.at hxn; have f3 := db3.frozen; obtain ⟨bz3, fz3⟩ := (BZ.out.grow hg3).rules; have HDB3 := hh_ db3; have a0 : (0 : Int) <= (n : Int) := by omega
     have a1 : (n : Int) < (L.length : Int) := by omega
     have hnM : n < M.length := by omega
     clear hxn db3 bz fz; go_wp2; go_roundw
     case rel =>
      refine ⟨n + 1, j + 1, M.set n y, by go_num, by go_num, by omega, by omega, by rw [List.length_set]; exact hM, HDB3.out.put hnM y, ?_, ?_, ((GXX.out.grow (Gz.trans hg3)).set _ _).set _ _⟩
      ·rw [U9 HY.out.2 NT.out, <- HT.out.1]; exact Fc hnM y
      ·rw [List.drop_set_of_lt uX_]; exact LF HT.out.2
     case measure => exact u1_
   ·obtain rfl : j = L.length := by omega
    have fz := hdb.frozen
    have hcell : ∀ i, i < (L.length - n) * 2 -> (wr.cell? ⟨g, n * 2 + i, none⟩).isSome = true := fun i hi => by
     obtain ⟨x, hx⟩ : ∃ x, M[n + i / 2]? = some x := ⟨_, qQ_ uX_⟩
     obtain ⟨e1, e2⟩ := hdb.at hx; rcases (by omega : i % 2 = 0 \/ i % 2 = 1) with h | h
     ·rw [show n * 2 + i = (n + i / 2) * 2 by omega, e1]; rfl
     ·rw [show n * 2 + i = (n + i / 2) * 2 + 1 by omega, e2]; rfl
    have hcl : ∀ ty, (Builtin.clear_ #[25] ty #[.slice (some ⟨g, n * 2, none⟩) (L.length - n) (c - n)]).run Tryz.prog wr = .ok (.tuple #[]) (wr.setCells g (n * 2) (Builtin.zeroCells #[.slice none 0 0, .int .i64 0] (L.length - n)).toList) :=
     fun ty => Kk wr ty g (n * 2) (L.length - n) (c - n) uX_ hcell fz
    have a0 : (0 : Int) <= (n : Int) := by omega
    have a1 : (n : Int) <= (L.length : Int) := by omega
    have a2 : (L.length : Int) <= (c : Int) := by omega
    have a3 : (n : Int) <= (c : Int) := by omega
    have fin : M.take n = L.filter P := by
     have h := HT.out.1; rw [List.take_length] at h; exact h
    have FIN := hh_ fin; have ln : (L.filter P).length = n := by rw [<- fin, List.length_take]; omega
    have LN := hh_ ln; clear hcell fin ln hdb; go_wp2; go_ret; exact ⟨by rw [LN.out]; rfl, .inr ⟨by rw [<- FIN.out]; exact HDB.out.cleared uX_ _, Ww _ _ _ GXX.out⟩⟩
theorem VG {w : World} {base n s cap : Nat} {e : TypeId} {B : Option Addr} {xs : List Value} (h : w.ownsRow base e s (.slice B n cap) n xs) : (B = none /\ n = 0 /\ cap = 0) \/ ∃ g, B = some ⟨g, 0, none⟩ /\ base <= g := by
 rcases h.2 with ⟨e, h0⟩ | ⟨g, cap', cur, e, hB, _⟩
 ·simp at e; exact .inl ⟨e.1, h0, e.2.2⟩
 ·simp at e; exact .inr ⟨g, e.1, hB⟩
theorem HH {w : World} {base cap : Nat} {B : Option Addr} {xs : List I} (h : w.ownsRow base 53 2 (.slice B xs.length cap) xs.length (zr xs)) (hne : xs ≠ []) : ∃ g, B = some ⟨g, 0, none⟩ /\ YE w g xs := by
 rcases VG h with ⟨_, h0, _⟩ | ⟨g, rfl, _⟩
 ·exact absurd (List.length_eq_zero_iff.1 h0) hne
 ·exact ⟨g, rfl, (SL h).1⟩
def zR (k : Int) (f : Nat -> Int × Bool) : Nat -> Int × Bool
 | 0 => (0, true)
 | i + 1 => ((zR k f i).1 + (f i).1, (zR k f i).2 && (f i).2 && !(decide (k = 5) && decide (i = 1) && decide (0 < (f i).1)))
def Qs (k : Int) (r : Int × Bool) : Int × Bool :=
 (r.1, (if k = 2 \/ k = 3 \/ k = 4 \/ k = 5 then r.2 else if k = 9 then false else r.2 && decide (r.1 = 0)) && decide (r.1 <= 1))
def zA (t : Int) : PL -> Int × Bool
 | .leaf => (0, true)
 | .mk k n _ _ _ _ m _ kid => if k = 1 then (if n = t then 1 else 0, true) else Qs k (zR k (fun i => zA t (kid i)) m)
def jx (rows z : List Z) : List Z := z.filter (fun r => !decide (0 < zW rows r.1))
def U8 (all : List (List Int)) (q : PL) (data : List (List Z)) : Nat -> List Z -> List Z -> List Z × Int
 | 0, _, _ => ([], 10)
 | r + 1, rows, fresh =>
  if (xd all q data fresh).2 ≠ 0 then ([], (xd all q data fresh).2)
  else if jx rows (xd all q data fresh).1 = [] then (rows, 0)
  else if (yN rows (jx rows (xd all q data fresh).1)).2 ≠ 0 then ([], (yN rows (jx rows (xd all q data fresh).1)).2)
  else U8 all q data r (yN rows (jx rows (xd all q data fresh).1)).1 (jx rows (xd all q data fresh).1)
def jy (ts : List (List Int)) (p q : PL) (data : List (List Z)) : List Z × Int :=
 if xp ts p q data ≠ 0 then ([], xp ts p q data)
 else if zA ts.length q ≠ (1, true) then ([], 8)
 else if (xl ts p data).2 ≠ 0 then ([], (xl ts p data).2)
 else if (ye yM (xl ts p data).1).2 ≠ 0 then ([], (ye yM (xl ts p data).1).2)
 else U8 (ts ++ [(zn ts p).1]) q data 50 (ye yM (xl ts p data).1).1 (ye yM (xl ts p data).1).1
theorem J9 (r : List V) : zK r r = 0 := by have := yK r r; omega
theorem N0 {r : List V} : ∀ {z : List Z}, (∀ y ∈ z, zd y.1 ≠ zd r) -> zW z r = 0
 | [], _ => rfl
 | x :: z, h => by rw [zq, if_neg (h x uY_), N0 (fun y hy => h y uS_)]; rfl
theorem ZR {r : List V} {z : List Z} (h : zW z r ≠ 0) : ∃ y ∈ z, zd y.1 = zd r := by
 apply Classical.byContradiction; intro hn; exact h (N0 fun y hy e => hn ⟨y, hy, e⟩)
theorem Nm {c : List Int} {z : List Z} (h8 : c.length <= 8) (hf : jo c z) (hw : zC z = 0) : zo c z = 0 := by
 unfold zo; rw [if_neg uX_, if_neg (by rw [hw]; simp), Zr]; exact fun x hx => (y7 _ _).2 (hf x hx)
theorem CG {a b : List Z} (ha : yA a) (hb : yA b) (h : ∀ y ∈ a, zW b y.1 ≠ 0) : a.length <= b.length := by
 have nd : (a.map Prod.fst).Nodup := by
  unfold List.Nodup; rw [List.pairwise_map]; exact ha.up.imp (fun {p q} hab e => by rw [e, J9] at hab; omega)
 have sub : a.map Prod.fst ⊆ b.map Prod.fst := fun r hr => by
  obtain ⟨y, hy, rfl⟩ := List.mem_map.1 hr; obtain ⟨t, ht, e⟩ := ZR (h y hy); rw [hb.bare t ht, ha.bare y hy] at e; exact List.mem_map.2 ⟨t, ht, e⟩
 have h9 := List.Nodup.length_le_of_subset nd sub; simpa using h9
theorem Fj {l l' s : List Z} (hl : Xk l) (hl' : Xk l') (h : yy l' = (s, 0)) (h0 : ∀ u, 0 <= zW l u) (h1 : ∀ u, zW l u <= zW l' u) : yy l = (yE l, 0) := by
 obtain ⟨c', w', e'⟩ := qC hl' h; obtain ⟨c, e⟩ := yW l (fun x hx => (hl x hx).2); have sm := SM.of w'
 have pos : ∀ y ∈ yE l, 0 < y.2 /\ y.2 <= zW s y.1 := fun y hy => by
  have k1 := xj c y hy; have k2 := c.w y hy; have k3 := h0 y.1; have k4 := h1 y.1; rw [e] at k1; rw [e']; omega
 unfold yy; refine YR ?_ (fun y hy => ?_)
 ·have h2 := CG c c' (fun y hy => by have := pos y hy; omega); have h3 := sm.len; omega
 ·have k := pos y hy; have b := FN uX_ sm.rv sm.up sm.bd y.1; omega
structure RR (s a b : List Z) : Prop where
 ps : xh s
 pa : xh a
 pb : xh b
 wt : ∀ u, zW s u = zW a u + zW b u
theorem RR.sum {s a b : List Z} (h : RR s a b) {f : List V -> Int} (hf : KU f) : yn f s = yn f a + yn f b := by
 have := Fi hf (s := s) (a := a) (b := b) (n := 1) (fun q => by rw [h.wt]; omega); omega
theorem QC {L A B o : List Z} (kl : Xk L) (ka : Xk A) (kb : Xk B) (h : yy L = (o, 0)) (pa : ∀ u, 0 <= zW A u) (pb : ∀ u, 0 <= zW B u) (w : ∀ u, zW L u = zW A u + zW B u) : ∃ oa ob, yy A = (oa, 0) /\ yy B = (ob, 0) /\ RR o oa ob := by
 have e1 := Fj ka kl h pa (fun u => by have := pb u; rw [w]; omega); have e2 := Fj kb kl h pb (fun u => by have := pa u; rw [w]; omega); obtain ⟨c0, _, w0⟩ := qC kl h; obtain ⟨c1, _, w1⟩ := qC ka e1; obtain ⟨c2, _, w2⟩ := qC kb e2; exact ⟨_, _, e1, e2, qL c0 (fun u => by have := pa u; have := pb u; rw [w0, w]; omega), qL c1 (fun u => by rw [w1]; exact pa u), qL c2 (fun u => by rw [w2]; exact pb u), fun u => by rw [w0, w1, w2, w]⟩
section
variable {c l r : List Int} {x : E} {es : List E} {s a b q o : List Z}
theorem Si (t : RR s a b) (ia : zo c a = 0) (ib : zo c b = 0) (h : xE c x s = (o, 0)) : ∃ oa ob, xE c x a = (oa, 0) /\ xE c x b = (ob, 0) /\ RR o oa ob := by
 obtain ⟨h1, h2, h3⟩ := Zq h; have w : ∀ z u, zW (z.filter (fun r => yD x r.1)) u = if yD x u then zW z u else 0 := fun z u => kp _ (fun r q e => XG x e) u z
 have ok : ∀ {z : List Z}, zo c z = 0 -> Xk (z.filter (fun r => yD x r.1)) := fun hz => TP (D5 hz) (fun y hy => (List.mem_filter.1 hy).1)
 have e : ∀ {z : List Z}, zo c z = 0 -> xE c x z = yy (z.filter (fun r => yD x r.1)) := fun hz => by
  unfold xE; rw [if_neg (by rw [h1]; simp), if_neg (by rw [hz]; simp)]
 rw [e ia, e ib]; refine QC (ok h2) (ok ia) (ok ib) h3 (fun u => ?_) (fun u => ?_) (fun u => ?_)
 ·rw [w]; split; exact (yz t.pa u).1; decide
 ·rw [w]; split; exact (yz t.pb u).1; decide
 ·rw [w, w, w, t.wt]; split <;> simp
theorem GN (h : Xc c es s = (o, 0)) : (zB c es).2 = 0 /\ zo c s = 0 /\ yy (s.map (fun r => (yJ es r.1, r.2))) = (o, 0) := by
 unfold Xc at h; split at h
 ·exact u8_
 ·exact y2_
theorem GO (t : RR s a b) (ia : zo c a = 0) (ib : zo c b = 0) (h : Xc c es s = (o, 0)) : ∃ oa ob, Xc c es a = (oa, 0) /\ Xc c es b = (ob, 0) /\ RR o oa ob := by
 obtain ⟨h1, h2, h3⟩ := GN h; have nn : ∀ u r, 0 <= Vn es u r := fun u r => Jc u _
 have w : ∀ z u, zW (z.map (fun r => (yJ es r.1, r.2))) u = yn (Vn es u) z := fun z u => Tg (fun r => yJ es r) u z
 have e : ∀ {z : List Z}, zo c z = 0 -> Xc c es z = yy (z.map (fun r => (yJ es r.1, r.2))) := fun hz => by
  unfold Xc; rw [if_neg (by rw [h1]; simp), if_neg (by rw [hz]; simp)]; rfl
 rw [e ia, e ib]; refine QC (YZ h1 h2) (YZ h1 ia) (YZ h1 ib) h3 (fun u => ?_) (fun u => ?_) (fun u => ?_)
 ·have h9 := (yv (nn u) t.pa).1; rw [<- w] at h9; exact h9
 ·have h9 := (yv (nn u) t.pb).1; rw [<- w] at h9; exact h9
 ·have h9 := t.sum (Mg es u); rw [<- w, <- w, <- w] at h9; exact h9
theorem PI (h : qy l r x s q = (o, 0)) : qv l r x s q = 0 /\ yy (yS x s q) = (o, 0) := by
 unfold qy at h; split at h
 ·exact u8_
 ·rename_i h1; exact ⟨by simpa using h1, h⟩
theorem Wg {p : List Z} (h : qv l r x s q = 0) (hp : zo l a = 0) (hq : zo r b = 0) : qv l r x a b = 0 := by
 obtain ⟨h1, h2, h3, h4⟩ := xZ h; unfold qv; rw [if_neg uX_, h2, hp, hq]; rfl
theorem Ja (h : qv l r x a b = 0) : qy l r x a b = yy (yS x a b) := by
 unfold qy; rw [if_neg uM_]
theorem Sy (t : RR s a b) (ia : zo l a = 0) (ib : zo l b = 0) (pq : xh q) (h : qy l r x s q = (o, 0)) : ∃ oa ob, qy l r x a q = (oa, 0) /\ qy l r x b q = (ob, 0) /\ RR o oa ob := by
 obtain ⟨h1, h2⟩ := PI h; have iq := (xZ h1).2.2.2; have ta := Wg (p := s) h1 ia iq; have tb := Wg (p := s) h1 ib iq; have nn : ∀ (u p q : List V), 0 <= jR x u (p ++ q) := fun u p q => JO x u _
 have n1 : ∀ u p, 0 <= yn (fun q => jR x u (p ++ q)) q := fun u p => (yv (nn u p) pq).1
 rw [Ja ta, Ja tb]; refine QC (je h1) (je ta) (je tb) h2 (fun u => ?_) (fun u => ?_) (fun u => ?_)
 ·rw [qN]; exact (yv (n1 u) t.pa).1
 ·rw [qN]; exact (yv (n1 u) t.pb).1
 ·rw [qN, qN, qN]; exact t.sum (P8 x u q)
theorem Sz (t : RR s a b) (ia : zo r a = 0) (ib : zo r b = 0) (pq : xh q) (h : qy l r x q s = (o, 0)) : ∃ oa ob, qy l r x q a = (oa, 0) /\ qy l r x q b = (ob, 0) /\ RR o oa ob := by
 obtain ⟨h1, h2⟩ := PI h; have iq := (xZ h1).2.2.1; have ta := Wg (p := s) h1 iq ia; have tb := Wg (p := s) h1 iq ib; have nn : ∀ (u p q : List V), 0 <= jR x u (p ++ q) := fun u p q => JO x u _
 rw [Ja ta, Ja tb]; refine QC (je h1) (je ta) (je tb) h2 (fun u => ?_) (fun u => ?_) (fun u => ?_)
 ·rw [qN]; exact (yv (fun p => (yv (nn u p) t.pa).1) pq).1
 ·rw [qN]; exact (yv (fun p => (yv (nn u p) t.pb).1) pq).1
 ·rw [qN, qN, qN, <- MD]; exact Ta _ _ q (fun y _ => t.sum (Rb x u y.1))
theorem Fa (t : RR s a b) (ia : zo l a = 0) (ib : zo l b = 0) (h : qJ true l r x s q = (o, 0)) : ∃ oa ob, qJ true l r x a q = (oa, 0) /\ qJ true l r x b q = (ob, 0) /\ RR o oa ob := by
 have h1 := (XM h).1; have iq := (xZ h1).2.2.2; have ta := Wg (p := s) h1 ia iq; have tb := Wg (p := s) h1 ib iq; obtain ⟨e0, c0, _, w0⟩ := Qr (want := true) h1; obtain ⟨e1, c1, _, w1⟩ := Qr (want := true) ta; obtain ⟨e2, c2, _, w2⟩ := Qr (want := true) tb; rw [h] at e0; obtain rfl := (Prod.mk.inj e0).1; refine ⟨_, _, e1, e2, qL c0 (fun u => ?_), qL c1 (fun u => ?_), qL c2 (fun u => ?_), fun u => ?_⟩
 ·rw [w0]; split; exact (yz t.ps u).1; decide
 ·rw [w1]; split; exact (yz t.pa u).1; decide
 ·rw [w2]; split; exact (yz t.pb u).1; decide
 ·rw [w0, w1, w2, t.wt]; split <;> simp
end
/-! all rows are there -/
theorem kQ {z : List Z} (h : xh z) : MM z z := ⟨h, h, fun _ hu => hu⟩
theorem Qz {L o : List Z} (k : Xk L) (p : xh L) (h : yy L = (o, 0)) : xh o := by
 obtain ⟨c, _, w⟩ := qC k h; exact qL c (fun u => by rw [w]; exact (yz p u).1)
theorem VD {x : E} {n : Nat} {a b : List Z} (ha : xh a) (hb : xh b) : xh (jf n x a b) := fun y hy => by
 unfold jf at hy; rcases List.mem_append.1 hy with hy | hy
 ·obtain ⟨p, hp, q, hq, rfl⟩ := Xi hy; exact Int.mul_pos (ha p hp) (hb q hq)
 ·obtain ⟨p, hp, rfl⟩ := List.mem_map.1 hy; exact ha p (List.mem_filter.1 hp).1
theorem TR {k n : Int} {x : E} {xs : List E} {ag : List Ag} {cs : List (List Int)} {a b o : List Z} (hk : 2 <= k /\ k <= 13) (h9 : k ≠ 9) (ha : xh a) (hb : xh b) (h : X9 k n x xs ag cs [a, b] = (o, 0)) : xh o := by
 unfold X9 at h; simp only [List.getD_cons_zero, List.getD_cons_succ] at h
 by_cases k2 : k = 2
 ·rw [if_pos k2] at h; exact (UZ (kQ ha) h h).1
 rw [if_neg k2] at h
 by_cases k3 : k = 3
 ·rw [if_pos k3] at h; exact (zbe (kQ ha) h h).1
 rw [if_neg k3] at h
 by_cases k4 : k = 4
 ·rw [if_pos k4] at h; exact (GJ (kQ ha) (kQ hb) h h).1
 rw [if_neg k4] at h
 have part : ∀ {want : Bool}, qJ want (cs.getD 0 []) (cs.getD 1 []) x a b = (o, 0) -> xh o := fun {want} h => by
  obtain ⟨e0, c0, _, w0⟩ := Qr (want := want) (XM h).1; rw [h] at e0; obtain rfl := (Prod.mk.inj e0).1; exact qL c0 (fun u => by rw [w0]; split; exact (yz ha u).1; decide)
 by_cases k5 : k = 5
 ·rw [if_pos k5] at h; exact part h
 rw [if_neg k5] at h
 by_cases k6 : k = 6
 ·rw [if_pos k6] at h; exact part h
 rw [if_neg k6] at h
 by_cases k7 : k = 7
 ·rw [if_pos k7] at h; unfold Qj at h; split at h
  ·exact u8_
  ·rename_i h1; exact Qz (Mk uB_) (VD ha hb) h
 rw [if_neg k7] at h
 by_cases k8 : k = 8
 ·rw [if_pos k8] at h; exact (zaW (kQ ha) (kQ hb) h h).1
 rw [if_neg k8, if_neg h9] at h
 by_cases k10 : k = 10
 ·rw [if_pos k10] at h; exact (zbC (kQ ha).2.2 h h).1
 rw [if_neg k10] at h
 by_cases k11 : k = 11
 ·rw [if_pos k11] at h; exact (za2 (kQ ha).2.2 h h).1
 rw [if_neg k11] at h
 by_cases k12 : k = 12
 ·rw [if_pos k12] at h; obtain ⟨g, e⟩ := Su h; have ok := g.rows (l := xG xs a) (fun q hq => hq); obtain ⟨c, w⟩ := yW (Ss xs ag a) (fun x hx => (ok.1 x hx).2); rw [<- e] at c w; refine qL c (fun u => ?_); rw [w]; exact (yz (fun y hy => by obtain ⟨q, _, rfl⟩ := List.mem_map.1 hy; exact (by decide : (0 : Int) < 1)) u).1
 rw [if_neg k12] at h; have h := h; unfold Li at h; split at h
 ·exact u8_
 ·split at h
  ·simp at h
  ·split at h
   ·exact wg_
   ·rename_i h2; have h2 : zo (cs.getD 0 []) a = 0 := by simpa using h2
    have smz := SM.of (zE h2).2.1
    have src : ∀ x ∈ XW xs (yP xy a), Xk [x] /\ 0 < x.2 := fun x hx => by
     have hm := (kG xs (yP xy a)).mem_iff.1 hx; obtain ⟨⟨r, hr, e⟩, hne⟩ := xX hm; refine ⟨fun y hy => by rw [List.mem_singleton.1 hy]; exact Qp smz.ok xy x hm, ?_⟩; have := ha r hr; rw [e] at hne ⊢; simp only [xy] at hne ⊢; rw [if_neg uX_]; omega
    refine Qz (fun y hy => ?_) (fun y hy => ?_) h
    ·exact xY_
    ·obtain ⟨x, hx, e, h3, _⟩ := ko (fun x hx => (src x hx).2) hy; exact h3
/-! plans -/
theorem XN (k : Int) {f : Nat -> Int × Bool} (h : ∀ i, 0 <= (f i).1) : ∀ m, 0 <= (zR k f m).1
 | 0 => by simp [zR]
 | m + 1 => by have := XN k h m; have := h m; simp only [zR]; omega
theorem Xn (t : Int) (p : PL) : 0 <= (zA t p).1 := by
 induction p with
 | leaf => simp [zA]
 | mk k n x xs ag A m cap kid ih =>
  unfold zA; split
  ·simp only; split <;> decide
  ·exact XN k ih m
theorem Zz {k : Int} {m : Nat} (hm : (m : Int) = zJ k) (h0 : 0 <= zJ k) (k1 : k ≠ 1) : 2 <= k /\ k <= 13 /\ ((m = 1 /\ (k = 2 \/ k = 3 \/ k = 10 \/ k = 11 \/ k = 12 \/ k = 13)) \/ (m = 2 /\ (k = 4 \/ k = 5 \/ k = 6 \/ k = 7 \/ k = 8 \/ k = 9))) := by
 unfold zJ at hm h0
 repeat' split at hm
 all_goals (repeat' split at h0) <;> omega
section
variable {ts : List (List Int)} {data : List (List Z)}
theorem Fo {n : Int} {x : E} {xs : X5} {ag : XY} {A : Option Addr} {m cap : Nat} {kid : Nat -> PL} (h : (zn ts (.mk 1 n x xs ag A m cap kid)).2 = 0) : 0 <= n /\ n.toNat < ts.length := by
 have h1 := (yZ h).2.2; unfold zH at h1; rw [if_pos rfl] at h1; split at h1
 ·simp at h1
 ·rename_i h2; simp at h2; omega
theorem L6 (a : List Z) (i : Nat) (h : i ≠ data.length) (b : List Z) : (data ++ [a]).getD i [] = (data ++ [b]).getD i [] := by
 rw [List.getD_eq_getElem?_getD, List.getD_eq_getElem?_getD, List.getElem?_append, List.getElem?_append]
 by_cases hi : i < data.length
 ·rw [if_pos hi, if_pos hi]
 ·rw [if_neg hi, if_neg hi]; obtain ⟨j, hj⟩ : ∃ j, i - data.length = j + 1 := ⟨i - data.length - 1, by omega⟩
  rw [hj]; rfl
theorem YX (a : List Z) : (data ++ [a]).getD data.length [] = a := by
 rw [List.getD_eq_getElem?_getD, List.getElem?_append, if_neg uX_, Nat.sub_self]; rfl
theorem XO (a b : List Z) (p : PL) : (zA (data.length : Int) p).1 = 0 -> (zn ts p).2 = 0 -> zZ ts (data ++ [a]) p = zZ ts (data ++ [b]) p := by
 induction p with
 | leaf => intro _ _; rfl
 | mk k n x xs ag A m cap kid ih =>
  intro h0 hc; unfold zZ
  by_cases k1 : k = 1
  ·subst k1; have hn := Fo hc; unfold zA at h0; rw [if_pos rfl] at h0; rw [if_pos rfl, if_pos rfl]; have : n ≠ (data.length : Int) := fun e => by rw [if_pos e] at h0; simp at h0
   rw [L6 a n.toNat uX_ b]
  ·rw [if_neg k1, if_neg k1]; unfold zA at h0; rw [if_neg k1] at h0; have nn : ∀ i, 0 <= (zA (data.length : Int) (kid i)).1 := fun i => Xn _ _
   have h0 : (zR k (fun i => zA (data.length : Int) (kid i)) m).1 = 0 := h0
   have each : ∀ m', (zR k (fun i => zA (data.length : Int) (kid i)) m').1 = 0 -> ∀ i, i < m' -> (zA (data.length : Int) (kid i)).1 = 0 := fun m' => by
    induction m' with
    | zero => exact fun _ i hi => absurd hi (Nat.not_lt_zero _)
    | succ m' ih2 =>
     intro h i hi; simp only [zR] at h; have h1 := XN k (f := fun i => zA (data.length : Int) (kid i)) nn m'; have h2 := nn m'
     by_cases e : i = m'
     ·subst e; omega
     ·exact ih2 uX_ i uX_
   have e := WC (f := fun i => zZ ts (data ++ [a]) (kid i)) (g := fun i => zZ ts (data ++ [b]) (kid i)) m 0 [] (fun j _ hj => ih j (each m h0 j uX_) (yp hc uX_)); rw [e]
theorem Rc {t : Int} (hd : ∀ i, xh (data.getD i [])) (ho : Zj data) (p : PL) : (zA t p).2 = true -> (zn ts p).2 = 0 -> ∀ o, zZ ts data p = (o, 0) -> xh o := by
 induction p with
 | leaf => intro _ h; exact absurd rfl (yY h)
 | mk k n x xs ag A m cap kid ih =>
  intro hp hc o h; obtain ⟨hm, hk0, _⟩ := yZ hc
  by_cases k1 : k = 1
  ·subst k1; unfold zZ at h; rw [if_pos rfl] at h
   have ok : Xk (data.getD n.toNat []) := by
    rw [List.getD_eq_getElem?_getD]; cases hi : data[n.toNat]? with
    | none => exact fun x hx => by simp at hx
    | some z => exact (SM.of (ho z (qZ_ hi))).ok
   exact Qz ok (hd _) h
  ·obtain ⟨h2, h13, hkm⟩ := Zz hm hk0 k1; unfold zA at hp; rw [if_neg k1] at hp; unfold Qs at hp; simp only at hp; rw [Bool.and_eq_true] at hp; have h9 : k ≠ 9 := fun e => by subst e; simp at hp
   have hp2 : (zR k (fun i => zA t (kid i)) m).2 = true := by
    have h := hp.1; rw [if_neg h9] at h
    by_cases h3 : k = 2 \/ k = 3 \/ k = 4 \/ k = 5
    ·rw [if_pos h3] at h; exact h
    ·rw [if_neg h3, Bool.and_eq_true] at h; exact h.1
   rcases hkm with ⟨rfl, _⟩ | ⟨rfl, _⟩
   ·simp only [zR, Bool.and_eq_true] at hp2; obtain ⟨a, ha, h1⟩ := Kd k1 h; have pa := ih 0 hp2.1.2 (yp hc uX_) a ha; have h1' : X9 k n x xs.l ag.l [(zn ts (kid 0)).1] [a, []] = (o, 0) := by rw [<- h1]; unfold X9; simp only [List.getD_cons_zero, List.getD_cons_succ]; rfl
    exact TR ⟨h2, h13⟩ h9 pa (fun y hy => by simp at hy) h1'
   ·simp only [zR, Bool.and_eq_true] at hp2; obtain ⟨a, b, ha, hb, h1⟩ := Ke k1 h; exact TR ⟨h2, h13⟩ h9 (ih 0 hp2.1.1.1.2 (yp hc uX_) a ha) (ih 1 hp2.1.2 (yp hc uX_) b hb) h1
theorem Wq {C : List Int} {z : List Z} : ∀ (ts : List (List Int)) (data : List (List Z)), data.length = ts.length -> y6 (ts ++ [C]) (data ++ [z]) = 0 -> y6 ts data = 0 /\ zo C z = 0
 | [], [], _, h => by
  simp only [List.nil_append, y6] at h; refine ⟨rfl, ?_⟩; split at h
  ·exact h
  ·rename_i h1; simpa using h1
 | [], _ :: _, h, _ => by simp at h
 | _ :: _, [], h, _ => by simp at h
 | c :: cs, y :: ys, h, h0 => by
  simp only [List.cons_append, y6] at h0 ⊢; split at h0
  ·exact xZ_
  ·rename_i h1; obtain ⟨h2, h3⟩ := Wq cs ys uI_ h0; rw [if_neg h1]; exact ⟨h2, h3⟩
theorem Jx {C : List Int} {z : List Z} : ∀ (ts : List (List Int)) (data : List (List Z)), data.length = ts.length -> y6 ts data = 0 -> zo C z = 0 -> y6 (ts ++ [C]) (data ++ [z]) = 0
 | [], [], _, _, h => by simp only [List.nil_append, y6]; rw [h]; rfl
 | [], _ :: _, h, _, _ => by simp at h
 | _ :: _, [], h, _, _ => by simp at h
 | c :: cs, y :: ys, h, h0, h9 => by
  simp only [List.cons_append, y6] at h0 ⊢; split at h0
  ·exact xZ_
  ·rename_i h1; rw [if_neg h1]; exact Jx cs ys uI_ h0 h9
theorem Sc {C : List Int} {z : List Z} (h : yO (ts ++ [C]) (data ++ [z]) = 0) : data.length = ts.length /\ zo C z = 0 /\ ∀ y, zo C y = 0 -> yO (ts ++ [C]) (data ++ [y]) = 0 := by
 unfold yO at h; split at h
 ·simp at h
 ·rename_i h1; have hl : data.length = ts.length := by simpa using h1
  obtain ⟨h2, h3⟩ := Wq ts data hl h; refine ⟨hl, h3, fun y hy => ?_⟩; unfold yO; rw [if_neg (by simp [hl])]; exact Jx ts data hl h2 hy
theorem Kc {k n : Int} {x : E} {xs : X5} {ag : XY} {A : Option Addr} {cap : Nat} {kid : Nat -> PL} (k1 : k ≠ 1) {d : List (List Z)} {z : List Z} (hz : zZ ts d (kid 0) = (z, 0)) : zZ ts d (.mk k n x xs ag A 1 cap kid) = X9 k n x xs.l ag.l [(zn ts (kid 0)).1] [z] := by
 conv => lhs; unfold zZ
 rw [if_neg k1]; simp only [xD, hz]; simp
theorem Yq {k n : Int} {x : E} {xs : X5} {ag : XY} {A : Option Addr} {cap : Nat} {kid : Nat -> PL} (k1 : k ≠ 1) {d : List (List Z)} {z y : List Z} (hz : zZ ts d (kid 0) = (z, 0)) (hy : zZ ts d (kid 1) = (y, 0)) : zZ ts d (.mk k n x xs ag A 2 cap kid) = X9 k n x xs.l ag.l [(zn ts (kid 0)).1, (zn ts (kid 1)).1] [z, y] := by
 conv => lhs; unfold zZ
 rw [if_neg k1]; simp only [xD, hz, hy]; simp; rfl
theorem Ev {s a b : List Z} (hs : yO ts (data ++ [s]) = 0) (ha : yO ts (data ++ [a]) = 0) (hb : yO ts (data ++ [b]) = 0) (t : RR s a b) (pd : ∀ i, xh (data.getD i [])) (p : PL) :
  zA (data.length : Int) p = (1, true) -> (zn ts p).2 = 0 -> ∀ o, zZ ts (data ++ [s]) p = (o, 0) -> ∃ oa ob, zZ ts (data ++ [a]) p = (oa, 0) /\ zZ ts (data ++ [b]) p = (ob, 0) /\ RR o oa ob := by
 have pds : ∀ i, xh ((data ++ [s]).getD i []) := fun i => by
  by_cases h : i = data.length
  ·subst h; rw [YX]; exact t.ps
  ·rw [L6 s i h []]; rw [List.getD_eq_getElem?_getD, List.getElem?_append]; have := pd i; rw [List.getD_eq_getElem?_getD] at this; split
   ·exact this
   ·obtain ⟨j, hj⟩ : ∃ j, i - data.length = j + 1 := ⟨i - data.length - 1, by omega⟩
    rw [hj]; exact fun y hy => by simp at hy
 induction p with
 | leaf => intro _ h; exact absurd rfl (yY h)
 | mk k n x xs ag A m cap kid ih =>
  intro hp hc o h; obtain ⟨hm, hk0, _⟩ := yZ hc; have inp : ∀ {d : List (List Z)}, yO ts d = 0 -> ∀ {q : PL} {z : List Z}, (zn ts q).2 = 0 -> zZ ts d q = (z, 0) -> zo (zn ts q).1 z = 0 := fun {d} hd {q z} hq hz => Nm (ju ts q) (Eu hd q hq z hz) (ZD (YN hd) q (yY hq) hz).2
  by_cases k1 : k = 1
  ·subst k1; have hn := Fo hc; unfold zA at hp; rw [if_pos rfl] at hp
   have e : n = (data.length : Int) := by
    apply Classical.byContradiction; intro hne; rw [if_neg hne] at hp; simp at hp
   have e2 : n.toNat = data.length := by omega
   unfold zZ at h ⊢; rw [if_pos rfl, e2, YX] at h; rw [if_pos rfl, if_pos rfl, e2, YX, YX]; have okd : ∀ {z : List Z}, yO ts (data ++ [z]) = 0 -> Xk z := fun {z} hz => (SM.of (YN hz z uY_)).ok
   exact QC (okd hs) (okd ha) (okd hb) h (fun u => (yz t.pa u).1) (fun u => (yz t.pb u).1) t.wt
  ·obtain ⟨h2, h13, hkm⟩ := Zz hm hk0 k1; have pl := hp; unfold zA at hp; rw [if_neg k1] at hp; unfold Qs at hp; obtain ⟨hp1, hp2⟩ := Prod.mk.inj hp; rw [Bool.and_eq_true] at hp2; have hp2 := hp2.1; rcases hkm with ⟨rfl, hk⟩ | ⟨rfl, hk⟩
   ·obtain ⟨q, hq, h1⟩ := Kd k1 h
    have kk : (k = 2 \/ k = 3) /\ zA (data.length : Int) (kid 0) = (1, true) := by
     simp only [zR, Bool.true_and, Int.zero_add] at hp1 hp2
     have : k = 2 \/ k = 3 := xi_
     refine ⟨this, Prod.ext hp1 ?_⟩; rw [if_pos uX_, Bool.and_eq_true] at hp2; exact hp2.1
    have h0 := yp hc (i := 0) uX_; obtain ⟨qa, qb, e1, e2, tq⟩ := ih 0 kk.2 h0 q hq; have ia := inp ha h0 e1; have ib := inp hb h0 e2; rw [Kc k1 e1, Kc k1 e2]; rcases kk.1 with rfl | rfl
    ·exact Si tq ia ib h1
    ·exact GO tq ia ib h1
   ·obtain ⟨q, v, hq, hv, h1⟩ := Ke k1 h; have h0 := yp hc (i := 0) uX_; have h0' := yp hc (i := 1) uX_; have n0 := Xn (data.length : Int) (kid 0); have n1 := Xn (data.length : Int) (kid 1); simp only [zR, Bool.true_and, Int.zero_add] at hp1 hp2
    have hk45 : k = 4 \/ k = 5 := xi_
    rw [if_pos uX_] at hp2; simp only [Bool.and_eq_true] at hp2; obtain ⟨⟨⟨b0, _⟩, b1⟩, b5⟩ := hp2
    by_cases c1 : (zA (data.length : Int) (kid 0)).1 = 1
    ·have c2 : (zA (data.length : Int) (kid 1)).1 = 0 := by omega
     obtain ⟨qa, qb, e1, e2, tq⟩ := ih 0 (Prod.ext c1 b0) h0 q hq; have ia := inp ha h0 e1; have ib := inp hb h0 e2; have v1 := (XO a s (kid 1) c2 h0').trans hv; have v2 := (XO b s (kid 1) c2 h0').trans hv; have pv := Rc pds (YN hs) (kid 1) b1 h0' v hv; rw [Yq k1 e1 v1, Yq k1 e2 v2]; rcases hk45 with rfl | rfl
     ·exact Sy tq ia ib pv h1
     ·exact Fa tq ia ib h1
    ·have c2 : (zA (data.length : Int) (kid 1)).1 = 1 := by omega
     have c1 : (zA (data.length : Int) (kid 0)).1 = 0 := by omega
     obtain ⟨qa, qb, e1, e2, tq⟩ := ih 1 (Prod.ext c2 b1) h0' v hv; have ia := inp ha h0' e1; have ib := inp hb h0' e2; have v1 := (XO a s (kid 0) c1 h0).trans hq; have v2 := (XO b s (kid 0) c1 h0).trans hq; have pv := Rc pds (YN hs) (kid 0) b0 h0 q hq; rw [Yq k1 v1 e1, Yq k1 v2 e2]; rcases hk45 with rfl | rfl
     ·exact Sz tq ia ib pv h1
     ·simp [c2] at b5
/-! steps -/
theorem D1.le {z : List Z} (h : D1 z) (u : List V) : 0 <= zW z u := by rcases h.o u with e | e <;> rw [e] <;> decide
theorem D1.fit {C : List Int} {z y : List Z} (hz : D1 z) (hy : D1 y) (h : ∀ u, zW y u <= zW z u) (hi : zo C z = 0) : zo C y = 0 := by
 refine Nm (zE hi).1 (fun x hx => ?_) hy.w; have h1 : zW y x.1 = 1 := by rw [xj hy.c x hx]; exact hy.one hx
 have h2 := h x.1; obtain ⟨t, ht, e⟩ := ZR (r := x.1) (z := z) uX_; rw [hz.c.bare t ht, hy.c.bare x hx] at e; rw [<- e]; exact W6 hi t ht
theorem SI {rows z : List Z} (h : D1 z) : D1 (jx rows z) /\ ∀ u, zW (jx rows z) u = if 0 < zW rows u then 0 else zW z u := by
 have w : ∀ u, zW (jx rows z) u = if 0 < zW rows u then 0 else zW z u := fun u => by
  unfold jx; rw [kp (fun r => !decide (0 < zW rows r)) (fun r q e => by rw [Xw rows e]) u]
  by_cases h1 : 0 < zW rows u <;> simp [h1]
 have c : yA (jx rows z) := ⟨h.c.up.filter _, fun y hy => h.c.rv y (List.mem_filter.1 hy).1, fun y hy => h.c.bare y (List.mem_filter.1 hy).1, fun y hy => h.c.w y (List.mem_filter.1 hy).1⟩
 refine ⟨⟨c, ?_, fun u => ?_⟩, w⟩
 ·have sm := SM.of h.w; exact (SM.mk (M := 1000000) (N := 400) (fun y hy => sm.ok y (List.mem_filter.1 hy).1) c.up c.w (fun y hy => sm.bd y (List.mem_filter.1 hy).1) (Nat.le_trans (List.length_filter_le _ _) sm.len)).rz uX_ uX_
 ·rw [w]; split
  ·exact .inl rfl
  ·exact h.o u
theorem Da {z : List Z} (h : D1 z) : ye yM z = (z, 0) := by
 obtain ⟨s, e, c, _, w⟩ := QN (SM.of h.w) uX_ uX_ uX_; rw [e, jt s z c h.c fun u _ => by rw [w]; rcases h.o u with e1 | e1 <;> rw [e1] <;> rfl]
theorem MB (z : List Z) : XV z z = true := decide_eq_true rfl
theorem Dp {C : List Int} {q : PL} (hl : data.length = ts.length) (pq : zA (ts.length : Int) q = (1, true)) (pd : ∀ i, xh (data.getD i [])) : ∀ (r : Nat) (n : Int) (rows fresh : List Z) {z : List Z} {m : Int}, D1 rows -> D1 fresh ->
  (fresh = rows \/ ∃ old, D1 old /\ (∀ u, zW rows u = zW old u + zW fresh u) /\ ∃ d, xd (ts ++ [C]) q data old = (d, 0) /\ ∀ u, 0 < zW d u -> 0 < zW rows u) ->
  K8 (ts ++ [C]) q data r n rows = (z, m, 0) -> U8 (ts ++ [C]) q data r rows fresh = (z, 0)
 | 0, n, rows, fresh, z, m, _, _, _, h => by simp [K8] at h
 | r + 1, n, rows, fresh, z, m, hr, hf, inv, h => by
  unfold K8 at h; split at h
  ·exact xL_
  rename_i h1; split at h
  ·exact xM_
  rename_i h2; obtain ⟨d, hd⟩ : ∃ d, xd (ts ++ [C]) q data rows = (d, 0) := ⟨_, Prod.ext rfl uB_⟩
  rw [hd] at h h2; obtain ⟨S, hS⟩ : ∃ S, yN rows d = (S, 0) := ⟨_, Prod.ext rfl uE_⟩
  simp only [hS] at h; obtain ⟨dS, wS⟩ := YQ hS; obtain ⟨o, ho, hdo⟩ := Qo hd; obtain ⟨dd, wd⟩ := jb hdo
  -- what is new makes
  have nf : ∃ df, xd (ts ++ [C]) q data fresh = (df, 0) /\ D1 df /\ (∀ u, 0 < zW df u -> 0 < zW d u) /\ ∀ u, 0 < zW d u -> 0 < zW df u \/ 0 < zW rows u := by
   rcases inv with rfl | ⟨old, ho1, hw, d0, hd0, hsub⟩
   ·exact ⟨d, hd, dd, fun _ h => h, fun _ h => .inl h⟩
   ·obtain ⟨c1, c2, c3⟩ := Df ho; obtain ⟨_, e2, e3⟩ := Sc c2; have iold := hr.fit ho1 (fun u => by have := hf.le u; have := hw u; omega) e2; have ifr := hr.fit hf (fun u => by have := ho1.le u; have := hw u; omega) e2; have tr : RR rows old fresh := ⟨hr.pos, ho1.pos, hf.pos, hw⟩
    obtain ⟨oa, ob, p1, p2, tt⟩ := Ev c2 (e3 _ iold) (e3 _ ifr) tr pd q (by rw [hl]; exact pq) c1 o c3
    have ev : ∀ {y oo : List Z}, zo C y = 0 -> zZ (ts ++ [C]) (data ++ [y]) q = (oo, 0) -> xl (ts ++ [C]) q (data ++ [y]) = (oo, 0) := fun {y oo} hy hp => by
     unfold xl; rw [if_neg (by rw [c1]; simp), if_neg (by rw [e3 y hy]; simp), hp]
    have v1 := ev iold p1; have v2 := ev ifr p2; obtain ⟨df, hdf, _, _, wdf⟩ := QN (SM.of (Qd v2).2) uX_ uX_ uX_
    have k2 : xd (ts ++ [C]) q data fresh = (df, 0) := by
     unfold xd; rw [v2, if_neg uY_]; exact hdf
    obtain ⟨oo, hoo, hd0'⟩ := Qo hd0; rw [v1] at hoo; obtain rfl := (Prod.mk.inj hoo).1; have w0 := (jb hd0').2; have pp : ∀ n : Int, 0 < yM n ↔ 0 < n := fun n => by unfold yM; split <;> omega
    refine ⟨df, k2, (jb hdf).1, fun u hu => ?_, fun u hu => ?_⟩
    ·rw [wdf, pp] at hu; rw [wd, pp, tt.wt]; have := (yz tt.pa u).1; omega
    ·rw [wd, pp, tt.wt] at hu; have k3 := (yz tt.pa u).1; have k4 := (yz tt.pb u).1; rcases Int.lt_or_le 0 (zW ob u) with h5 | h5
     ·left; rw [wdf, pp]; exact h5
     ·right; exact hsub u (by rw [w0, pp]; omega)
  obtain ⟨df, kf, ddf, s1, s2⟩ := nf; obtain ⟨dn, wn⟩ := SI (rows := rows) ddf; unfold U8; rw [kf]; simp only [ne_eq, not_true_eq_false, if_false]
  by_cases hn : jx rows df = []
  ·rw [if_pos hn]
   have hd0 : ∀ u, 0 < zW df u -> 0 < zW rows u := fun u hu => by
    apply Classical.byContradiction; intro hne; have := wn u; rw [hn, if_neg hne, qM] at this; omega
   have e : S = rows := jt _ _ dS.c hr.c fun u _ => by
    rw [wS]; rcases hr.o u with e1 | e1
    ·rcases dd.o u with e2 | e2
     ·rw [e1, e2]; rfl
     ·rcases s2 u uX_ with h5 | h5
      ·have := hd0 u h5; omega
      ·omega
    ·have := dd.le u; rw [e1]; unfold yM; rw [if_pos uX_]
   rw [e, if_pos (MB rows)] at h; obtain rfl : rows = z := congrArg (fun x => x.1) h; rfl
  ·rw [if_neg hn]
   have hne : ¬ XV S rows = true := fun hs => by
    have e := NJ dS hr hs; obtain ⟨y, l, hy⟩ := List.exists_cons_of_ne_nil hn; have hm : y ∈ jx rows df := by rw [hy]; simp
    have k1 : zW (jx rows df) y.1 = 1 := by rw [xj dn.c y hm]; exact dn.one hm
    have k2 := wn y.1; rw [k1] at k2; split at k2
    ·omega
    ·rename_i k3; have k4 := s1 y.1 uX_; have k5 := wS y.1; have k6 := hr.le y.1; rw [e] at k5; unfold yM at k5; rw [if_pos uX_] at k5; omega
   rw [if_neg hne] at h
   have wt : ∀ u, zW rows u + zW (jx rows df) u = zW S u := fun u => by
    rw [wn, wS]; rcases hr.o u with e1 | e1
    ·rw [e1, if_neg uX_]; rcases dd.o u with e2 | e2
     ·rcases ddf.o u with e3 | e3
      ·rw [e2, e3]; rfl
      ·have := s1 u uX_; omega
     ·rcases s2 u uX_ with h5 | h5
      ·rcases ddf.o u with e3 | e3
       ·omega
       ·rw [e2, e3]; rfl
      ·omega
    ·have := dd.le u; rw [e1, if_pos uX_]; unfold yM; rw [if_pos uX_]; rfl
   have eb : yN rows (jx rows df) = (S, 0) := by
    have e1 := CA (a := rows) (b := jx rows df) (t := S) (n := 1) hr.w dn.w dS.c dS.w (fun u => by have := wt u; omega); unfold yN; rw [e1, if_neg uY_]; exact Da dS
   rw [eb]; simp only [ne_eq, not_true_eq_false, if_false]; refine Dp hl pq pd r (n + 1) S (jx rows df) dS dn (.inr ⟨rows, hr, fun u => (wt u).symm, d, hd, fun u hu => ?_⟩) h; rw [wS]; have := hr.le u; unfold yM; rw [if_pos uX_]; decide
theorem Ms {p q : PL} {z : List Z} {m : Int} (hf : Zs ts p q data = (z, m, 0)) (hp : zA (ts.length : Int) q = (1, true)) (pd : ∀ z ∈ data, xh z) : jy ts p q data = (z, 0) := by
 obtain ⟨hw, f, g, h1, h2, h3⟩ := Dl hf
 have hl : data.length = ts.length := by
  obtain ⟨_, hd, _⟩ := Df h1; unfold yO at hd; split at hd
  ·simp at hd
  ·rename_i h4; simpa using h4
 have dg := (jb h2).1
 have pd' : ∀ i, xh (data.getD i []) := fun i => by
  rw [List.getD_eq_getElem?_getD]; cases hi : data[i]? with
  | none => exact fun y hy => by simp at hy
  | some z => exact pd z (qZ_ hi)
 unfold jy; rw [if_neg (by rw [hw]; simp), if_neg (by rw [hp]; simp), h1]; simp only [ne_eq, not_true_eq_false, if_false]; rw [h2]; simp only [ne_eq, not_true_eq_false, if_false]; exact Dp hl hp pd' 50 1 g g dg dg (.inl rfl) h3
theorem VO {p q : PL} (h : xp ts p q data ≠ 0) : jy ts p q data = ([], xp ts p q data) := by
 unfold jy; rw [if_pos h]
theorem VQ {p q : PL} (h : xp ts p q data = 0) (hp : zA (ts.length : Int) q ≠ (1, true)) : jy ts p q data = ([], 8) := by
 unfold jy; rw [if_neg uM_, if_pos hp]
end
theorem Fw {ts : List (List Int)} {t : Int} (p : PL) : ∀ d m, (zU ts p d m).2.1 = 0 -> (zA t p).1 + m <= (zU ts p d m).2.2 := by
 induction p with
 | leaf => intro d m h; unfold zU at h; split at h <;> simp at h
 | mk k n x xs ag A mm cap kid ih =>
  intro d m h
  by_cases h1 : 60 < m + 1 \/ 15 < d
  ·unfold zU at h; rw [if_pos h1] at h; simp at h
  by_cases h2 : zJ k < 0
  ·exact yP_
  by_cases h3 : (mm : Int) = zJ k
  ·rw [xW ts k n x xs ag A mm cap kid d m h1 uX_ h3] at h ⊢; unfold qw at h ⊢; split at h
   ·rename_i h0; exact absurd h h0
   rename_i h0; rw [if_neg h0]; have h0 : (zS (fun i m' => zU ts (kid i) (d + 1) m') mm 0 (m + 1) []).1 = 0 := by simpa using h0
   show _ <= (zS (fun i m' => zU ts (kid i) (d + 1) m') mm 0 (m + 1) []).2.1
   by_cases k1 : k = 1
   ·subst k1; obtain rfl : mm = 0 := by unfold zJ at h3; simp at h3; omega
    unfold zA; rw [if_pos rfl]; simp only [zS]; split <;> omega
   ·have e : (zA t (.mk k n x xs ag A mm cap kid)).1 = (zR k (fun i => zA t (kid i)) mm).1 := by
     conv => lhs; unfold zA
     rw [if_neg k1]; rfl
    rw [e]; rcases (Zz h3 uX_ k1).2.2 with ⟨rfl, _⟩ | ⟨rfl, _⟩
    ·unfold zS at h0 ⊢; split at h0
     ·rename_i h4; have i0 := ih 0 (d + 1) (m + 1) h4; rw [if_pos h4]; simp only [zS, zR]; omega
     ·rename_i h4; exact absurd h0 h4
    ·unfold zS at h0 ⊢; split at h0
     ·rename_i h4; have i0 := ih 0 (d + 1) (m + 1) h4; rw [if_pos h4]; unfold zS at h0 ⊢; split at h0
      ·rename_i h5; have i1 := ih 1 (d + 1) _ h5; rw [if_pos h5]; simp only [zS, zR]; simp only [Nat.zero_add] at i1 h5 ⊢; omega
      ·rename_i h5; exact absurd h0 h5
     ·rename_i h4; exact absurd h0 h4
  ·exact yx_
theorem Rx {ts : List (List Int)} {t : Int} {p : PL} (h : (zn ts p).2 = 0) : (zA t p).1 <= 60 := by
 unfold zn at h; split at h
 ·simp at h
 ·split at h
  ·exact wX_
  ·split at h
   ·rename_i h3; exact absurd h h3
   ·rename_i h3; have h3 : (zU ts p 1 0).2.1 = 0 := by simpa using h3
    have h4 := Fw (t := t) p 1 0 h3; have h5 := (W4 ts p 1 0 uX_).2.2 h3; omega
theorem ZC {k : Int} {f : Nat -> Int × Bool} (h : ∀ i, 0 <= (f i).1) : ∀ {m j : Nat}, j <= m -> (zR k f j).1 <= (zR k f m).1
  | 0, j, hj => by obtain rfl : j = 0 := by omega
                   exact Int.le_refl _
  | m + 1, j, hj => by
    by_cases e : j = m + 1
    · subst e; exact Int.le_refl _
    · have h1 := ZC (k := k) h (m := m) (j := j) uX_
      have h2 := h m; simp only [zR]; omega
theorem VJ {ts : List (List Int)} (t : Int) (p : PL) : (zn ts p).2 = 0 -> ∀ (gx ox : Nat) (w : World), PX w p -> yt w gx ox p ->
    Calls Tryz.prog 50 #[.pointer (some ⟨gx, ox, none⟩), .int .i64 t] w fun en w' => en = .returned (.tuple #[.int .i64 (zA t p).1, .bool (zA t p).2]) /\ za w w' := by
  induction p with
  | leaf => intro h; exact absurd rfl (yY h)
  | mk k n x xs ag A mm cap kid ih =>
    intro hc gx ox w hP hx; have Hx := hh_ hx; have HP := hh_ hP; have HC := hh_ hc; have IH := hh_ ih; obtain ⟨T, O, hR⟩ : ∃ T O, zA t (.mk k n x xs ag A mm cap kid) = (T, O) := ⟨_, _, rfl⟩
    have HR := hh_ hR; rw [hR]; obtain ⟨c0, c1, c2, c3, c4, c5, c6, c7, c8, c9, c10⟩ := hx; simp only [PL.k, PL.n, PL.x, PL.xs, PL.ag, PL.A, PL.m, PL.cap] at c0 c1 c2 c3 c4 c5 c6 c7 c8 c9 c10; clear hP hc ih hR
    by_cases hk1 : k = 1
    · subst hk1
      have hR := HR.out; unfold zA at hR; rw [if_pos rfl] at hR; go_enter Tryz.func50, Tryz.ntmps50
      by_cases hn : n = t
      · have dn : (n == t) = true := by simpa using hn
        rw [if_pos hn] at hR; obtain ⟨rfl, rfl⟩ := Prod.mk.inj hR; clear hn hR HR; go_wp2; refine qX_ vb_ rfl ?_; exact ⟨rfl, za.refl _⟩
      · have dn : (n == t) = false := by simpa using hn
        rw [if_neg hn] at hR; obtain ⟨rfl, rfl⟩ := Prod.mk.inj hR; clear hn hR HR; go_wp2; refine qX_ vb_ rfl ?_; exact ⟨rfl, za.refl _⟩
    · have dk : (k == 1) = false := by simpa using hk1
      have nodeE := yZ HC.out; have kk := Zz nodeE.1 nodeE.2.1 hk1; have mm2 : mm <= 2 := by rcases kk.2.2 with ⟨h, _⟩ | ⟨h, _⟩ <;> omega
      have eT : (zR k (fun i => zA t (kid i)) mm).1 = T /\ ((if k = 2 \/ k = 3 \/ k = 4 \/ k = 5 then (zR k (fun i => zA t (kid i)) mm).2 else if k = 9 then false else (zR k (fun i => zA t (kid i)) mm).2 && decide ((zR k (fun i => zA t (kid i)) mm).1 = 0)) && decide ((zR k (fun i => zA t (kid i)) mm).1 <= 1)) = O := by
        have h := HR.out; unfold zA at h; rw [if_neg hk1] at h; exact Prod.mk.inj h
      have t60 : T <= 60 := by
        have h := Rx (t := t) HC.out; rw [HR.out] at h; exact h
      have nn : ∀ i, 0 <= ((fun i => zA t (kid i)) i).1 := fun i => Xn t (kid i)
      obtain ⟨F, hF⟩ : ∃ F, (fun i => zA t (kid i)) = F := ⟨_, rfl⟩
      rw [hF] at eT nn; have FI := hh_ (show ∀ i, zA t (kid i) = F i from fun i => by rw [<- hF]); have ET := hh_ eT; have T60 := hh_ t60; have NN := hh_ nn; have KK := hh_ kk; clear nodeE kk eT t60 nn hF; have ht0 : T = (zR k F mm).1 := ET.out.1.symm; have HT0 := hh_ ht0; clear ht0; go_enter Tryz.func50, Tryz.ntmps50; go_wp2
      go_loopw [4, 5, 25] (fun a b i wr => ∃ j : Nat, j <= mm /\ i = .int .i64 j /\ a = .int .i64 (zR k F j).1 /\ b = .bool (zR k F j).2 /\ za w wr) (fun _ _ i _ => mm - (intOf i).toNat)
      case atStart => exact ⟨0, Nat.zero_le _, rfl, rfl, rfl, za.refl _⟩
      case round =>
        rename World => wr
        obtain ⟨j, hj, rfl, rfl, rfl, hg⟩ := hrel; obtain ⟨c0, c1, c2, c3, c4, c5, c6, c7, c8, c9, c10⟩ := Hx.out.grow hg; simp only [PL.k, PL.n, PL.x, PL.xs, PL.ag, PL.A, PL.m, PL.cap] at c0 c1 c2 c3 c4 c5 c6 c7 c8 c9 c10; have lej := ZC (k := k) NN.out hj; have nnj := XN k NN.out j
        by_cases hlt : j < mm
        · obtain ⟨gk, ok, hA, hck, hEk⟩ : ∃ gk ok, A = some ⟨gk, ok, none⟩ /\ yt w gk (ok + j * 11) (kid j) /\ PX w (kid j) := by
            cases HP.out with
            | mk hm' hc hk =>
              obtain ⟨gk, ok, h1, h2⟩ := hc j hlt; exact ⟨gk, ok, h1, h2, hk j hlt⟩
          subst hA; have cp := IH.out j (yp HC.out hlt) gk (ok + j * 11) wr (hEk.grow hg) (hck.grow hg); have le1 := ZC (k := k) NN.out (show j + 1 <= mm by omega); have nj := NN.out j; have st : zR k F (j + 1) = ((zR k F j).1 + (F j).1, (zR k F j).2 && (F j).2 && !(decide (k = 5) && decide (j = 1) && decide (0 < (F j).1))) := rfl; have t60 := T60.out; rw [HT0.out] at t60; rw [FI.out] at cp; obtain ⟨T0, O0, h0⟩ : ∃ a b, zR k F j = (a, b) := ⟨_, _, rfl⟩
          obtain ⟨T1, O1, h1⟩ : ∃ a b, F j = (a, b) := ⟨_, _, rfl⟩
          rw [h0, h1] at st; rw [h1] at cp nj; rw [st] at le1; rw [h0] at nnj ⊢; simp only at cp nj le1 nnj st; have hwp : wrap64 (T0 + T1) = T0 + T1 := by unfold wrap64; omega
          have CP := hh_ cp; have ST := hh_ st; have k0 : (0 : Int) <= (j : Int) := by omega
          have k1 : (j : Int) < (mm : Int) := by omega
          clear cp st h0 h1 hck hEk lej; go_upto_region 10 with (go_at_call 50; ((with_reducible refine CP.out.mono ?_); rintro e w2 ⟨rfl, hg2⟩)); clear c0 c1 c2 c3 c4 c5 c6 c7 c8 c9 c10; have c0 := (Hx.out.grow (hg.trans hg2)).c0; simp only [PL.k] at c0; cases O0 <;> cases O1
          all_goals
            by_cases h5 : k = 5
            · have d5 : (k == 5) = true := by simpa using h5
              have H5 := hh_ h5; clear h5
              by_cases h1 : j = 1
              · have d1 : ((j : Int) == 1) = true := by subst h1; rfl
                have H1 := hh_ h1; clear h1
                by_cases hT : 0 < T1
                · have dT : decide (0 < T1) = true := decide_eq_true hT
                  go_wp2; go_roundw
                  case rel => exact ⟨j + 1, by omega, by go_num, by rw [ST.out], by rw [ST.out]; simp [H5.out, H1.out, hT], hg.trans hg2⟩
                  case measure => exact u1_
                · have dT : decide (0 < T1) = false := decide_eq_false hT
                  go_wp2; go_roundw
                  case rel => exact ⟨j + 1, by omega, by go_num, by rw [ST.out], by rw [ST.out]; simp [hT], hg.trans hg2⟩
                  case measure => exact u1_
              · have d1 : ((j : Int) == 1) = false := by first | (simp; omega) | simpa using h1
                go_wp2; go_roundw
                case rel => exact ⟨j + 1, by omega, by go_num, by rw [ST.out], by rw [ST.out]; simp [h1], hg.trans hg2⟩
                case measure => exact u1_
            · have d5 : (k == 5) = false := by simpa using h5
              go_wp2; go_roundw
              case rel => exact ⟨j + 1, by omega, by go_num, by rw [ST.out], by rw [ST.out]; simp [h5], hg.trans hg2⟩
              case measure => exact u1_
        · obtain rfl : j = mm := by omega
          have eO := ET.out.2; rw [ET.out.1] at eO ⊢; obtain ⟨O0, h0⟩ : ∃ b, (zR k F j).2 = b := ⟨_, rfl⟩
          rw [h0] at eO ⊢; have EO := hh_ eO; clear lej nnj h0 eO; have fin : ∀ W, za wr W -> ∀ b, b = O -> (Ending.returned (.tuple #[.int .i64 T, .bool b])) = .returned (.tuple #[.int .i64 T, .bool O]) /\ za w W := fun W h b e => ⟨by rw [e], hg.trans h⟩
          have FIN := hh_ fin; clear fin
          by_cases hT : T <= 1
          · have dT : decide (T <= 1) = true := decide_eq_true hT
            by_cases hT0 : T = 0
            · subst hT0
              cases O0
              all_goals
                rcases (show k = 2 \/ k = 3 \/ k = 4 \/ k = 5 \/ k = 9 \/ (k ≠ 2 /\ k ≠ 3 /\ k ≠ 4 /\ k ≠ 5 /\ k ≠ 9) by omega) with rfl | rfl | rfl | rfl | rfl | ⟨q2, q3, q4, q5, q9⟩
                all_goals
                  first
                  | (have d2 : (k == 2) = false := by simpa using q2
                     have d3 : (k == 3) = false := by simpa using q3
                     have d4 : (k == 4) = false := by simpa using q4
                     have d5 : (k == 5) = false := by simpa using q5
                     have d9 : (k == 9) = false := by simpa using q9
                     have h := EO.out; rw [if_neg uX_, if_neg q9] at h; have E := hh_ h
                     clear h q2 q3 q4 q5 q9)
                  | (have E := hh_ EO.out)
                  go_wp2; refine qX_ vb_ rfl ?_; exact FIN.out _ (za.refl _) _ (by rw [<- E.out]; simp)
            · have dT0 : (T == 0) = false := by simpa using hT0
              have HT0' := hh_ hT0; clear hT0; cases O0
              all_goals
                rcases (show k = 2 \/ k = 3 \/ k = 4 \/ k = 5 \/ k = 9 \/ (k ≠ 2 /\ k ≠ 3 /\ k ≠ 4 /\ k ≠ 5 /\ k ≠ 9) by omega) with rfl | rfl | rfl | rfl | rfl | ⟨q2, q3, q4, q5, q9⟩
                all_goals
                  first
                  | (have d2 : (k == 2) = false := by simpa using q2
                     have d3 : (k == 3) = false := by simpa using q3
                     have d4 : (k == 4) = false := by simpa using q4
                     have d5 : (k == 5) = false := by simpa using q5
                     have d9 : (k == 9) = false := by simpa using q9
                     have h := EO.out; rw [if_neg uX_, if_neg q9] at h; have E := hh_ h
                     clear h q2 q3 q4 q5 q9)
                  | (have E := hh_ EO.out)
                  go_wp2; refine qX_ vb_ rfl ?_; exact FIN.out _ (za.refl _) _ (by rw [<- E.out]; simp [HT0'.out, hT])
          · have dT : decide (T <= 1) = false := decide_eq_false hT
            have dT0 : (T == 0) = false := by simp; omega
            cases O0
            all_goals
              rcases (show k = 2 \/ k = 3 \/ k = 4 \/ k = 5 \/ k = 9 \/ (k ≠ 2 /\ k ≠ 3 /\ k ≠ 4 /\ k ≠ 5 /\ k ≠ 9) by omega) with rfl | rfl | rfl | rfl | rfl | ⟨q2, q3, q4, q5, q9⟩
              all_goals
                first
                | (have d2 : (k == 2) = false := by simpa using q2
                   have d3 : (k == 3) = false := by simpa using q3
                   have d4 : (k == 4) = false := by simpa using q4
                   have d5 : (k == 5) = false := by simpa using q5
                   have d9 : (k == 9) = false := by simpa using q9
                   have h := EO.out; rw [if_neg uX_, if_neg q9] at h; have E := hh_ h
                   clear h q2 q3 q4 q5 q9)
                | (have E := hh_ EO.out)
                go_wp2; refine qX_ vb_ rfl ?_; exact FIN.out _ (za.refl _) _ (by rw [<- E.out]; simp [hT])
theorem SS (s : S) (y : I) (gr : Nat) (w : World) (hb : zb w gr 25 #[.slice s.A s.xs.length s.cap]) (hs : In w s) (hw : zC s.z = 0) (hy : xi w y.A y.row) (hr : jH y.row = 0) :
  Calls Tryz.prog 52 #[.agg #[.slice y.A y.row.length y.cap, .int .i64 y.w], .pointer (some ⟨gr, 0, none⟩)] w fun e w' => e = .returned (.bool (decide (0 < zW s.z y.row))) /\ za w w' := by
 have cw := fun W (h : za w W) => RN s.xs s.A s.cap y.row y.A y.cap W (hs.z.grow h) hw (hy.grow h) hr
 obtain ⟨n, hn⟩ : ∃ n, zW s.z y.row = n := ⟨_, rfl⟩
 rw [show zW (s.xs.map zh) y.row = n from hn] at cw; rw [hn]; obtain ⟨b, hbb⟩ : ∃ b, decide (0 < n) = b := ⟨_, rfl⟩
 rw [hbb]; have HBB := hh_ hbb; have CW := hh_ cw; have HB := hh_ hb; clear hb hs hw hy hr cw hn hbb; go_enter Tryz.func52, Tryz.ntmps52; go_upto_region 1 with fail
 refine zc (fun X => zb X w.heap.size 53 #[.slice y.A y.row.length y.cap, .int .i64 y.w] /\ za w X) ⟨zb.new _ _ _, (za.refl w).al _⟩ ?_; generalize w.heap.size = gz; rintro X ⟨Bx, G⟩; obtain ⟨bx, fx⟩ := Bx.rules; obtain ⟨br, fr⟩ := (HB.out.grow G).rules; clear Bx
 by_cases h : 0 < n
 ·have dn : decide (0 < n) = true := decide_eq_true h; obtain rfl : true = b := dn.symm.trans HBB.out
  go_wp2_with (go_at_call 53; ((with_reducible refine (CW.out _ G).mono ?_); rintro e w2 ⟨rfl, hg2⟩))
  go_ret; exact ⟨rfl, G.trans hg2⟩
 ·have dn : decide (0 < n) = false := decide_eq_false h; obtain rfl : false = b := dn.symm.trans HBB.out
  go_wp2_with (go_at_call 53; ((with_reducible refine (CW.out _ G).mono ?_); rintro e w2 ⟨rfl, hg2⟩))
  go_ret; exact ⟨rfl, G.trans hg2⟩
theorem Kh {w : World} {gr : Nat} {s : S} {A : Option Addr} {l c : Nat} (v : Value) (hb : zb w gr 25 #[.slice A l c]) (hs : In w s) : In (w.setCell ⟨gr, 0, none⟩ v) s :=
 hs.gb (v := .slice (some ⟨gr, 0, none⟩) 1 1) (Z5 hb (fun u hu => by simp at hu; exact ⟨A, l, c, hu⟩)) ((GX.refl gr w).set 0 v)
theorem TY {w : World} {gr : Nat} {u : Value} (v : Value) (hb : zb w gr 25 #[u]) : zb (w.setCell ⟨gr, 0, none⟩ v) gr 25 #[v] := by simpa using hb.set 0 v
theorem DQ {w0 w w' : World} {gz : Nat} {s : S} {B : Option Addr} {ys : List I} {cap : Nat} (hg : za w0 w) (hb : w0.heap.size <= gz) (d : D1 (ys.map zh)) (sk : yf B ys.length cap) (dv : ∀ y ∈ ys, ∃ g, y.A = some ⟨g, 0, none⟩ /\ DV w g y.row) (hd : ys ≠ [] -> B = some ⟨gz, 0, none⟩ /\ YE w gz ys)
  (h : (ys = [] /\ za w w') \/ B = some ⟨gz, 0, none⟩ /\ YE w' gz (ys.filter (fun y => !decide (0 < zW s.z y.row))) /\ GX gz w w') :
  za w0 w' /\ In w' ⟨B, ys.filter (fun y => !decide (0 < zW s.z y.row)), cap⟩ /\ S.z ⟨B, ys.filter (fun y => !decide (0 < zW s.z y.row)), cap⟩ = jx s.z (ys.map zh) := by
 have e : S.z ⟨B, ys.filter (fun y => !decide (0 < zW s.z y.row)), cap⟩ = jx s.z (ys.map zh) := by
  unfold jx S.z; rw [List.filter_map]; rfl
 have k : yf B (ys.filter (fun y => !decide (0 < zW s.z y.row))).length cap := ⟨Nat.le_trans (List.length_filter_le _ _) sk.1, sk.2⟩
 have sm : ZJ ((ys.filter (fun y => !decide (0 < zW s.z y.row))).map zh) := by
  rw [show (ys.filter (fun y => !decide (0 < zW s.z y.row))).map zh = jx s.z (ys.map zh) from e]; exact (SI d).1.sml
 rcases h with ⟨rfl, h⟩ | ⟨_, db, gx⟩
 ·exact ⟨hg.trans h, In.sml (zX _ _) k sm, e⟩
 ·refine ⟨GX.base hg hb gx, In.sml ?_ k sm, e⟩
  by_cases h0 : ys = []
  ·subst h0; exact zX _ _
  ·obtain ⟨rfl, db0⟩ := hd h0; refine db.zin (fun y hy => ?_); obtain ⟨g, e1, h1⟩ := dv y (List.mem_filter.1 hy).1; rw [e1]; obtain ⟨rest, db0⟩ := db0; exact DV.vsl (GX.blk gx (fun e2 => by subst e2; exact absurd (xk h1 db0) uW_) h1)
theorem Mr (ts : List (L2 Int)) (At : Option Addr) (nt : Nat) (p q : PL) (ds : List S) (Ad : Option Addr) (nd : Nat) (w : World) (hlt : ts.length <= zp) (hl : ∀ t ∈ ts, t.xs.length <= zp) (hts : WO w At ts) (hp : PX w p) (hq : PX w q) (hds : MW w Ad ds nd) :
  Calls Tryz.prog 13 #[.slice At ts.length nt, p.val, q.val, .slice Ad ds.length nd] w fun en w' => yr w w' en (jy (zg ts) p q (ds.map S.z)) := by
 have HQ := hh_ hq; have HDS := hh_ hds; have HL := hh_ hl; obtain ⟨WE, hW⟩ : ∃ e, xp (zg ts) p q (ds.map S.z) = e := ⟨_, rfl⟩
 obtain ⟨PT, PO, hPP⟩ : ∃ a b, zA ((zg ts).length : Int) q = (a, b) := ⟨_, _, rfl⟩
 obtain ⟨a1, e1, hE1⟩ : ∃ a e, xl (zg ts) p (ds.map S.z) = (a, e) := ⟨_, _, rfl⟩
 obtain ⟨g1, x1, hG1⟩ : ∃ a e, ye yM a1 = (a, e) := ⟨_, _, rfl⟩
 obtain ⟨C, hC⟩ : ∃ C, (zn (zg ts) p).1 = C := ⟨_, rfl⟩
 obtain ⟨R, hR⟩ : ∃ R, jy (zg ts) p q (ds.map S.z) = R := ⟨_, rfl⟩
 have fin : R = if WE ≠ 0 then ([], WE) else if (PT, PO) ≠ (1, true) then ([], 8) else if e1 ≠ 0 then ([], e1) else if x1 ≠ 0 then ([], x1) else U8 (zg ts ++ [C]) q (ds.map S.z) 50 g1 g1 := by
  rw [<- hR]; unfold jy; rw [hW, hPP, hE1]; simp only; rw [hG1, hC]
 have Fin := hh_ fin
 have hcq : WE = 0 -> (zn (zg ts ++ [C]) q).2 = 0 := fun h => w6_
 have HCQ := hh_ hcq
 have hd8 : WE = 0 -> ds.length <= 10000 /\ ts.length <= 8 := fun h => wi_
 have HD8 := hh_ hd8; have hsm : e1 = 0 -> ZJ a1 := fun h => by subst h; exact ke (Qd hE1)
 have HSM := hh_ hsm; have hg1 : x1 = 0 -> D1 g1 := fun h => by subst h; exact (jb hG1).1
 have HG1 := hh_ hg1; have c1 := fun W (h : za w W) => JK ts At nt p q ds Ad nd W hlt hl (hts.grow h) (hp.grow h) (hq.grow h) (hds.grow h)
 have c2 := fun W (h : za w W) => Q2 ts At nt p ds Ad nd W hlt hl (hts.grow h) (hp.grow h) (hds.grow h)
 have c3 := fun (hc : (zn (zg ts ++ [C]) q).2 = 0) (gx : Nat) W (h : za w W) (hx : yt W gx 0 q) => VJ ((zg ts).length : Int) q hc gx 0 W (hq.grow h) hx
 rw [hW, hC] at c1; rw [hE1] at c2; rw [hPP] at c3; rw [show (zg ts).length = ts.length from by simp [zg]] at c3; rw [hR]; unfold WrR at c1; unfold yr at c2; simp only at c2 c3; have hB : ∀ W g, zb W g 39 (pC q) -> yt W g 0 q := fun W g B => ⟨B.cells rfl, B.cells rfl, B.cells rfl, B.cells rfl, B.cells rfl, B.cells rfl, B.cells rfl, B.cells rfl, B.cells rfl, B.cells rfl, B.cells rfl⟩
 have HB := hh_ hB; unfold PL.val at c1 c2 ⊢; have C1 := hh_ c1; have C2 := hh_ c2; have C3 := hh_ c3; have HG := hh_ hG1; clear c1 c2 c3 hts hp hq hds hlt hl hW hPP hE1 hG1 hC hR fin hd8 hsm hg1 hcq hB; go_enter Tryz.func13, Tryz.ntmps13; go_upto_region 1 with fail
 refine zc (fun X => zb X w.heap.size 39 (pC p) /\ zb X (w.heap.size + 1) 39 (pC q) /\ za w X) ⟨(zb.new w _ _).al _, zb.new' _ _ _ uY_, ze⟩ ?_; rintro X ⟨BX0, BY0, G⟩; have BX := hh_ BX0; have BY := hh_ BY0; obtain ⟨bx, fx⟩ := BX0.rules; obtain ⟨by', fy⟩ := BY0.rules; have lx := BX0.lt; have ly := BY0.lt; clear BX0 BY0; generalize w.heap.size + 1 = gy at *; generalize w.heap.size = gx at *; go_upto_region 2 with (go_at_call 40; ((refine (C1.out _ G).mono ?_); rintro en w3 ⟨v3, rfl, hv3, hg3⟩)); have HV3 := hh_ hv3; clear hv3 bx fx lx by' fy ly; have G3 := G.trans hg3; have bad : ∀ (e : Int) W, R = ([], e) -> za w W -> yr w W (.returned (.tuple #[.slice none 0 0, .int .i64 e])) R := fun e W h hg => ⟨none, [], 0, by rw [h]; rfl, zX _ _, by rw [h]; rfl, yf.nil, hg⟩
 have BAD := hh_ bad; clear bad
 by_cases hw0 : WE = 0
 ·have dw : (WE != 0) = false := by simp [hw0]
  obtain ⟨B3, n3, c, rfl, htl, hcx, hC8⟩ := HV3.out hw0; obtain ⟨al, hal⟩ : ∃ al : List (L2 Int), ts ++ [c] = al := ⟨_, rfl⟩
  rw [hal] at htl ⊢; have hd8 := HD8.out hw0; have hal8 : al.length <= zp := by rw [<- hal]; unfold zp; simp; omega
  have hall : ∀ t ∈ al, t.xs.length <= zp := fun t ht => xu_
  have eal : zg al = zg ts ++ [C] := by rw [<- hal]; simp [zg, hcx]
  have cn := fun (s : S) W (h : za w3 W) (hs : In W s) => LZ al B3 n3 q ds Ad nd s W hal8 hall (BO.grow htl h) (HQ.out.grow (G3.trans h)) (HDS.out.grow (G3.trans h)) hs hd8.1
  have cp := C3.out (HCQ.out hw0) gy w3 G3 (HB.out _ _ (BY.out.grow hg3)); have fin : R = if (PT, PO) ≠ (1, true) then ([], 8) else if e1 ≠ 0 then ([], e1) else if x1 ≠ 0 then ([], x1) else U8 (zg al) q (ds.map S.z) 50 g1 g1 := by rw [Fin.out, if_neg (by simp [hw0]), eal]
  have Fin2 := hh_ fin; unfold kq at cn; unfold PL.val at cn; have CN := hh_ cn; have CP := hh_ cp; clear cn cp fin eal hall hal8 hd8 hal htl hcx hC8 HV3 hw0; obtain ⟨bx, fx⟩ := (BX.out.grow hg3).rules; have lx := (BX.out.grow hg3).lt; go_upto_region 5 with (go_at_call 50; ((with_reducible refine CP.out.mono ?_); rintro en w31 ⟨rfl, hg31⟩)); clear bx fx lx; have G31 := G3.trans hg31; obtain ⟨bx, fx⟩ := (BX.out.grow (hg3.trans hg31)).rules; have lx := (BX.out.grow (hg3.trans hg31)).lt
  by_cases hpp : PT = 1 /\ PO = true
  ·obtain ⟨rfl, rfl⟩ := hpp; have Fin3 := hh_ (Fin2.out.trans (if_neg uY_)); go_upto_region 8 with (go_at_call 41; ((refine (C2.out _ G31).mono ?_); rintro en w4 ⟨B4, ys4, cap4, rfl, hz4, hm4, hk4, hg4⟩)); clear bx fx lx; refine zc (fun X => zb X w4.heap.size 25 #[.slice B4 ys4.length cap4] /\ za w4 X) ⟨zb.new _ _ _, (za.refl w4).al _⟩ ?_; rintro X4 ⟨BR0, GX4⟩; have BR := hh_ BR0; have G4 := hg31.trans (hg4.trans GX4); have hrs : w4.heap.size <= w4.heap.size := Nat.le_refl _; have O4 := hh_ (And.intro (hz4.grow GX4) (And.intro hm4 hk4)); clear hz4 hm4 hk4; have W34 := hh_ (hg31.trans hg4); obtain ⟨gr, hgr⟩ : ∃ gr, w4.heap.size = gr := ⟨_, rfl⟩
   rw [hgr] at BR0 BR hrs ⊢; have HGR := hh_ hgr; obtain ⟨br, fr⟩ := BR0.rules; have lr := BR0.lt; clear BR0 hgr hrs; go_upto_if 49 with fail
   go_cut [11] (fun e wx => ∃ (er : Int) (s : S), e = .int .i64 er /\ zb wx gr 25 #[.slice s.A s.xs.length s.cap] /\ (er = 0 -> In wx s /\ D1 s.z /\ U8 (zg al) q (ds.map S.z) 50 s.z s.z = R) /\ (er ≠ 0 -> R = ([], er)) /\ za w3 wx)
   case first =>
    by_cases h0 : e1 = 0
    ·have d0 : (e1 == 0) = true := by simp [h0]
     have hin : In X4 ⟨B4, ys4, cap4⟩ := In.sml O4.out.1 O4.out.2.2 v0_; have cd := W5 ⟨B4, ys4, cap4⟩ X4 hin; rw [show S.z ⟨B4, ys4, cap4⟩ = a1 from O4.out.2.1, HG.out] at cd; unfold yr at cd; have CD := hh_ cd; have H0 := hh_ h0; clear hin cd h0
     go_wp2_with (go_at_call 42; ((with_reducible refine CD.out.mono ?_); rintro en w5 ⟨B5, ys5, cap5, rfl, hz5, hm5, hk5, hg5⟩; have O5 := hh_ (And.intro hz5 (And.intro hm5 hk5)); have BR5 := hh_ (BR.out.grow hg5); clear hz5 hm5 hk5 br fr lr; obtain ⟨br, fr⟩ := BR5.out.rules; have lr := BR5.out.lt))
     go_meet; refine ⟨x1, ⟨B5, ys5, cap5⟩, rfl, TY _ BR5.out, fun hx => ?_, fun hx => ?_, za.set (G4.trans hg5) vT_ _⟩
     ·have hd := HG1.out hx; refine ⟨Kh _ BR5.out (hd.inn O5.out.1 O5.out.2.1 O5.out.2.2), ?_, ?_⟩
      ·show D1 (ys5.map zh); rw [O5.out.2.1]; exact hd
      ·show U8 _ _ _ _ (ys5.map zh) (ys5.map zh) = R; rw [O5.out.2.1, Fin3.out, if_neg uK_, if_neg uR_]
     ·rw [Fin3.out, if_neg uK_, if_pos hx]
    ·have d0 : (e1 == 0) = false := by simpa using h0
     have H0 := hh_ h0; clear h0; go_wp2; go_meet; exact ⟨e1, ⟨B4, ys4, cap4⟩, rfl, BR.out, fun h2 => absurd h2 H0.out, fun _ => by rw [Fin3.out, if_pos H0.out], G4⟩
   case rest =>
   clear br fr lr; obtain ⟨er, s0, rfl, hb0, hi0, hx0, g5⟩ := hcut; rename World => w5
   have I0 := hh_ hi0; have B0 := hh_ hb0
   by_cases her : er = 0
   ·obtain ⟨is0, ds0, go0⟩ := hi0 her; have de : (er != 0) = false := by simp [her]
    have J0 := hh_ (And.intro is0 (And.intro ds0 go0)); obtain ⟨br, fr⟩ := B0.out.rules; have lr := B0.out.lt; clear hi0 hb0 hx0 her is0 ds0 go0; go_upto_region 13 with fail
    clear br fr lr; go_wp2
    go_loopw [15, 59] (fun f i wr => ∃ (s u : S) (r : Nat), f = .slice u.A u.xs.length u.cap /\ i = .int .i64 (50 - (r : Int)) /\ r <= 50 /\ zb wr gr 25 #[.slice s.A s.xs.length s.cap] /\ In wr s /\ In wr u /\ D1 s.z /\ D1 u.z /\ U8 (zg al) q (ds.map S.z) r s.z u.z = R /\ za w3 wr) (fun _ i _ => (50 - intOf i).toNat)
    case atStart => exact ⟨s0, s0, 50, rfl, rfl, Nat.le_refl _, B0.out, J0.out.1, J0.out.1, J0.out.2.1, J0.out.2.1, J0.out.2.2, g5⟩
    case round =>
     rename World => wr
     obtain ⟨s, u, r, rfl, rfl, hr, hbr, hs, hu, dS, dU, hgo, hg⟩ := hrel; have HS := hh_ (And.intro hbr (And.intro hs (And.intro hu (And.intro dS dU)))); clear hbr hs hu dS dU; cases r with
     | zero =>
      have fin : R = ([], 10) := by rw [<- hgo]; rfl
      have Fin4 := hh_ fin; clear fin hgo; go_wp2; refine qX_ vc_ rfl ?_; exact BAD.out 10 _ Fin4.out (G3.trans hg)
     | succ r =>
      obtain ⟨n, hn⟩ : ∃ n : Int, 50 - (((r + 1 : Nat)) : Int) = n := ⟨_, rfl⟩
      rw [hn]; have hn2 : n = 49 - (r : Int) := by rw [<- hn]; omega
      have hn3 : n < 50 /\ 0 <= n := by omega
      have dn : decide (n < 50) = true := decide_eq_true hn3.1; have Hn := hh_ (And.intro hn2 hn3); have HWP := hh_ (show wrap64 (n + 1) = n + 1 by unfold wrap64; omega); obtain ⟨d2, e2, hN⟩ : ∃ d e, xd (zg al) q (ds.map S.z) u.z = (d, e) := ⟨_, _, rfl⟩
      obtain ⟨s3, e3, hS3⟩ : ∃ d e, yN s.z (jx s.z d2) = (d, e) := ⟨_, _, rfl⟩
      have eR : R = if e2 ≠ 0 then ([], e2) else if jx s.z d2 = [] then (s.z, 0) else if e3 ≠ 0 then ([], e3) else U8 (zg al) q (ds.map S.z) r s3 (jx s.z d2) := by
       rw [<- hgo]
       conv => lhs; unfold U8
       rw [hN]; simp only; rw [hS3]
      have hd2 : e2 = 0 -> D1 d2 := fun h => by subst h; obtain ⟨_, _, h5⟩ := Qo hN; exact (jb h5).1
      have hd3 : e3 = 0 -> D1 s3 := fun h => by subst h; exact (YQ hS3).1
      have cn := CN.out u wr hg HS.out.2.2.1; rw [hN] at cn; simp only at cn; have CN2 := hh_ cn; have ER := hh_ eR; have HD2 := hh_ hd2; have HD3 := hh_ hd3; have HS3 := hh_ hS3; obtain ⟨by', fy⟩ := (BY.out.grow (hg3.trans hg)).rules; have ly := (BY.out.grow (hg3.trans hg)).lt; clear hn hn2 hn3 hgo hN hS3 eR hd2 hd3 cn
      by_cases h2 : e2 = 0
      ·have q2 : (e2 != 0) = false := by simp [h2]
       have D2 := HD2.out h2; have H2 := hh_ h2; clear h2; go_upto_region 18 with (go_at_call 43; ((refine CN2.out.mono ?_); rintro en w6 ⟨B6, ys6, cap6, rfl, own6, dv6, hm6, hg6⟩)); clear by' fy ly; obtain ⟨B9, cap9, e9, hz6, hk6⟩ := yQ own6 (fun y hy => by obtain ⟨g, h1, h2⟩ := dv6 y hy; rw [h1]; exact h2.vsl); simp only [Value.slice.injEq] at e9; obtain ⟨rfl, _, rfl⟩ := e9
       obtain ⟨gz, hgz, hd⟩ : ∃ gz, wr.heap.size <= gz /\ (ys6 ≠ [] -> B6 = some ⟨gz, 0, none⟩ /\ YE w6 gz ys6) := by
        by_cases h0 : ys6 = []
        ·exact ⟨wr.heap.size, Nat.le_refl _, fun h => absurd h0 h⟩
        ·obtain ⟨g, rfl, db⟩ := HH own6 h0; exact ⟨g, (SL own6).2, fun _ => ⟨rfl, db⟩⟩
       have cf : ∀ y ∈ ys6, ∀ W, GX gz w6 W -> Calls Tryz.prog 52 #[.agg #[.slice y.A y.row.length y.cap, .int .i64 y.w], .pointer (some ⟨gr, 0, none⟩)] W fun e w' => e = .returned (.bool (!(fun y : I => !decide (0 < zW s.z y.row)) y)) /\ za W w' := fun y hy W h => by
        have gW : za wr W := GX.base hg6 hgz h; obtain ⟨g, e1, h1⟩ := dv6 y hy; have hne : ys6 ≠ [] := fun e => by rw [e] at hy; simp at hy
        obtain ⟨_, rest, db0⟩ := hd hne
        have hv : xi W y.A y.row := by
         rw [e1]; exact DV.vsl (GX.blk h (fun e2 => by subst e2; exact absurd (xk h1 db0) uW_) h1)
        have hy2 := (SM.of D2.w).ok (zh y) (by rw [<- hm6]; exact qZ9 hy); have := SS s y gr W (HS.out.1.grow gW) (HS.out.2.1.grow gW) HS.out.2.2.2.1.w hv ((kg _).2 hy2); simpa using this
       have l6 : ys6.length <= 400 := by have h1 := (SM.of D2.w).len; rw [<- hm6] at h1; simpa using h1
       have cd := Sd (fun y : I => !decide (0 < zW s.z y.row)) gr gz ys6 B6 cap6 w6 uX_ hk6.1 hz6 hd cf; have ln := fun w' => DQ (w0 := wr) (w := w6) (w' := w') (s := s) hg6 hgz (by rw [hm6]; exact D2) hk6 dv6 hd
       rw [hm6] at ln; obtain ⟨us, hus⟩ : ∃ us, ys6.filter (fun y : I => !decide (0 < zW s.z y.row)) = us := ⟨_, rfl⟩
       rw [hus] at cd ln; have CD := hh_ cd; have LN := hh_ ln; have D2' := hh_ D2; clear cd ln cf hd hz6 hk6 dv6 own6 hm6 hus D2; go_upto_region 19 with (go_at_call 51; ((with_reducible refine CD.out.mono ?_); rintro en w7 ⟨rfl, h7⟩; obtain ⟨g7, in7, ez7⟩ := LN.out w7 h7; clear h7)); have I7 := hh_ (And.intro in7 ez7); have B7 := HS.out.1.grow g7; obtain ⟨br, fr⟩ := B7.rules; have lr := B7.lt; have B7 := hh_ B7; clear in7 ez7
       by_cases h0 : us.length = 0
       ·have d0 : ((us.length : Int) == 0) = true := by simp [h0]
        have fin : R = (s.z, 0) := by
         have e0 : jx s.z d2 = [] := by rw [<- I7.out.2, List.length_eq_zero_iff.1 h0]; rfl
         rw [ER.out, if_neg uL_, if_pos e0]
        have Fin4 := hh_ fin; clear fin h0; go_wp2; refine qX_ vc_ rfl ?_; rw [Fin4.out]; exact ⟨s.A, s.xs, s.cap, rfl, HS.out.2.1.z.grow g7, rfl, HS.out.2.1.sl, G3.trans (hg.trans g7)⟩
       ·have d0 : ((us.length : Int) == 0) = false := by rw [beq_eq_false_iff_ne]; omega
        have hne : jx s.z d2 ≠ [] := fun e => by
         rw [<- I7.out.2] at e; have := congrArg List.length e; simp [S.z] at this; exact h0 (by rw [this]; rfl)
        have HNE := hh_ hne; have ce := JA s ⟨B6, us, cap6⟩ w7 (HS.out.2.1.grow g7) I7.out.1; rw [I7.out.2, HS3.out] at ce; unfold yr at ce; simp only at ce; have CE := hh_ ce; clear ce h0 hne; go_upto_region 22 with (go_at_call 44; ((with_reducible refine CE.out.mono ?_); rintro en w8 ⟨B8, ys8, cap8, rfl, hz8, hm8, hk8, hg8⟩; have O8 := hh_ (And.intro hz8 (And.intro hm8 hk8)); have B8' := hh_ (B7.out.grow hg8); clear hz8 hm8 hk8 br fr lr; obtain ⟨br, fr⟩ := B8'.out.rules; have lr := B8'.out.lt)); have G9 : za w3 (w8.setCell ⟨gr, 0, none⟩ (.slice B8 ys8.length cap8)) := za.set (hg.trans (g7.trans hg8)) vT_ _; have BL9 := hh_ (TY (.slice B8 ys8.length cap8) B8'.out); have IU9 := hh_ (Kh (.slice B8 ys8.length cap8) B8'.out (I7.out.1.grow hg8))
        by_cases h3 : e3 = 0
        ·have q3 : (e3 != 0) = false := by simp [h3]
         have D3 := HD3.out h3; have IS9 := hh_ (Kh (.slice B8 ys8.length cap8) B8'.out (D3.inn O8.out.1 O8.out.2.1 O8.out.2.2)); have fin : U8 (zg al) q (ds.map S.z) r s3 (jx s.z d2) = R := by rw [ER.out, if_neg uL_, if_neg HNE.out, if_neg (by simp [h3])]
         have Fin4 := hh_ fin; have D3' := hh_ D3; clear fin h3 D3; go_wp2; go_roundw
         case rel =>
          refine ⟨⟨B8, ys8, cap8⟩, ⟨B6, us, cap6⟩, r, rfl, by have h1 := Hn.out.1; have h2 := HWP.out; first | (congr 1; omega) | (congr 1; rw [h2]; omega), by omega, BL9.out, IS9.out, IU9.out, ?_, ?_, ?_, G9⟩
          ·show D1 (ys8.map zh); rw [O8.out.2.1]; exact D3'.out
          ·rw [I7.out.2]; exact (SI D2'.out).1
          ·show U8 _ _ _ _ (ys8.map zh) _ = R; rw [O8.out.2.1, I7.out.2]; exact Fin4.out
         case measure => have h1 := Hn.out; have h2 := HWP.out; simp [intOf]; omega
        ·have q3 : (e3 != 0) = true := by simpa using h3
         have fin : R = ([], e3) := by rw [ER.out, if_neg uL_, if_neg HNE.out, if_pos h3]
         have Fin4 := hh_ fin; clear fin h3; go_wp2; refine qX_ vc_ rfl ?_; exact BAD.out e3 _ Fin4.out (G3.trans G9)
      ·have q2 : (e2 != 0) = true := by simpa using h2
       have fin : R = ([], e2) := by rw [ER.out, if_pos h2]
       have Fin4 := hh_ fin; clear fin h2
       go_wp2_with (go_at_call 43; ((refine CN2.out.mono ?_); rintro en w6 ⟨B6, ys6, cap6, rfl, own6, dv6, hm6, hg6⟩; clear own6 dv6 hm6))
       refine qX_ vc_ rfl ?_; exact BAD.out e2 _ Fin4.out (G3.trans (hg.trans hg6))
   ·have de : (er != 0) = true := by simpa using her
    have fin := hx0 her; have Fin4 := hh_ fin; clear fin hi0 hb0 hx0 her; go_wp2; refine qX_ vc_ rfl ?_; exact BAD.out er _ Fin4.out (G3.trans g5)
  ·have fin : R = ([], 8) := by
    refine Fin2.out.trans (if_pos (fun e => hpp ?_)); exact Prod.mk.inj e
   have Fin4 := hh_ fin; clear fin bx fx lx
   by_cases hp1 : PT = 1
   ·have d1 : (PT != 1) = false := by simp [hp1]
    obtain rfl : PO = false := by cases PO with | false => rfl | true => exact absurd ⟨hp1, rfl⟩ hpp
    clear hpp hp1; go_wp2; refine qX_ vc_ rfl ?_; exact BAD.out 8 _ Fin4.out G31
   ·have d1 : (PT != 1) = true := by simpa using hp1
    clear hpp hp1; cases PO
    all_goals
     go_wp2; refine qX_ vc_ rfl ?_; exact BAD.out 8 _ Fin4.out G31
 ·have dw : (WE != 0) = true := by simpa using hw0
  have fin : R = ([], WE) := by rw [Fin.out, if_pos hw0]
  have Fin4 := hh_ fin; clear fin hw0; go_wp2; refine qX_ vc_ rfl ?_; exact BAD.out WE _ Fin4.out G3
