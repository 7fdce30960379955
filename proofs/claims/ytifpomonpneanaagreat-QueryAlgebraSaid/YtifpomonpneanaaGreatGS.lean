/-
 Joined texts of this claim: Lin, Op4, Op5, Op6, ReadE. What each proves its own head says; no condition beside those that each theorem names.
-/
import Derived.Test.YtifpomonpneanaaGreatGR
import Derived.Test.YtifpomonpneanaaGreatGH
import Derived.Test.YtifpomonpneanaaGreatGD
namespace Go.Proofs.YtifpomonpneanaaGreat
open Go.RowKit Go.Calm
set_option linter.unusedSimpArgs false
set_option linter.unusedVariables false
def sumF (f : List V → Int) : List Z → Int
 | [] => 0
 | x :: l => x.2 * f x.1 + sumF f l
theorem sum_ok {l s : List Z} (hl : okR l) (h : sumZ l = (s, 0)) : Canon s ∧ wrongZ s = 0 ∧ ∀ q, wtZ s q = wtZ l q := by
 have sp := setZ_spec l (fun x hx => (hl x hx).2)
 unfold sumZ at h
 rcases fitZ_cases (setZ l) with ⟨e, hn, hb⟩ | ⟨e, he, hf⟩
 ·rw [e] at h
  have es : setZ l = s := (Prod.mk.inj h).1
  have oks : okR s := by rw [← es]; exact okR_set hl
  rw [es] at sp hn hb
  exact ⟨sp.1, (SM.canon sp.1 oks hb hn).rz (by omega) (by omega), sp.2⟩
 ·rw [hf] at h; exact absurd (Prod.mk.inj h).2 he
def rowI (u r : List V) : Int := if bareR r = bareR u then 1 else 0
def ESl (w : World) (A : Option Addr) (xs : List E) : Prop := ∀ i x, xs[i]? = some x → ∃ g o, A = some ⟨g, o, none⟩ ∧ ECells w g (o + i * 6) x ∧ EX w x
theorem ESl.grow {w w' : World} {A : Option Addr} {xs : List E} (h : ESl w A xs) (hg : Grow w w') : ESl w' A xs := fun i x hx => by
 obtain ⟨g, o, a, b, c⟩ := h i x hx
 exact ⟨g, o, a, b.grow hg, c.grow hg⟩
def typesGo (cols : List Int) : List E → List Int × Int
 | [] => ([], 0)
 | x :: l => if (typeE cols x).2 ≠ 0 then ([], (typeE cols x).2) else if (typesGo cols l).2 ≠ 0 then ([], (typesGo cols l).2) else ((typeE cols x).1 :: (typesGo cols l).1, 0)
theorem typesGo_ok (cols : List Int) : ∀ xs : List E, (∀ x ∈ xs, (typeE cols x).2 = 0) → typesGo cols xs = (xs.map (fun x => (typeE cols x).1), 0)
 | [], _ => rfl
 | x :: l, h => by
  have ih := typesGo_ok cols l (fun y hy => h y (List.mem_cons_of_mem _ hy))
  unfold typesGo
  rw [if_neg (by rw [h x (List.mem_cons_self ..)]; simp), ih, if_neg (by simp)]
  rfl
theorem typesGo_bad (cols : List Int) : ∀ (xs : List E) (k : Nat) (x : E), xs[k]? = some x → (∀ y ∈ xs.take k, (typeE cols y).2 = 0) → (typeE cols x).2 ≠ 0 → typesGo cols xs = ([], (typeE cols x).2)
 | [], k, x, h, _, _ => by simp at h
 | y :: l, 0, x, h, _, h2 => by
  simp at h; subst h
  unfold typesGo
  rw [if_pos h2]
 | y :: l, k + 1, x, h, h1, h2 => by
  have ih := typesGo_bad cols l k x (by simpa using h) (fun u hu => h1 u (by rw [List.take_succ_cons]; exact List.mem_cons_of_mem _ hu)) h2
  unfold typesGo
  rw [if_neg (by rw [h1 y (by rw [List.take_succ_cons]; exact List.mem_cons_self ..)]; simp), ih, if_pos h2]
theorem typesGo_zero {cols : List Int} : ∀ {xs : List E}, (typesGo cols xs).2 = 0 → ∀ x ∈ xs, (typeE cols x).2 = 0
 | [], _, x, hx => by simp at hx
 | y :: l, h, x, hx => by
  unfold typesGo at h
  split at h
  ·rename_i h1; exact absurd h h1
  ·rename_i h1
   split at h
   ·rename_i h2; exact absurd h h2
   ·rename_i h2
    rcases List.mem_cons.1 hx with rfl | hx
    ·simpa using h1
    ·exact typesGo_zero (by simpa using h2) x hx
def typesE (cols : List Int) (xs : List E) : List Int × Int := if 8 < xs.length then ([], 5) else typesGo cols xs
theorem typesE_zero {cols : List Int} {xs : List E} (h : (typesE cols xs).2 = 0) : xs.length ≤ 8 ∧ ∀ x ∈ xs, (typeE cols x).2 = 0 := by
 unfold typesE at h
 split at h
 ·simp at h
 ·exact ⟨by omega, typesGo_zero h⟩
theorem own_isl {w : World} {base : Nat} {v : Value} {n : Nat} {ys : List Int} (h : w.ownsRow base 3 1 v n (ys.map (Value.int .i64))) : ∃ (B : Option Addr) (cap : Nat), v = .slice B ys.length cap ∧ ISl w B ys ∧ SlOk B ys.length cap := by
 have hn := h.1
 obtain ⟨_, h⟩ := h
 obtain rfl : n = ys.length := by simpa using hn.symm
 rcases h with ⟨rfl, h0⟩ | ⟨gb, cap, cur, rfl, hB, hgb, hle, hmx, hcs, htk⟩
 ·have : ys = [] := List.length_eq_zero_iff.1 h0
  subst this
  exact ⟨none, 0, rfl, fun i x hx => by simp at hx, SlOk.nil⟩
 ·have hb : Blk w gb 3 cur := hgb
  refine ⟨some ⟨gb, 0, none⟩, cap, rfl, fun i x hx => ⟨gb, 0, rfl, ?_⟩, ⟨hle, fun h => by cases h⟩⟩
  have hv : (ys.map (Value.int .i64))[i]? = some (.int .i64 x) := by simp [hx]
  rw [← htk, List.getElem?_take] at hv
  split at hv
  ·rw [Nat.zero_add, hb.cell]; simpa using hv
  ·cases hv
def NewA (w : World) (B : Option Addr) : Prop := ∀ a, B = some a → w.heap.size ≤ a.block
theorem own_new {w : World} {base n m s cap : Nat} {e : TypeId} {B : Option Addr} {vs : List Value} (h : w.ownsRow base e s (.slice B n cap) m vs) : ∀ a, B = some a → base ≤ a.block := fun a ha => by
 subst ha
 exact (h.lt a.block rfl).1
theorem isl_nil (w : World) (A : Option Addr) : ISl w A [] := fun i x hx => by simp at hx
theorem take_sn {α β : Type} (f : α → β) {xs : List α} {k : Nat} {x : α} (h : xs[k]? = some x) : (xs.take (k + 1)).map f = (xs.take k).map f ++ [f x] := by
 obtain ⟨h1, e1⟩ := List.getElem?_eq_some_iff.1 h
 rw [List.take_succ_eq_append_getElem h1, e1]; simp
set_option maxRecDepth 100000 in
set_option maxHeartbeats 4000000 in
theorem typesN_any (cols : List Int) (Ac : Option Addr) (cc : Nat) (xs : List E) (A : Option Addr) (c : Nat) (w : World) (hlen : cols.length ≤ 9223372036854775807) (hl : xs.length ≤ 9223372036854775807) (hc : ISl w Ac cols) (hx : ESl w A xs) :
  Calls Tryz.prog 64 #[.slice Ac cols.length cc, .slice A xs.length c] w fun en w' => ∃ (B : Option Addr) (cap : Nat), en = .returned (.tuple #[.slice B (typesE cols xs).1.length cap, .int .i64 (typesE cols xs).2]) ∧ ISl w' B (typesE cols xs).1 ∧ SlOk B (typesE cols xs).1.length cap ∧ NewA w B ∧ Grow w w' := by
 have Hx := Lib.hid hx
 have Hc := Lib.hid hc
 have Ti := Lib.hid info_int'
 clear hx hc
 obtain ⟨R, hR⟩ : ∃ R, typesE cols xs = R := ⟨_, rfl⟩
 rw [hR]
 have HR := Lib.hid hR
 clear hR
 go_enter Tryz.func64, Tryz.ntmps64
 by_cases h8 : 8 < xs.length
 ·have d8 : decide ((8 : Int) < (xs.length : Int)) = true := decide_eq_true (by omega)
  have e : R = ([], 5) := by rw [← HR.out]; unfold typesE; rw [if_pos h8]
  subst e
  go_wp2
  refine bodyPost_ret (by simp [results, Tryz.results64, go_sem] <;> rfl) rfl ?_
  exact ⟨none, 0, rfl, isl_nil _ _, SlOk.nil, (fun a ha => by cases ha), Grow.refl _⟩
 ·have d8 : decide ((8 : Int) < (xs.length : Int)) = false := decide_eq_false (by omega)
  have e : R = typesGo cols xs := by rw [← HR.out]; unfold typesE; rw [if_neg h8]
  have Re := Lib.hid e
  clear e
  go_wp2
  go_loopw [6, 16] (fun t i wr => ∃ k : Nat, k ≤ xs.length ∧ i = .int .i64 k ∧ wr.ownsRow w.heap.size 3 1 t k (((xs.take k).map (fun x => (typeE cols x).1)).map (Value.int .i64)) ∧ (∀ x ∈ xs.take k, (typeE cols x).2 = 0) ∧ Grow w wr) (fun _ i _ => xs.length - (intOf i).toNat)
  case atStart => exact ⟨0, Nat.zero_le _, rfl, World.ownsRow_nil _ _ _ _, fun x hx => by simp at hx, Grow.refl w⟩
  case round =>
   obtain ⟨k, hk, rfl, hown, hz, hg⟩ := hrel
   have Own := Lib.hid hown
   have Hz := Lib.hid hz
   clear hown hz
   by_cases hlt : k < xs.length
   ·obtain ⟨x, hxk⟩ : ∃ x, xs[k]? = some x := ⟨_, List.getElem?_eq_getElem hlt⟩
    obtain ⟨gx, ox, rfl, hec, hex⟩ := (Hx.out.grow hg) k x hxk
    obtain ⟨c0, c1, c2, c3, c4, c5⟩ := hec
    obtain ⟨T, F, hTF⟩ : ∃ T F, typeE cols x = (T, F) := ⟨_, _, rfl⟩
    have ct := fun W (h : Grow wr W) => type_any cols Ac cc x W hlen (Hc.out.grow (hg.trans h)) (hex.grow h)
    rw [hTF] at ct
    simp only at ct
    have Hxk := Lib.hid hxk
    have HTF := Lib.hid hTF
    have hl2 := Own.out.lt
    have HL2 := Lib.hid hl2
    clear hxk hex hTF hl2
    unfold E.val at ct
    obtain ⟨ti, hti, hz0, hz1, hz2⟩ := Ti.out
    by_cases h0 : F = 0
    ·subst h0
     go_wp2_with (first
      | (go_at_call 98; ((with_reducible refine (ct _ (by repeat (first | (with_reducible exact Grow.refl _) | (with_reducible assumption) | (with_reducible refine Grow.set ?_ (by first | (simp; done) | (simp; omega)) _) | (with_reducible refine Grow.al ?_ _) | (with_reducible refine Grow.drew ?_) | (with_reducible refine Grow.drewN ?_ _) | (with_reducible refine Grow.trans ?_ (by assumption))))).mono ?_); rintro e w2 ⟨rfl, hg2⟩; have Own2 := Lib.hid (own_grow Own.out (((Grow.refl wr).al _).trans hg2)); have G2 := (hg.al _).trans hg2; clear hg2))
      | (at_builtin; refine wpList_append_own _ rfl _ _ 33 rfl w.heap.size 3 ti (.int .i64 0) 1 8 Tryz.underlying33 hti hz0 hz1 hz2 rfl (by decide) _ _ _ rfl (Own2.out.alloc _) ⟨w2.heap.size, 0, none⟩ 1 1 [.int .i64 T] rfl rfl ?c1 ?c2 ?c3 ?c4 ?c5 ?_))
     case c1 =>
      intro j u hj
      match j, hj with
      | 0, hj => simp at hj; subst hj; simp [Addr.add]
     case c2 => intro u hu; simp at hu; subst hu; rfl
     case c3 => unfold maxLen; omega
     case c4 => omega
     case c5 => have := G2.size; simp; omega
     ·intro v' w7 hown' hgrow _
      have hg7 : Grow w w7 := Grow.own (G2.al _) hgrow (fun i hi => (HL2.out i hi).1)
      clear hgrow
      go_wp2
      go_roundw
      case rel => exact ⟨k + 1, by omega, by go_num, by rw [take_sn _ Hxk.out, HTF.out]; simpa using hown', fun y hy => by
       obtain ⟨h1, e1⟩ := List.getElem?_eq_some_iff.1 Hxk.out
       rw [List.take_succ_eq_append_getElem h1, e1] at hy
       rcases List.mem_append.1 hy with hy | hy
       ·exact Hz.out y hy
       ·simp at hy; subst hy; rw [HTF.out], hg7⟩
      case measure => simp [intOf]; omega
    ·have d0 : (F != 0) = true := by simpa using h0
     have e : R = ([], F) := by rw [Re.out, typesGo_bad cols xs k x Hxk.out Hz.out (by rw [HTF.out]; exact h0), HTF.out]
     subst e
     go_wp2_with (go_at_call 98; ((with_reducible refine (ct _ (by repeat (first | (with_reducible exact Grow.refl _) | (with_reducible assumption) | (with_reducible refine Grow.set ?_ (by first | (simp; done) | (simp; omega)) _) | (with_reducible refine Grow.al ?_ _) | (with_reducible refine Grow.drew ?_) | (with_reducible refine Grow.drewN ?_ _) | (with_reducible refine Grow.trans ?_ (by assumption))))).mono ?_); rintro e w2 ⟨rfl, hg2⟩; have G2 := (hg.al _).trans hg2; clear hg2))
     refine bodyPost_ret (by simp [results, Tryz.results64, go_sem] <;> rfl) rfl ?_
     exact ⟨none, 0, rfl, isl_nil _ _, SlOk.nil, (fun a ha => by cases ha), G2⟩
   ·obtain rfl : k = xs.length := by omega
    have own := Own.out
    rw [List.take_length] at own
    have e : R = (xs.map (fun x => (typeE cols x).1), 0) := by rw [Re.out, typesGo_ok cols xs (by have := Hz.out; rw [List.take_length] at this; exact this)]
    subst e
    obtain ⟨B, cap, rfl, hi, hs⟩ := own_isl own
    have Fin := Lib.hid (And.intro hi (And.intro hs (own_new own)))
    clear own hi hs
    go_wp2
    refine bodyPost_ret (by simp [results, Tryz.results64, go_sem] <;> rfl) rfl ?_
    exact ⟨B, cap, by simp, Fin.out.1, by simpa using Fin.out.2.1, Fin.out.2.2, hg⟩
theorem types_any (cols : List Int) (Ac : Option Addr) (cc : Nat) (xs : List E) (A : Option Addr) (c : Nat) (w : World) (hlen : cols.length ≤ 9223372036854775807) (hl : xs.length ≤ 9223372036854775807) (hc : ISl w Ac cols) (hx : ESl w A xs) :
  Calls Tryz.prog 64 #[.slice Ac cols.length cc, .slice A xs.length c] w fun en w' => ∃ (B : Option Addr) (cap : Nat), en = .returned (.tuple #[.slice B (typesE cols xs).1.length cap, .int .i64 (typesE cols xs).2]) ∧ ISl w' B (typesE cols xs).1 ∧ SlOk B (typesE cols xs).1.length cap ∧ Grow w w' := (typesN_any cols Ac cc xs A c w hlen hl hc hx).mono fun e w' ⟨B, cap, h1, h2, h3, _, h4⟩ => ⟨B, cap, h1, h2, h3, h4⟩
set_option maxRecDepth 100000 in
set_option maxHeartbeats 4000000 in
theorem values_any (xs : List E) (A : Option Addr) (c : Nat) (row : List V) (Ar : Option Addr) (cr : Nat) (w : World) (hl : xs.length ≤ 1000) (hlr : row.length ≤ 9223372036854775807) (hx : ESl w A xs) (hre : ∀ x ∈ xs, RE row.length x) (hr : ∀ v ∈ row, RV v) (hrow : VSl w Ar row) :
  Calls Tryz.prog 142 #[.slice A xs.length c, .slice Ar row.length cr] w fun en w' => ∃ (B : Option Addr) (cap : Nat), en = .returned (.slice B xs.length cap) ∧ w'.ownsRow w.heap.size 24 3 (.slice B xs.length cap) xs.length (flatW (xs.map (ofE row))) ∧ Grow w w' := by
 have Hx := Lib.hid hx
 have Hre := Lib.hid hre
 have Hr := Lib.hid hr
 have Hrow := Lib.hid hrow
 have Ti := Lib.hid info_val2'
 clear hx hre hr hrow
 go_enter Tryz.func142, Tryz.ntmps142
 go_wp2
 go_loopw [5, 9] (fun t i wr => ∃ k : Nat, k ≤ xs.length ∧ i = .int .i64 k ∧ wr.ownsRow w.heap.size 24 3 t k (flatW ((xs.take k).map (ofE row))) ∧ Grow w wr) (fun _ i _ => xs.length - (intOf i).toNat)
 case atStart => exact ⟨0, Nat.zero_le _, rfl, World.ownsRow_nil _ _ _ _, Grow.refl w⟩
 case round =>
  obtain ⟨k, hk, rfl, hown, hg⟩ := hrel
  have Own := Lib.hid hown
  clear hown
  by_cases hlt : k < xs.length
  ·obtain ⟨x, hxk⟩ : ∃ x, xs[k]? = some x := ⟨_, List.getElem?_eq_getElem hlt⟩
   obtain ⟨gx, ox, rfl, hec, hex⟩ := (Hx.out.grow hg) k x hxk
   have co := fun W (h : Grow wr W) => of_any row Ar cr hlr Hr.out x (Hre.out x (List.mem_of_getElem? hxk)) gx (ox + k * 6) wr W hex hec (Hrow.out.grow hg) h
   have e := take_sn (ofE row) hxk
   have E := Lib.hid e
   obtain ⟨ti, hti, hz0, hz1, hz2⟩ := Ti.out
   have hl2 := Own.out.lt
   have HL2 := Lib.hid hl2
   generalize ofE row x = v9 at *
   unfold V.val at co
   clear hxk e hl2 hec hex
   go_wp2_with (first
    | (go_at_call 141; ((with_reducible refine (co _ (by repeat (first | (with_reducible exact Grow.refl _) | (with_reducible assumption) | (with_reducible refine Grow.set ?_ (by first | (simp; done) | (simp; omega)) _) | (with_reducible refine Grow.al ?_ _) | (with_reducible refine Grow.drew ?_) | (with_reducible refine Grow.drewN ?_ _) | (with_reducible refine Grow.trans ?_ (by assumption))))).mono ?_); rintro e w2 ⟨rfl, hg2⟩; have Own2 := Lib.hid (own_grow Own.out hg2); have G2 := hg.trans hg2; clear hg2))
    | (at_builtin; refine wpList_append_own _ rfl _ _ 45 rfl w.heap.size 24 ti (.agg #[.int .i64 0, .int .i64 0, .string ⟨#[]⟩]) 3 32 Tryz.underlying45 hti hz0 hz1 hz2 rfl (by decide) _ _ _ rfl (Own2.out.alloc _) ⟨w2.heap.size, 0, none⟩ 1 1 (flatW [v9]) rfl rfl ?c1 (flatW_one _) ?c3 ?c4 ?c5 ?_))
   case c1 =>
    intro j u hj
    match j, hj with
    | 0, hj => simp [flatW] at hj; subst hj; simp [Addr.add]
    | 1, hj => simp [flatW] at hj; subst hj; simp [Addr.add]
    | 2, hj => simp [flatW] at hj; subst hj; simp [Addr.add]
   case c3 => unfold maxLen; omega
   case c4 => omega
   case c5 => have := G2.size; simp; omega
   ·intro v' w7 hown' hgrow _
    have hg7 : Grow w w7 := Grow.own (G2.al _) hgrow (fun i hi => (HL2.out i hi).1)
    clear hgrow
    go_wp2
    go_roundw
    case rel => exact ⟨k + 1, by omega, by go_num, by rw [E.out, flatW_append]; simpa using hown', hg7⟩
    case measure => simp [intOf]; omega
  ·obtain rfl : k = xs.length := by omega
   have hfin : ∃ (B : Option Addr) (cap : Nat), u5 = .slice B xs.length cap := by
    have h := Own.out
    rcases h.2 with ⟨rfl, h0⟩ | ⟨gb, cap, cur, rfl, _⟩
    ·exact ⟨none, 0, by rw [h0]⟩
    ·exact ⟨_, _, rfl⟩
   obtain ⟨B, cap, rfl⟩ := hfin
   have own := Own.out
   rw [List.take_length] at own
   have Fin := Lib.hid own
   clear own
   go_wp2
   go_ret
   exact ⟨B, cap, rfl, Fin.out, hg⟩
def mapZ (cols : List Int) (es : List E) (z : List Z) : List Z × Int := if (typesE cols es).2 ≠ 0 then ([], (typesE cols es).2) else if inputE cols z ≠ 0 then ([], inputE cols z) else sumZ (z.map (fun r => (es.map (ofE r.1), r.2)))
def OwnR (w : World) (y : I) : Prop := ∃ base, w.ownsRow base 24 3 (.slice y.A y.row.length y.cap) y.row.length (flatW y.row)
theorem OwnR.grow {w w' : World} {y : I} (h : OwnR w y) (hg : Grow w w') : OwnR w' y := ⟨_, own_grow h.choose_spec hg⟩
theorem OwnR.kept {w w' : World} {y : I} {base n : Nat} {v : Value} {xs : List Value} (h : OwnR w y) (hown : w.ownsRow base 47 2 v n xs) (hg : w.grownBy w' v.ownBlock) : OwnR w' y :=
 ⟨_, World.ownsRow.kept h.choose_spec hg (own_types h.choose_spec hown (by decide))⟩
theorem OwnR.vsl {w : World} {y : I} (h : OwnR w y) : VSl w y.A y.row := by
 obtain ⟨base, h⟩ := h
 obtain ⟨B, c, e, hv⟩ := own_vsl h
 simp at e
 rw [e.1]; exact hv
def PV (n : Nat) (vs : List V) (v : Value) (W : World) : Prop := ∃ (B : Option Addr) (cap : Nat), v = .slice B n cap ∧ ∃ base, W.ownsRow base 24 3 (.slice B n cap) n (flatW vs)
def PZ (n : Nat) (m : Int) (vs : List V) (v : Value) (W : World) : Prop := ∃ (B : Option Addr) (cap : Nat), v = .agg #[.slice B n cap, .int .i64 m] ∧ ∃ base, W.ownsRow base 24 3 (.slice B n cap) n (flatW vs)
def PB (n : Nat) (m : Int) (vs : List V) (v : Value) (W : World) : Prop := ∃ (B : Option Addr) (cap g : Nat), v = .slice (some ⟨g, 0, none⟩) 1 1 ∧ Blk W g 47 #[.slice B n cap, .int .i64 m] ∧ ∃ base, W.ownsRow base 24 3 (.slice B n cap) n (flatW vs)
theorem PV.pers (n : Nat) (vs : List V) : ∀ v w w', Grow w w' → PV n vs v w → PV n vs v w' := fun v w w' hg ⟨B, cap, e, base, h⟩ => ⟨B, cap, e, base, own_grow h hg⟩
theorem PZ.pers (n : Nat) (m : Int) (vs : List V) : ∀ v w w', Grow w w' → PZ n m vs v w → PZ n m vs v w' := fun v w w' hg ⟨B, cap, e, base, h⟩ => ⟨B, cap, e, base, own_grow h hg⟩
theorem PB.pers (n : Nat) (m : Int) (vs : List V) : ∀ v w w', Grow w w' → PB n m vs v w → PB n m vs v w' := fun v w w' hg ⟨B, cap, g, e, hb, base, h⟩ => ⟨B, cap, g, e, hb.grow hg, base, own_grow h hg⟩
set_option maxRecDepth 100000 in
set_option maxHeartbeats 8000000 in
theorem map_any (cols : List Int) (Ac : Option Addr) (cc : Nat) (es : List E) (Ae : Option Addr) (ce : Nat) (xs : List I) (A : Option Addr) (c : Nat) (w : World) (hlen : cols.length ≤ 9223372036854775807) (hle : es.length ≤ 9223372036854775807) (hc : ISl w Ac cols) (hE : ESl w Ae es) (h : In w ⟨A, xs, c⟩) :
  Calls Tryz.prog 103 #[.slice Ac cols.length cc, .slice Ae es.length ce, .slice A xs.length c] w fun en w' => Gives w w' en (mapZ cols es (xs.map zOf)) := by
 have hza : ZIn w A xs := h.z
 have H := Lib.hid h
 have Hz := Lib.hid hza
 have Hc := Lib.hid hc
 have HX := Lib.hid hE
 have ct := types_any cols Ac cc es Ae ce w hlen hle hc hE
 have ci := fun W (hg : Grow w W) => input_any cols Ac cc xs A c W hlen (Hc.out.grow hg) (H.out.grow hg)
 obtain ⟨TS, TE, hTE⟩ : ∃ TS TE, typesE cols es = (TS, TE) := ⟨_, _, rfl⟩
 obtain ⟨IE, hIE⟩ : ∃ IE, inputE cols (xs.map zOf) = IE := ⟨_, rfl⟩
 rw [hTE] at ct
 rw [hIE] at ci
 obtain ⟨Q, hQ⟩ : ∃ Q, mapZ cols es (xs.map zOf) = Q := ⟨_, rfl⟩
 rw [hQ]
 have fin : Q = if TE ≠ 0 then ([], TE) else if IE ≠ 0 then ([], IE) else sumZ ((xs.map zOf).map (fun r => (es.map (ofE r.1), r.2))) := by rw [← hQ]; unfold mapZ; rw [hTE, hIE]
 have Fin := Lib.hid fin
 have HTE := Lib.hid hTE
 have HIE := Lib.hid hIE
 clear h hza hc hE hTE hIE hQ fin
 go_enter Tryz.func103, Tryz.ntmps103
 by_cases h0 : TE = 0
 ·by_cases h1 : IE = 0
  ·subst h0 h1
   have eQ : Q = sumZ ((xs.map zOf).map (fun r => (es.map (ofE r.1), r.2))) := by rw [Fin.out]; simp
   obtain ⟨_, hwz, hfit⟩ := inputE_zero HIE.out
   obtain ⟨a1, a2, a3, a4⟩ := S.facts (s := ⟨A, xs, c⟩) hwz
   have a1 : xs.length ≤ 400 := a1
   have A2 := Lib.hid (show ∀ y ∈ xs, y.row.length ≤ 8 from a2)
   have A3 := Lib.hid (show ∀ y ∈ xs, ∀ v ∈ y.row, RV v from a3)
   have A4 := Lib.hid (show ∀ y ∈ xs, -1000000 ≤ y.w ∧ y.w ≤ 1000000 from a4)
   have Hfit := Lib.hid (show ∀ y ∈ xs, fitsE cols y.row = 0 from fun y hy => hfit (zOf y) (List.mem_map_of_mem hy))
   obtain ⟨he8, hty⟩ := typesE_zero (by rw [HTE.out] : (typesE cols es).2 = 0)
   have Hty := Lib.hid hty
   have EQ := Lib.hid eQ
   clear eQ hwz hfit a2 a3 a4 hty
   go_upto_region 8 with (first
    | (go_at_call 64; ((with_reducible refine ct.mono ?_); rintro e w2 ⟨BT, capT, rfl, _, _, hg2⟩))
    | (go_at_call 73; ((with_reducible refine (ci _ hg2).mono ?_); rintro e w3 ⟨rfl, hg3⟩)))
   have G3 := Lib.hid (hg2.trans hg3)
   clear ct ci
   go_wp2
   go_loopw [11, 31] (fun t i wr => ∃ (k : Nat) (out : List I), k ≤ xs.length ∧ i = .int .i64 k ∧ wr.ownsRow w3.heap.size 47 2 t k (flatI out) ∧ out.map zOf = (xs.take k).map (fun y => (es.map (ofE y.row), y.w)) ∧ (∀ y ∈ out, OwnR wr y) ∧ Grow w3 wr) (fun _ i _ => xs.length - (intOf i).toNat)
   case atStart => exact ⟨0, [], Nat.zero_le _, rfl, World.ownsRow_nil _ _ _ _, rfl, fun y hy => by simp at hy, Grow.refl _⟩
   case round =>
    obtain ⟨k, out, hk, rfl, hown, hmap, hor, hg⟩ := hrel
    have Own := Lib.hid hown
    have Map := Lib.hid hmap
    have Ors := Lib.hid hor
    clear hown hmap hor
    by_cases hlt : k < xs.length
    ·obtain ⟨y, hyk⟩ : ∃ y, xs[k]? = some y := ⟨_, List.getElem?_eq_getElem hlt⟩
     have hmem := List.mem_of_getElem? hyk
     obtain ⟨gx, ox, rfl, c1, c2, hyv⟩ := (Hz.out.grow (G3.out.trans hg)) k y hyk
     have hre : ∀ x ∈ es, RE y.row.length x := fun x hx => by
      obtain ⟨T, hok⟩ := okay_of (Hty.out x hx)
      rw [((fits_iff cols y.row).1 (Hfit.out y hmem)).1]
      exact wt_re x hok.ty
     have hlr : y.row.length ≤ 9223372036854775807 := by have := A2.out y hmem; omega
     have cv := fun W (h : Grow wr W) => values_any es Ae ce y.row y.A y.cap W (by omega) hlr (HX.out.grow (G3.out.trans (hg.trans h))) hre (A3.out y hmem) (hyv.grow h)
     have es1 := take_sn (fun y : I => (es.map (ofE y.row), y.w)) hyk
     have Es := Lib.hid es1
     have ln : (es.map (ofE y.row)).length = es.length := by simp
     have Ln := Lib.hid ln
     generalize es.map (ofE y.row) = VR at cv Es Ln
     clear hyk hmem hre es1 ln hyv
     go_upto_region 11 with fail
     refine wp_forget (fun Z => Blk Z wr.heap.size 47 #[.slice y.A y.row.length y.cap, .int .i64 y.w] ∧ Grow wr Z) ⟨Blk.new _ _ _, (Grow.refl wr).al _⟩ ?_
     rintro Z ⟨Bz, Gz⟩
     apply wp_region_calm 9 (by kernel_rfl) (by kernel_rfl)
     case h' =>
      intro Q0 hQ0
      simp only [List.take_succ_cons, List.take_zero]
      repeat (
       first
        | (apply calm_p rfl; case h1 => (intro w1 hw1 hF K hK; obtain ⟨bz, fz⟩ := (Bz.grow hw1).rules; go_simp; first | exact hK _ (Grow.refl _) | fail))
        | (apply calm_y rfl rfl rfl; case h1 => (intro w1 hw1 hF K hK; obtain ⟨bz, fz⟩ := (Bz.grow hw1).rules; go_simp; first | exact hK _ (Grow.refl _) | fail))
        | apply calm_n rfl rfl rfl rfl
       intro K hK
       go_simp
       apply hK
       clear hK K)
      apply calm_fp (PV es.length VR) rfl
      case h1 =>
       intro w1 hw1 hF K hK
       go_simp
       go_at_call 142
       refine (cv w1 (Gz.trans hw1)).mono ?_
       rintro en w' ⟨B, cap, rfl, ho, hg'⟩
       exact ⟨_, rfl, hK _ _ hg' ⟨B, cap, rfl, _, ho⟩⟩
      intro v39 K hK
      go_simp
      apply hK
      clear hK K
      repeat (
       first
        | (apply calm_p rfl; case h1 => (intro w1 hw1 hF K hK; obtain ⟨bz, fz⟩ := (Bz.grow hw1).rules; go_simp; first | exact hK _ (Grow.refl _) | fail))
        | (apply calm_y rfl rfl rfl; case h1 => (intro w1 hw1 hF K hK; obtain ⟨bz, fz⟩ := (Bz.grow hw1).rules; go_simp; first | exact hK _ (Grow.refl _) | fail))
        | apply calm_n rfl rfl rfl rfl
       intro K hK
       go_simp
       apply hK
       clear hK K)
      apply calm_fp (PZ es.length y.w VR) rfl
      case h1 =>
       intro w1 hw1 hF K hK
       obtain ⟨B, cap, hv, h1⟩ := hF _ (List.mem_cons_self ..) ⟨_, rfl, by decide⟩
       subst hv
       go_simp
       exact hK _ _ (Grow.refl _) ⟨B, cap, rfl, h1⟩
      intro v42 K hK
      go_simp
      apply hK
      clear hK K
      repeat (
       first
        | (apply calm_p rfl; case h1 => (intro w1 hw1 hF K hK; obtain ⟨bz, fz⟩ := (Bz.grow hw1).rules; go_simp; first | exact hK _ (Grow.refl _) | fail))
        | (apply calm_y rfl rfl rfl; case h1 => (intro w1 hw1 hF K hK; obtain ⟨bz, fz⟩ := (Bz.grow hw1).rules; go_simp; first | exact hK _ (Grow.refl _) | fail))
        | apply calm_n rfl rfl rfl rfl
       intro K hK
       go_simp
       apply hK
       clear hK K)
      apply calm_fp (PB es.length y.w VR) rfl
      case h1 =>
       intro w1 hw1 hF K hK
       obtain ⟨B, cap, hv, h1⟩ := hF _ (List.mem_cons_self ..) ⟨_, rfl, by decide⟩
       subst hv
       go_simp
       exact hK _ _ ((Grow.refl _).al _) ⟨B, cap, w1.heap.size, rfl, Blk.new _ _ _, h1.choose, own_grow h1.choose_spec ((Grow.refl _).al _)⟩
      intro v43 K hK
      go_simp
      apply hK
      clear hK K
      repeat (
       first
        | (apply calm_p rfl; case h1 => (intro w1 hw1 hF K hK; obtain ⟨bz, fz⟩ := (Bz.grow hw1).rules; go_simp; first | exact hK _ (Grow.refl _) | fail))
        | (apply calm_y rfl rfl rfl; case h1 => (intro w1 hw1 hF K hK; obtain ⟨bz, fz⟩ := (Bz.grow hw1).rules; go_simp; first | exact hK _ (Grow.refl _) | fail))
        | apply calm_n rfl rfl rfl rfl
       intro K hK
       go_simp
       apply hK
       clear hK K)
      refine calm_nil ?_
      intro w1 hw1 hF
      apply hQ0
      clear hQ0
      simp only [List.drop_succ_cons, List.drop_zero]
      obtain ⟨B, cap, gb, hv, hb1, base, ho⟩ := hF _ (List.mem_cons_self ..)
      subst hv
      clear hF
      have G1 := Gz.trans hw1
      have Own1 := Lib.hid (own_grow Own.out G1)
      have HB := Lib.hid hb1
      have HO := Lib.hid ho
      clear hb1 ho
      have lenO := Own.out.1
      rw [flatI_len] at lenO
      go_wp2_with (at_builtin; refine wpList_append_src rfl _ _ rfl w3.heap.size _ _ _ rfl Own1.out _ [I.mk B VR cap y.w] rfl (src_one Ln.out HB.out) (by simp; omega) (by have := (hg.trans G1).size; simp; omega) ?_; intro v7 w7 own7 gr7)
      have G7 : Grow w3 w7 := grow_own (hg.trans G1) gr7 Own1.out
      have Own7 := Lib.hid own7
      have O7 : ∀ u ∈ out ++ [I.mk B VR cap y.w], OwnR w7 u := fun u hu => by
       rcases List.mem_append.1 hu with hu | hu
       ·exact ((Ors.out u hu).grow G1).kept Own1.out gr7
       ·simp at hu
        subst hu
        exact OwnR.kept ⟨base, by have := HO.out; rw [← Ln.out] at this; exact this⟩ Own1.out gr7
      have OR7 := Lib.hid O7
      clear own7 gr7 O7
      go_roundw
      case rel => exact ⟨k + 1, out ++ [I.mk B VR cap y.w], by omega, by go_num, by simpa using Own7.out, by rw [Es.out, List.map_append, Map.out]; rfl, OR7.out, G7⟩
      case measure => simp [intOf]; omega
     case hp' => exact ⟨PV.pers _ _, PZ.pers _ _ _, PB.pers _ _ _, trivial⟩
    ·obtain rfl : k = xs.length := by omega
     obtain ⟨B, cap, rfl, hzf, hkf⟩ := own_zin2 Own.out (fun y hy => (Ors.out y hy).vsl)
     have lenO := Own.out.1
     rw [flatI_len] at lenO
     have hm := Map.out
     rw [List.take_length] at hm
     have hx2 : ∀ y ∈ out, ∃ x ∈ xs, y.row = es.map (ofE x.row) ∧ y.w = x.w := fun y hy => by
      have h1 := List.mem_map_of_mem (f := zOf) hy
      rw [hm] at h1
      obtain ⟨x, hx, e⟩ := List.mem_map.1 h1
      exact ⟨x, hx, (Prod.mk.inj e).1.symm, (Prod.mk.inj e).2.symm⟩
     have cs := sum_any out B cap wr (by omega) hzf (fun y hy => by obtain ⟨x, hx, e, _⟩ := hx2 y hy; rw [e]; simp; omega) (fun y hy => by
       obtain ⟨x, hx, e, _⟩ := hx2 y hy
       rw [e]
       intro v hv
       obtain ⟨u, hu, rfl⟩ := List.mem_map.1 hv
       exact fit_rv (Hty.out u hu) (Hfit.out x hx)) (fun y hy => by obtain ⟨x, hx, _, e⟩ := hx2 y hy; rw [e]; exact A4.out x hx)
     have eq2 : out.map zOf = (xs.map zOf).map (fun r => (es.map (ofE r.1), r.2)) := by rw [hm]; simp [zOf]
     rw [eq2, ← EQ.out] at cs
     clear hzf hkf hm hx2 eq2
     go_wp2_with (go_at_call 60; ((with_reducible refine cs.mono ?_); rintro en w7 ⟨C, zs, cap2, rfl, hz3, hm3, hk3, hg3⟩; have Out := Lib.hid (And.intro hz3 (And.intro hm3 hk3)); clear hz3 hm3 hk3))
     refine bodyPost_ret (by simp [results, Tryz.results103, go_sem] <;> rfl) rfl ?_
     exact ⟨C, zs, cap2, rfl, Out.out.1, Out.out.2.1, Out.out.2.2, G3.out.trans (hg.trans hg3)⟩
  ·subst h0
   have d1 : (IE != 0) = true := by simpa using h1
   have eQ : Q = ([], IE) := by rw [Fin.out]; simp [h1]
   go_wp2_with (first
    | (go_at_call 64; ((with_reducible refine ct.mono ?_); rintro e w2 ⟨BT, capT, rfl, _, _, hg2⟩))
    | (go_at_call 73; ((with_reducible refine (ci _ hg2).mono ?_); rintro e w3 ⟨rfl, hg3⟩)))
   refine bodyPost_ret (by simp [results, Tryz.results103, go_sem] <;> rfl) rfl ?_
   exact ⟨none, [], 0, by rw [eQ]; rfl, zin_nil _ _, by rw [eQ]; rfl, SlOk.nil, hg2.trans hg3⟩
 ·have d0 : (TE != 0) = true := by simpa using h0
  have eQ : Q = ([], TE) := by rw [Fin.out, if_pos h0]
  go_wp2_with (go_at_call 64; ((with_reducible refine ct.mono ?_); rintro e w2 ⟨BT, capT, rfl, _, _, hg2⟩))
  refine bodyPost_ret (by simp [results, Tryz.results103, go_sem] <;> rfl) rfl ?_
  exact ⟨none, [], 0, by rw [eQ]; rfl, zin_nil _ _, by rw [eQ]; rfl, SlOk.nil, hg2⟩
def holdI (x : E) (u r : List V) : Int := if holdB x r then rowI u r else 0
def valsR (es : List E) (r : List V) : List V := es.map (ofE r)
theorem map_okR {cols : List Int} {es : List E} {z : List Z} (h1 : (typesE cols es).2 = 0) (h2 : inputE cols z = 0) : okR (z.map (fun r => (es.map (ofE r.1), r.2))) := fun y hy => by
 obtain ⟨he8, hty⟩ := typesE_zero h1
 obtain ⟨r, hr, rfl⟩ := List.mem_map.1 hy
 refine ⟨by simpa using he8, fun v hv => ?_⟩
 obtain ⟨u, hu, rfl⟩ := List.mem_map.1 hv
 exact fit_rv (hty u hu) ((inputE_zero h2).2.2 r hr)
end Go.Proofs.YtifpomonpneanaaGreat
namespace Go.Proofs.YtifpomonpneanaaGreat
open Go.ChangeShapes Go.WideShapes Go.ChangeAt Go.RowKit Go.Calm
set_option maxRecDepth 100000
set_option linter.unusedVariables false
set_option linter.unusedSimpArgs false
section
variable {H : Type} {enc : TypeId × Value → H} {w : World} {base : Nat} {spare : Nat → Bool} {held : Bool}
theorem exs_cells {fuel : Nat} {cs : List Value} {x : DataW H × List MemPlace} (h : DataW.trod enc Tryz.prog w base spare held fuel 25 cs = some x) :
  ∃ (A : Option Addr) (xs : List E) (cap : Nat), cs = [.slice A xs.length cap] ∧ ESl w A xs ∧ xs.length ≤ maxLen ∧ xs.length ≤ cap := by
 obtain ⟨A, len, cap, n, D, hcs, hl, hcap, hi⟩ := slice_cells (c := 6) Tryz.underlying25 (by kernel_rfl) (by omega) h
 haveI : Inhabited E := ⟨.leaf⟩
 obtain ⟨xs, hxl, hx⟩ := list_of (α := E) (P := fun i x => ∃ g o, A = some ⟨g, o, none⟩ ∧ ECells w g (o + i * 6) x ∧ EX w x) len (fun i hlt => by
  obtain ⟨g, o, ys, hA, hyl, hat, hd⟩ := hi i hlt
  obtain ⟨x, hx, hv⟩ := ex_cells _ hd
  subst hx
  exact ⟨x, g, o, hA, ⟨hat 0 _ rfl, hat 1 _ rfl, hat 2 _ rfl, hat 3 _ rfl, hat 4 _ rfl, hat 5 _ rfl⟩, hv⟩)
 exact ⟨A, xs, cap, by rw [hcs, hxl], hx, by omega, by omega⟩
end
end Go.Proofs.YtifpomonpneanaaGreat
