/-
  Joined texts of this claim: Lin, Op4, Op5, Op6, ReadE. What each proves its own head says; no condition beside those that each theorem names.
-/
import Derived.Test.YtamfpppbjaelaaaGR
import Derived.Test.YtamfpppbjaelaaaGH
import Derived.Test.YtamfpppbjaelaaaGD
set_option maxRecDepth 100000
set_option maxHeartbeats 4000000
namespace Go.Proofs.Ytamfpppbjaelaaa
open Go.RowKit Go.Calm
set_option linter.unusedSimpArgs false
set_option linter.unusedVariables false
def Resp {α : Type} (f : List V → α) : Prop := ∀ r q, bareR r = bareR q → f r = f q
def sumF (f : List V → Int) : List Z → Int
  | [] => 0
  | x :: l => x.2 * f x.1 + sumF f l
theorem sumF_append (f : List V → Int) : ∀ a b : List Z, sumF f (a ++ b) = sumF f a + sumF f b
  | [], b => by simp [sumF]
  | x :: a, b => by simp only [List.cons_append, sumF, sumF_append f a b]; omega
theorem sumF_scale (f : List V → Int) (t : Int) : ∀ a : List Z, sumF f (scaleZ t a) = t * sumF f a
  | [] => by simp [scaleZ, sumF]
  | x :: a => by
    have ih := sumF_scale f t a
    unfold scaleZ at ih
    simp only [scaleZ, List.map_cons, sumF, ih]
    rw [Int.mul_add, Int.mul_assoc]
theorem sumF_part (f : List V → Int) (p : Z → Bool) : ∀ l : List Z, sumF f l = sumF f (l.filter p) + sumF f (l.filter (fun x => !p x))
  | [] => by simp [sumF]
  | x :: l => by
    have ih := sumF_part f p l
    rw [List.filter_cons, List.filter_cons]
    cases hx : p x
    · simp [sumF, ih]; omega
    · simp [sumF, ih]; omega
theorem sumF_one (f : List V → Int) (hf : Resp f) (r : List V) : ∀ l : List Z, sumF f (l.filter (fun x => decide (bareR x.1 = bareR r))) = f r * wtZ l r
  | [] => by simp [sumF, wtZ_nil]
  | x :: l => by
    have ih := sumF_one f hf r l
    rw [List.filter_cons, wtZ_cons]
    by_cases hx : bareR x.1 = bareR r
    · rw [if_pos (by simpa using hx), if_pos hx]
      simp only [sumF]
      rw [ih, hf _ _ hx, Int.mul_add, Int.mul_comm x.2]
    · rw [if_neg (by simpa using hx), if_neg hx, ih]; simp
theorem sumF_zero (f : List V → Int) (hf : Resp f) : ∀ (n : Nat) (l : List Z), l.length ≤ n → (∀ q, wtZ l q = 0) → sumF f l = 0
  | 0, l, hl, _ => by rw [List.length_eq_zero_iff.1 (by omega : l.length = 0)]; rfl
  | n + 1, [], _, _ => rfl
  | n + 1, x :: l, hl, h => by
    have e := sumF_part f (fun y => decide (bareR y.1 = bareR x.1)) (x :: l)
    rw [sumF_one f hf x.1, h x.1, Int.mul_zero, Int.zero_add] at e
    rw [e]
    refine sumF_zero f hf n _ ?_ (fun q => ?_)
    · rw [List.filter_cons, if_neg (by simp)]
      have := List.length_filter_le (fun y : Z => !decide (bareR y.1 = bareR x.1)) l
      simp at hl; omega
    · have := wt_filter (fun r => !decide (bareR r = bareR x.1)) (fun r q h => by rw [h]) q (x :: l)
      rw [this, h q]; split <;> rfl
theorem sumF_congr {f : List V → Int} (hf : Resp f) {a b : List Z} (h : ∀ q, wtZ a q = wtZ b q) : sumF f a = sumF f b := by
  have := sumF_zero f hf _ (a ++ scaleZ (-1) b) (Nat.le_refl _) (fun q => by rw [wtZ_append, wt_scale, h]; omega)
  rw [sumF_append, sumF_scale] at this
  omega
theorem sum_ok {l s : List Z} (hl : okR l) (h : sumZ l = (s, 0)) : Canon s ∧ wrongZ s = 0 ∧ ∀ q, wtZ s q = wtZ l q := by
  have sp := setZ_spec l (fun x hx => (hl x hx).2)
  unfold sumZ at h
  rcases fitZ_cases (setZ l) with ⟨e, hn, hb⟩ | ⟨e, he, hf⟩
  · rw [e] at h
    have es : setZ l = s := (Prod.mk.inj h).1
    have oks : okR s := by rw [← es]; exact okR_set hl
    rw [es] at sp hn hb
    exact ⟨sp.1, (SM.canon sp.1 oks hb hn).rz (by omega) (by omega), sp.2⟩
  · rw [hf] at h; exact absurd (Prod.mk.inj h).2 he
def rowI (u r : List V) : Int := if bareR r = bareR u then 1 else 0
theorem rowI_resp (u : List V) : Resp (rowI u) := fun r q h => by unfold rowI; rw [h]
theorem wt_sumF (l : List Z) (u : List V) : wtZ l u = sumF (rowI u) l := by
  induction l with
  | nil => rfl
  | cons x l ih =>
    rw [wtZ_cons, sumF, ih]
    unfold rowI
    by_cases h : bareR x.1 = bareR u
    · rw [if_pos h, if_pos h]; omega
    · rw [if_neg h, if_neg h]; omega
theorem wt_map (g : List V → List V) (u : List V) : ∀ l : List Z, wtZ (l.map (fun r => (g r.1, r.2))) u = sumF (fun r => rowI u (g r)) l
  | [] => rfl
  | x :: l => by
    have ih := wt_map g u l
    rw [List.map_cons, wtZ_cons, sumF, ih]
    unfold rowI
    by_cases h : bareR (g x.1) = bareR u
    · simp [h]
    · simp [h]
def ESl (w : World) (A : Option Addr) (xs : List E) : Prop := ∀ i x, xs[i]? = some x → ∃ g o, A = some ⟨g, o, none⟩ ∧ ECells w g (o + i * 6) x ∧ EX w x
theorem ESl.grow {w w' : World} {A : Option Addr} {xs : List E} (h : ESl w A xs) (hg : Grow w w') : ESl w' A xs := fun i x hx => by
  obtain ⟨g, o, a, b, c⟩ := h i x hx
  exact ⟨g, o, a, b.grow hg, c.grow hg⟩
def typesGo (cols : List Int) : List E → List Int × Int
  | [] => ([], 0)
  | x :: l => if (typeE cols x).2 ≠ 0 then ([], (typeE cols x).2) else if (typesGo cols l).2 ≠ 0 then ([], (typesGo cols l).2) else ((typeE cols x).1 :: (typesGo cols l).1, 0)
theorem typesGo_ok (cols : List Int) : ∀ xs : List E, (∀ x ∈ xs, (typeE cols x).2 = 0) → typesGo cols xs = (xs.map (fun x => (typeE cols x).1), 0)
  | [], _ => rfl
  | x :: l, h => by
    have ih := typesGo_ok cols l (fun y hy => h y (List.mem_cons_of_mem _ hy))
    unfold typesGo
    rw [if_neg (by rw [h x (List.mem_cons_self ..)]; simp), ih, if_neg (by simp)]
    rfl
theorem typesGo_bad (cols : List Int) : ∀ (xs : List E) (k : Nat) (x : E), xs[k]? = some x → (∀ y ∈ xs.take k, (typeE cols y).2 = 0) → (typeE cols x).2 ≠ 0 → typesGo cols xs = ([], (typeE cols x).2)
  | [], k, x, h, _, _ => by simp at h
  | y :: l, 0, x, h, _, h2 => by
    simp at h; subst h
    unfold typesGo
    rw [if_pos h2]
  | y :: l, k + 1, x, h, h1, h2 => by
    have ih := typesGo_bad cols l k x (by simpa using h) (fun u hu => h1 u (by rw [List.take_succ_cons]; exact List.mem_cons_of_mem _ hu)) h2
    unfold typesGo
    rw [if_neg (by rw [h1 y (by rw [List.take_succ_cons]; exact List.mem_cons_self ..)]; simp), ih, if_pos h2]
theorem typesGo_zero {cols : List Int} : ∀ {xs : List E}, (typesGo cols xs).2 = 0 → ∀ x ∈ xs, (typeE cols x).2 = 0
  | [], _, x, hx => by simp at hx
  | y :: l, h, x, hx => by
    unfold typesGo at h
    split at h
    · rename_i h1; exact absurd h h1
    · rename_i h1
      split at h
      · rename_i h2; exact absurd h h2
      · rename_i h2
        rcases List.mem_cons.1 hx with rfl | hx
        · simpa using h1
        · exact typesGo_zero (by simpa using h2) x hx
def typesE (cols : List Int) (xs : List E) : List Int × Int := if 8 < xs.length then ([], 5) else typesGo cols xs
theorem typesE_zero {cols : List Int} {xs : List E} (h : (typesE cols xs).2 = 0) : xs.length ≤ 8 ∧ ∀ x ∈ xs, (typeE cols x).2 = 0 := by
  unfold typesE at h
  split at h
  · simp at h
  · exact ⟨by omega, typesGo_zero h⟩

theorem own_isl {w : World} {base : Nat} {v : Value} {n : Nat} {ys : List Int} (h : w.ownsRow base 3 1 v n (ys.map (Value.int .i64))) : ∃ (B : Option Addr) (cap : Nat), v = .slice B ys.length cap ∧ ISl w B ys ∧ SlOk B ys.length cap := by
  have hn := h.1
  obtain ⟨_, h⟩ := h
  obtain rfl : n = ys.length := by simpa using hn.symm
  rcases h with ⟨rfl, h0⟩ | ⟨gb, cap, cur, rfl, hB, hgb, hle, hmx, hcs, htk⟩
  · have : ys = [] := List.length_eq_zero_iff.1 h0
    subst this
    exact ⟨none, 0, rfl, fun i x hx => by simp at hx, SlOk.nil⟩
  · have hb : Blk w gb 3 cur := hgb
    refine ⟨some ⟨gb, 0, none⟩, cap, rfl, fun i x hx => ⟨gb, 0, rfl, ?_⟩, ⟨hle, fun h => by cases h⟩⟩
    have hv : (ys.map (Value.int .i64))[i]? = some (.int .i64 x) := by simp [hx]
    rw [← htk, List.getElem?_take] at hv
    split at hv
    · rw [Nat.zero_add, hb.cell]; simpa using hv
    · cases hv
def NewA (w : World) (B : Option Addr) : Prop := ∀ a, B = some a → w.heap.size ≤ a.block
theorem own_new {w : World} {base n m s cap : Nat} {e : TypeId} {B : Option Addr} {vs : List Value} (h : w.ownsRow base e s (.slice B n cap) m vs) : ∀ a, B = some a → base ≤ a.block := fun a ha => by
  subst ha
  exact (h.lt a.block rfl).1
theorem isl_nil (w : World) (A : Option Addr) : ISl w A [] := fun i x hx => by simp at hx
theorem take_sn {α β : Type} (f : α → β) {xs : List α} {k : Nat} {x : α} (h : xs[k]? = some x) : (xs.take (k + 1)).map f = (xs.take k).map f ++ [f x] := by
  obtain ⟨h1, e1⟩ := List.getElem?_eq_some_iff.1 h
  rw [List.take_succ_eq_append_getElem h1, e1]; simp

theorem typesN_any (cols : List Int) (Ac : Option Addr) (cc : Nat) (xs : List E) (A : Option Addr) (c : Nat) (w : World) (hlen : cols.length ≤ 9223372036854775807) (hl : xs.length ≤ 9223372036854775807) (hc : ISl w Ac cols) (hx : ESl w A xs) :
    Calls Try.prog 18 #[.slice Ac cols.length cc, .slice A xs.length c] w fun en w' => ∃ (B : Option Addr) (cap : Nat), en = .returned (.tuple #[.slice B (typesE cols xs).1.length cap, .int .i64 (typesE cols xs).2]) ∧ ISl w' B (typesE cols xs).1 ∧ SlOk B (typesE cols xs).1.length cap ∧ NewA w B ∧ Grow w w' := by
  have Hx := Lib.hid hx
  have Hc := Lib.hid hc
  have Ti := Lib.hid info_int'
  clear hx hc
  obtain ⟨R, hR⟩ : ∃ R, typesE cols xs = R := ⟨_, rfl⟩
  rw [hR]
  have HR := Lib.hid hR
  clear hR
  go_enter Try.func18, Try.ntmps18
  by_cases h8 : 8 < xs.length
  · have d8 : decide ((8 : Int) < (xs.length : Int)) = true := decide_eq_true (by omega)
    have e : R = ([], 5) := by rw [← HR.out]; unfold typesE; rw [if_pos h8]
    subst e
    go_wp2
    refine bodyPost_ret (by simp [results, Try.results18, go_sem] <;> rfl) rfl ?_
    exact ⟨none, 0, rfl, isl_nil _ _, SlOk.nil, (fun a ha => by cases ha), Grow.refl _⟩
  · have d8 : decide ((8 : Int) < (xs.length : Int)) = false := decide_eq_false (by omega)
    have e : R = typesGo cols xs := by rw [← HR.out]; unfold typesE; rw [if_neg h8]
    have Re := Lib.hid e
    clear e
    go_wp2
    go_loopw [6, 16] (fun t i wr => ∃ k : Nat, k ≤ xs.length ∧ i = .int .i64 k ∧ wr.ownsRow w.heap.size 3 1 t k (((xs.take k).map (fun x => (typeE cols x).1)).map (Value.int .i64)) ∧ (∀ x ∈ xs.take k, (typeE cols x).2 = 0) ∧ Grow w wr) (fun _ i _ => xs.length - (intOf i).toNat)
    case atStart => exact ⟨0, Nat.zero_le _, rfl, World.ownsRow_nil _ _ _ _, fun x hx => by simp at hx, Grow.refl w⟩
    case round =>
      obtain ⟨k, hk, rfl, hown, hz, hg⟩ := hrel
      have Own := Lib.hid hown
      have Hz := Lib.hid hz
      clear hown hz
      by_cases hlt : k < xs.length
      · obtain ⟨x, hxk⟩ : ∃ x, xs[k]? = some x := ⟨_, List.getElem?_eq_getElem hlt⟩
        obtain ⟨gx, ox, rfl, hec, hex⟩ := (Hx.out.grow hg) k x hxk
        obtain ⟨c0, c1, c2, c3, c4, c5⟩ := hec
        obtain ⟨T, F, hTF⟩ : ∃ T F, typeE cols x = (T, F) := ⟨_, _, rfl⟩
        have ct := fun W (h : Grow wr W) => type_any cols Ac cc x W hlen (Hc.out.grow (hg.trans h)) (hex.grow h)
        rw [hTF] at ct
        simp only at ct
        have Hxk := Lib.hid hxk
        have HTF := Lib.hid hTF
        have hl2 := Own.out.lt
        have HL2 := Lib.hid hl2
        clear hxk hex hTF hl2
        unfold E.val at ct
        obtain ⟨ti, hti, hz0, hz1, hz2⟩ := Ti.out
        by_cases h0 : F = 0
        · subst h0
          go_wp2_with (first
            | (go_at_call 39; ((with_reducible refine (ct _ growW).mono ?_); rintro e w2 ⟨rfl, hg2⟩; have Own2 := Lib.hid (own_grow Own.out (((Grow.refl wr).al _).trans hg2)); have G2 := (hg.al _).trans hg2; clear hg2))
            | (at_builtin; refine wpList_append_own _ rfl _ _ 22 rfl w.heap.size 3 ti (.int .i64 0) 1 8 Try.underlying22 hti hz0 hz1 hz2 rfl (by decide) _ _ _ rfl (Own2.out.alloc _) ⟨w2.heap.size, 0, none⟩ 1 1 [.int .i64 T] rfl rfl ?c1 ?c2 ?c3 ?c4 ?c5 ?_))
          case c1 =>
            intro j u hj
            match j, hj with
            | 0, hj => simp at hj; subst hj; simp [Addr.add]
          case c2 => intro u hu; simp at hu; subst hu; rfl
          case c3 => unfold maxLen; omega
          case c4 => omega
          case c5 => have := G2.size; simp; omega
          · intro v' w7 hown' hgrow _
            have hg7 : Grow w w7 := Grow.own (G2.al _) hgrow (fun i hi => (HL2.out i hi).1)
            clear hgrow
            go_wp2
            go_roundw
            case rel => exact ⟨k + 1, by omega, by go_num, by rw [take_sn _ Hxk.out, HTF.out]; simpa using hown', fun y hy => by
              obtain ⟨h1, e1⟩ := List.getElem?_eq_some_iff.1 Hxk.out
              rw [List.take_succ_eq_append_getElem h1, e1] at hy
              rcases List.mem_append.1 hy with hy | hy
              · exact Hz.out y hy
              · simp at hy; subst hy; rw [HTF.out], hg7⟩
            case measure => simp [intOf]; omega
        · have d0 : (F != 0) = true := by simpa using h0
          have e : R = ([], F) := by rw [Re.out, typesGo_bad cols xs k x Hxk.out Hz.out (by rw [HTF.out]; exact h0), HTF.out]
          subst e
          go_wp2_with (go_at_call 39; ((with_reducible refine (ct _ growW).mono ?_); rintro e w2 ⟨rfl, hg2⟩; have G2 := (hg.al _).trans hg2; clear hg2))
          refine bodyPost_ret (by simp [results, Try.results18, go_sem] <;> rfl) rfl ?_
          exact ⟨none, 0, rfl, isl_nil _ _, SlOk.nil, (fun a ha => by cases ha), G2⟩
      · obtain rfl : k = xs.length := by omega
        have own := Own.out
        rw [List.take_length] at own
        have e : R = (xs.map (fun x => (typeE cols x).1), 0) := by rw [Re.out, typesGo_ok cols xs (by have := Hz.out; rw [List.take_length] at this; exact this)]
        subst e
        obtain ⟨B, cap, rfl, hi, hs⟩ := own_isl own
        have Fin := Lib.hid (And.intro hi (And.intro hs (own_new own)))
        clear own hi hs
        go_wp2
        refine bodyPost_ret (by simp [results, Try.results18, go_sem] <;> rfl) rfl ?_
        exact ⟨B, cap, by simp, Fin.out.1, by simpa using Fin.out.2.1, Fin.out.2.2, hg⟩

theorem types_any (cols : List Int) (Ac : Option Addr) (cc : Nat) (xs : List E) (A : Option Addr) (c : Nat) (w : World) (hlen : cols.length ≤ 9223372036854775807) (hl : xs.length ≤ 9223372036854775807) (hc : ISl w Ac cols) (hx : ESl w A xs) :
    Calls Try.prog 18 #[.slice Ac cols.length cc, .slice A xs.length c] w fun en w' => ∃ (B : Option Addr) (cap : Nat), en = .returned (.tuple #[.slice B (typesE cols xs).1.length cap, .int .i64 (typesE cols xs).2]) ∧ ISl w' B (typesE cols xs).1 ∧ SlOk B (typesE cols xs).1.length cap ∧ Grow w w' := (typesN_any cols Ac cc xs A c w hlen hl hc hx).mono fun e w' ⟨B, cap, h1, h2, h3, _, h4⟩ => ⟨B, cap, h1, h2, h3, h4⟩

theorem values_any (xs : List E) (A : Option Addr) (c : Nat) (row : List V) (Ar : Option Addr) (cr : Nat) (w : World) (hl : xs.length ≤ 1000) (hlr : row.length ≤ 9223372036854775807) (hx : ESl w A xs) (hre : ∀ x ∈ xs, RE row.length x) (hr : ∀ v ∈ row, RV v) (hrow : VSl w Ar row) :
    Calls Try.prog 21 #[.slice A xs.length c, .slice Ar row.length cr] w fun en w' => ∃ (B : Option Addr) (cap : Nat), en = .returned (.slice B xs.length cap) ∧ w'.ownsRow w.heap.size 30 3 (.slice B xs.length cap) xs.length (flatW (xs.map (ofE row))) ∧ Grow w w' := by
  have Hx := Lib.hid hx
  have Hre := Lib.hid hre
  have Hr := Lib.hid hr
  have Hrow := Lib.hid hrow
  have Ti := Lib.hid info_val2'
  clear hx hre hr hrow
  go_enter Try.func21, Try.ntmps21
  go_wp2
  go_loopw [5, 9] (fun t i wr => ∃ k : Nat, k ≤ xs.length ∧ i = .int .i64 k ∧ wr.ownsRow w.heap.size 30 3 t k (flatW ((xs.take k).map (ofE row))) ∧ Grow w wr) (fun _ i _ => xs.length - (intOf i).toNat)
  case atStart => exact ⟨0, Nat.zero_le _, rfl, World.ownsRow_nil _ _ _ _, Grow.refl w⟩
  case round =>
    obtain ⟨k, hk, rfl, hown, hg⟩ := hrel
    have Own := Lib.hid hown
    clear hown
    by_cases hlt : k < xs.length
    · obtain ⟨x, hxk⟩ : ∃ x, xs[k]? = some x := ⟨_, List.getElem?_eq_getElem hlt⟩
      obtain ⟨gx, ox, rfl, hec, hex⟩ := (Hx.out.grow hg) k x hxk
      have co := fun W (h : Grow wr W) => of_any row Ar cr hlr Hr.out x (Hre.out x (List.mem_of_getElem? hxk)) gx (ox + k * 6) wr W hex hec (Hrow.out.grow hg) h
      have e := take_sn (ofE row) hxk
      have E := Lib.hid e
      obtain ⟨ti, hti, hz0, hz1, hz2⟩ := Ti.out
      have hl2 := Own.out.lt
      have HL2 := Lib.hid hl2
      generalize ofE row x = v9 at *
      unfold V.val at co
      clear hxk e hl2 hec hex
      go_wp2_with (first
        | (go_at_call 30; ((with_reducible refine (co _ growW).mono ?_); rintro e w2 ⟨rfl, hg2⟩; have Own2 := Lib.hid (own_grow Own.out hg2); have G2 := hg.trans hg2; clear hg2))
        | (at_builtin; refine wpList_append_own _ rfl _ _ 37 rfl w.heap.size 30 ti (.agg #[.int .i64 0, .int .i64 0, .string ⟨#[]⟩]) 3 32 Try.underlying37 hti hz0 hz1 hz2 rfl (by decide) _ _ _ rfl (Own2.out.alloc _) ⟨w2.heap.size, 0, none⟩ 1 1 (flatW [v9]) rfl rfl ?c1 (flatW_one _) ?c3 ?c4 ?c5 ?_))
      case c1 =>
        intro j u hj
        match j, hj with
        | 0, hj => simp [flatW] at hj; subst hj; simp [Addr.add]
        | 1, hj => simp [flatW] at hj; subst hj; simp [Addr.add]
        | 2, hj => simp [flatW] at hj; subst hj; simp [Addr.add]
      case c3 => unfold maxLen; omega
      case c4 => omega
      case c5 => have := G2.size; simp; omega
      · intro v' w7 hown' hgrow _
        have hg7 : Grow w w7 := Grow.own (G2.al _) hgrow (fun i hi => (HL2.out i hi).1)
        clear hgrow
        go_wp2
        go_roundw
        case rel => exact ⟨k + 1, by omega, by go_num, by rw [E.out, flatW_append]; simpa using hown', hg7⟩
        case measure => simp [intOf]; omega
    · obtain rfl : k = xs.length := by omega
      have hfin : ∃ (B : Option Addr) (cap : Nat), u5 = .slice B xs.length cap := by
        have h := Own.out
        rcases h.2 with ⟨rfl, h0⟩ | ⟨gb, cap, cur, rfl, _⟩
        · exact ⟨none, 0, by rw [h0]⟩
        · exact ⟨_, _, rfl⟩
      obtain ⟨B, cap, rfl⟩ := hfin
      have own := Own.out
      rw [List.take_length] at own
      have Fin := Lib.hid own
      clear own
      go_wp2
      go_ret
      exact ⟨B, cap, rfl, Fin.out, hg⟩
def OwnR (w : World) (y : I) : Prop := ∃ base, w.ownsRow base 30 3 (.slice y.A y.row.length y.cap) y.row.length (flatW y.row)
theorem OwnR.grow {w w' : World} {y : I} (h : OwnR w y) (hg : Grow w w') : OwnR w' y := ⟨_, own_grow h.choose_spec hg⟩
theorem OwnR.kept {w w' : World} {y : I} {base n : Nat} {v : Value} {xs : List Value} (h : OwnR w y) (hown : w.ownsRow base 39 2 v n xs) (hg : w.grownBy w' v.ownBlock) : OwnR w' y :=
  ⟨_, World.ownsRow.kept h.choose_spec hg (own_types h.choose_spec hown (by decide))⟩
theorem OwnR.vsl {w : World} {y : I} (h : OwnR w y) : VSl w y.A y.row := by
  obtain ⟨base, h⟩ := h
  obtain ⟨B, c, e, hv⟩ := own_vsl h
  simp at e
  rw [e.1]; exact hv
def PV (n : Nat) (vs : List V) (v : Value) (W : World) : Prop := ∃ (B : Option Addr) (cap : Nat), v = .slice B n cap ∧ ∃ base, W.ownsRow base 30 3 (.slice B n cap) n (flatW vs)
def valsR (es : List E) (r : List V) : List V := es.map (ofE r)
theorem vals_bare (es : List E) (r : List V) : valsR es (bareR r) = valsR es r := by
  unfold valsR
  exact List.map_congr_left (fun e _ => of_bareR r e)
end Go.Proofs.Ytamfpppbjaelaaa

namespace Go.Proofs.Ytamfpppbjaelaaa
open Go.ChangeShapes Go.WideShapes Go.ChangeAt Go.RowKit Go.Calm
set_option maxRecDepth 100000
set_option linter.unusedVariables false
set_option linter.unusedSimpArgs false
section
variable {H : Type} {enc : TypeId × Value → H} {w : World} {base : Nat} {spare : Nat → Bool} {held : Bool}
theorem exs_cells {fuel : Nat} {cs : List Value} {x : DataW H × List MemPlace} (h : DataW.trod enc Try.prog w base spare held fuel 23 cs = some x) :
    ∃ (A : Option Addr) (xs : List E) (cap : Nat), cs = [.slice A xs.length cap] ∧ ESl w A xs ∧ xs.length ≤ maxLen ∧ xs.length ≤ cap := by
  obtain ⟨A, len, cap, n, D, hcs, hl, hcap, hi⟩ := slice_cells (c := 6) Try.underlying23 (by kernel_rfl) (by omega) h
  haveI : Inhabited E := ⟨.leaf⟩
  obtain ⟨xs, hxl, hx⟩ := list_of (α := E) (P := fun i x => ∃ g o, A = some ⟨g, o, none⟩ ∧ ECells w g (o + i * 6) x ∧ EX w x) len (fun i hlt => by
    obtain ⟨g, o, ys, hA, hyl, hat, hd⟩ := hi i hlt
    obtain ⟨x, hx, hv⟩ := ex_cells _ hd
    subst hx
    exact ⟨x, g, o, hA, ⟨hat 0 _ rfl, hat 1 _ rfl, hat 2 _ rfl, hat 3 _ rfl, hat 4 _ rfl, hat 5 _ rfl⟩, hv⟩)
  exact ⟨A, xs, cap, by rw [hcs, hxl], hx, by omega, by omega⟩
theorem exs_read {r : Reach} {b0 : Nat} {v : Value} {d : DataW H} {p : List MemPlace} (hv : Value.okWide Try.prog w r b0 23 v) (h : DataW.Trod enc Try.prog w base spare held 23 v d p) :
    ∃ (A : Option Addr) (xs : List E) (cap : Nat), v = .slice A xs.length cap ∧ ESl w A xs ∧ xs.length ≤ maxLen ∧ xs.length ≤ cap := by
  obtain ⟨a, len, cap, rfl⟩ := okWide_slice Try.underlying23 hv
  obtain ⟨fuel, hf⟩ := h
  obtain ⟨A, xs, c, hcs, h1, h2, h3⟩ := exs_cells hf
  simp [Value.cells] at hcs
  obtain ⟨rfl, rfl, rfl⟩ := hcs
  exact ⟨_, xs, _, rfl, h1, h2, h3⟩
end
end Go.Proofs.Ytamfpppbjaelaaa
