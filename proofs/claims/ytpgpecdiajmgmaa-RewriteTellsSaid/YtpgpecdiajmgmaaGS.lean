/-
  Joined texts of this claim: Lin, Op4, Op5, Op6, ReadE. What each proves its own head says; no condition beside those that each theorem names.
-/
import Derived.Test.YtpgpecdiajmgmaaGR
import Derived.Test.YtpgpecdiajmgmaaGH
import Derived.Test.YtpgpecdiajmgmaaGD
namespace Go.Proofs.Ytpgpecdiajmgmaa
open Go.RowKit Go.Calm
set_option linter.unusedSimpArgs false
set_option linter.unusedVariables false

end Go.Proofs.Ytpgpecdiajmgmaa

namespace Go.Proofs.Ytpgpecdiajmgmaa
open Go.RowKit Go.Calm
set_option linter.unusedSimpArgs false
set_option linter.unusedVariables false

def ESl (w : World) (A : Option Addr) (xs : List E) : Prop := ∀ i x, xs[i]? = some x → ∃ g o, A = some ⟨g, o, none⟩ ∧ ECells w g (o + i * 6) x ∧ EX w x
theorem ESl.grow {w w' : World} {A : Option Addr} {xs : List E} (h : ESl w A xs) (hg : Grow w w') : ESl w' A xs := fun i x hx => by
  obtain ⟨g, o, a, b, c⟩ := h i x hx
  exact ⟨g, o, a, b.grow hg, c.grow hg⟩
def typesGo (cols : List Int) : List E → List Int × Int
  | [] => ([], 0)
  | x :: l => if (typeE cols x).2 ≠ 0 then ([], (typeE cols x).2) else if (typesGo cols l).2 ≠ 0 then ([], (typesGo cols l).2) else ((typeE cols x).1 :: (typesGo cols l).1, 0)
theorem typesGo_ok (cols : List Int) : ∀ xs : List E, (∀ x ∈ xs, (typeE cols x).2 = 0) → typesGo cols xs = (xs.map (fun x => (typeE cols x).1), 0)
  | [], _ => rfl
  | x :: l, h => by
    have ih := typesGo_ok cols l (fun y hy => h y (List.mem_cons_of_mem _ hy))
    unfold typesGo
    rw [if_neg (by rw [h x (List.mem_cons_self ..)]; simp), ih, if_neg (by simp)]
    rfl
theorem typesGo_bad (cols : List Int) : ∀ (xs : List E) (k : Nat) (x : E), xs[k]? = some x → (∀ y ∈ xs.take k, (typeE cols y).2 = 0) → (typeE cols x).2 ≠ 0 → typesGo cols xs = ([], (typeE cols x).2)
  | [], k, x, h, _, _ => by simp at h
  | y :: l, 0, x, h, _, h2 => by
    simp at h; subst h
    unfold typesGo
    rw [if_pos h2]
  | y :: l, k + 1, x, h, h1, h2 => by
    have ih := typesGo_bad cols l k x (by simpa using h) (fun u hu => h1 u (by rw [List.take_succ_cons]; exact List.mem_cons_of_mem _ hu)) h2
    unfold typesGo
    rw [if_neg (by rw [h1 y (by rw [List.take_succ_cons]; exact List.mem_cons_self ..)]; simp), ih, if_pos h2]
theorem typesGo_zero {cols : List Int} : ∀ {xs : List E}, (typesGo cols xs).2 = 0 → ∀ x ∈ xs, (typeE cols x).2 = 0
  | [], _, x, hx => by simp at hx
  | y :: l, h, x, hx => by
    unfold typesGo at h
    split at h
    · rename_i h1; exact absurd h h1
    · rename_i h1
      split at h
      · rename_i h2; exact absurd h h2
      · rename_i h2
        rcases List.mem_cons.1 hx with rfl | hx
        · simpa using h1
        · exact typesGo_zero (by simpa using h2) x hx
def typesE (cols : List Int) (xs : List E) : List Int × Int := if 8 < xs.length then ([], 5) else typesGo cols xs
theorem typesE_zero {cols : List Int} {xs : List E} (h : (typesE cols xs).2 = 0) : xs.length ≤ 8 ∧ ∀ x ∈ xs, (typeE cols x).2 = 0 := by
  unfold typesE at h
  split at h
  · simp at h
  · exact ⟨by omega, typesGo_zero h⟩

theorem own_isl {w : World} {base : Nat} {v : Value} {n : Nat} {ys : List Int} (h : w.ownsRow base 3 1 v n (ys.map (Value.int .i64))) : ∃ (B : Option Addr) (cap : Nat), v = .slice B ys.length cap ∧ ISl w B ys ∧ SlOk B ys.length cap := by
  have hn := h.1
  obtain ⟨_, h⟩ := h
  obtain rfl : n = ys.length := by simpa using hn.symm
  rcases h with ⟨rfl, h0⟩ | ⟨gb, cap, cur, rfl, hB, hgb, hle, hmx, hcs, htk⟩
  · have : ys = [] := List.length_eq_zero_iff.1 h0
    subst this
    exact ⟨none, 0, rfl, fun i x hx => by simp at hx, SlOk.nil⟩
  · have hb : Blk w gb 3 cur := hgb
    refine ⟨some ⟨gb, 0, none⟩, cap, rfl, fun i x hx => ⟨gb, 0, rfl, ?_⟩, ⟨hle, fun h => by cases h⟩⟩
    have hv : (ys.map (Value.int .i64))[i]? = some (.int .i64 x) := by simp [hx]
    rw [← htk, List.getElem?_take] at hv
    split at hv
    · rw [Nat.zero_add, hb.cell]; simpa using hv
    · cases hv
def NewA (w : World) (B : Option Addr) : Prop := ∀ a, B = some a → w.heap.size ≤ a.block
theorem own_new {w : World} {base n m s cap : Nat} {e : TypeId} {B : Option Addr} {vs : List Value} (h : w.ownsRow base e s (.slice B n cap) m vs) : ∀ a, B = some a → base ≤ a.block := fun a ha => by
  subst ha
  exact (h.lt a.block rfl).1
theorem isl_nil (w : World) (A : Option Addr) : ISl w A [] := fun i x hx => by simp at hx
theorem take_sn {α β : Type} (f : α → β) {xs : List α} {k : Nat} {x : α} (h : xs[k]? = some x) : (xs.take (k + 1)).map f = (xs.take k).map f ++ [f x] := by
  obtain ⟨h1, e1⟩ := List.getElem?_eq_some_iff.1 h
  rw [List.take_succ_eq_append_getElem h1, e1]; simp

set_option maxRecDepth 100000 in
set_option maxHeartbeats 4000000 in
theorem typesN_any (cols : List Int) (Ac : Option Addr) (cc : Nat) (xs : List E) (A : Option Addr) (c : Nat) (w : World) (hlen : cols.length ≤ 9223372036854775807) (hl : xs.length ≤ 9223372036854775807) (hc : ISl w Ac cols) (hx : ESl w A xs) :
    Calls Try.prog 32 #[.slice Ac cols.length cc, .slice A xs.length c] w fun en w' => ∃ (B : Option Addr) (cap : Nat), en = .returned (.tuple #[.slice B (typesE cols xs).1.length cap, .int .i64 (typesE cols xs).2]) ∧ ISl w' B (typesE cols xs).1 ∧ SlOk B (typesE cols xs).1.length cap ∧ NewA w B ∧ Grow w w' := by
  have Hx := Lib.hid hx
  have Hc := Lib.hid hc
  have Ti := Lib.hid info_int'
  clear hx hc
  obtain ⟨R, hR⟩ : ∃ R, typesE cols xs = R := ⟨_, rfl⟩
  rw [hR]
  have HR := Lib.hid hR
  clear hR
  go_enter Try.func32, Try.ntmps32
  by_cases h8 : 8 < xs.length
  · have d8 : decide ((8 : Int) < (xs.length : Int)) = true := decide_eq_true (by omega)
    have e : R = ([], 5) := by rw [← HR.out]; unfold typesE; rw [if_pos h8]
    subst e
    go_wp2
    refine bodyPost_ret (by simp [results, Try.results32, go_sem] <;> rfl) rfl ?_
    exact ⟨none, 0, rfl, isl_nil _ _, SlOk.nil, (fun a ha => by cases ha), Grow.refl _⟩
  · have d8 : decide ((8 : Int) < (xs.length : Int)) = false := decide_eq_false (by omega)
    have e : R = typesGo cols xs := by rw [← HR.out]; unfold typesE; rw [if_neg h8]
    have Re := Lib.hid e
    clear e
    go_wp2
    go_loopw [6, 16] (fun t i wr => ∃ k : Nat, k ≤ xs.length ∧ i = .int .i64 k ∧ wr.ownsRow w.heap.size 3 1 t k (((xs.take k).map (fun x => (typeE cols x).1)).map (Value.int .i64)) ∧ (∀ x ∈ xs.take k, (typeE cols x).2 = 0) ∧ Grow w wr) (fun _ i _ => xs.length - (intOf i).toNat)
    case atStart => exact ⟨0, Nat.zero_le _, rfl, World.ownsRow_nil _ _ _ _, fun x hx => by simp at hx, Grow.refl w⟩
    case round =>
      obtain ⟨k, hk, rfl, hown, hz, hg⟩ := hrel
      have Own := Lib.hid hown
      have Hz := Lib.hid hz
      clear hown hz
      by_cases hlt : k < xs.length
      · obtain ⟨x, hxk⟩ : ∃ x, xs[k]? = some x := ⟨_, List.getElem?_eq_getElem hlt⟩
        obtain ⟨gx, ox, rfl, hec, hex⟩ := (Hx.out.grow hg) k x hxk
        obtain ⟨c0, c1, c2, c3, c4, c5⟩ := hec
        obtain ⟨T, F, hTF⟩ : ∃ T F, typeE cols x = (T, F) := ⟨_, _, rfl⟩
        have ct := fun W (h : Grow wr W) => type_any cols Ac cc x W hlen (Hc.out.grow (hg.trans h)) (hex.grow h)
        rw [hTF] at ct
        simp only at ct
        have Hxk := Lib.hid hxk
        have HTF := Lib.hid hTF
        have hl2 := Own.out.lt
        have HL2 := Lib.hid hl2
        clear hxk hex hTF hl2
        unfold E.val at ct
        obtain ⟨ti, hti, hz0, hz1, hz2⟩ := Ti.out
        by_cases h0 : F = 0
        · subst h0
          go_wp2_with (first
            | (go_at_call 63; ((with_reducible refine (ct _ (by repeat (first | (with_reducible exact Grow.refl _) | (with_reducible assumption) | (with_reducible refine Grow.set ?_ (by first | (simp; done) | (simp; omega)) _) | (with_reducible refine Grow.al ?_ _) | (with_reducible refine Grow.drew ?_) | (with_reducible refine Grow.drewN ?_ _) | (with_reducible refine Grow.trans ?_ (by assumption))))).mono ?_); rintro e w2 ⟨rfl, hg2⟩; have Own2 := Lib.hid (own_grow Own.out (((Grow.refl wr).al _).trans hg2)); have G2 := (hg.al _).trans hg2; clear hg2))
            | (at_builtin; refine wpList_append_own _ rfl _ _ 38 rfl w.heap.size 3 ti (.int .i64 0) 1 8 Try.underlying38 hti hz0 hz1 hz2 rfl (by decide) _ _ _ rfl (Own2.out.alloc _) ⟨w2.heap.size, 0, none⟩ 1 1 [.int .i64 T] rfl rfl ?c1 ?c2 ?c3 ?c4 ?c5 ?_))
          case c1 =>
            intro j u hj
            match j, hj with
            | 0, hj => simp at hj; subst hj; simp [Addr.add]
          case c2 => intro u hu; simp at hu; subst hu; rfl
          case c3 => unfold maxLen; omega
          case c4 => omega
          case c5 => have := G2.size; simp; omega
          · intro v' w7 hown' hgrow _
            have hg7 : Grow w w7 := Grow.own (G2.al _) hgrow (fun i hi => (HL2.out i hi).1)
            clear hgrow
            go_wp2
            go_roundw
            case rel => exact ⟨k + 1, by omega, by go_num, by rw [take_sn _ Hxk.out, HTF.out]; simpa using hown', fun y hy => by
              obtain ⟨h1, e1⟩ := List.getElem?_eq_some_iff.1 Hxk.out
              rw [List.take_succ_eq_append_getElem h1, e1] at hy
              rcases List.mem_append.1 hy with hy | hy
              · exact Hz.out y hy
              · simp at hy; subst hy; rw [HTF.out], hg7⟩
            case measure => simp [intOf]; omega
        · have d0 : (F != 0) = true := by simpa using h0
          have e : R = ([], F) := by rw [Re.out, typesGo_bad cols xs k x Hxk.out Hz.out (by rw [HTF.out]; exact h0), HTF.out]
          subst e
          go_wp2_with (go_at_call 63; ((with_reducible refine (ct _ (by repeat (first | (with_reducible exact Grow.refl _) | (with_reducible assumption) | (with_reducible refine Grow.set ?_ (by first | (simp; done) | (simp; omega)) _) | (with_reducible refine Grow.al ?_ _) | (with_reducible refine Grow.drew ?_) | (with_reducible refine Grow.drewN ?_ _) | (with_reducible refine Grow.trans ?_ (by assumption))))).mono ?_); rintro e w2 ⟨rfl, hg2⟩; have G2 := (hg.al _).trans hg2; clear hg2))
          refine bodyPost_ret (by simp [results, Try.results32, go_sem] <;> rfl) rfl ?_
          exact ⟨none, 0, rfl, isl_nil _ _, SlOk.nil, (fun a ha => by cases ha), G2⟩
      · obtain rfl : k = xs.length := by omega
        have own := Own.out
        rw [List.take_length] at own
        have e : R = (xs.map (fun x => (typeE cols x).1), 0) := by rw [Re.out, typesGo_ok cols xs (by have := Hz.out; rw [List.take_length] at this; exact this)]
        subst e
        obtain ⟨B, cap, rfl, hi, hs⟩ := own_isl own
        have Fin := Lib.hid (And.intro hi (And.intro hs (own_new own)))
        clear own hi hs
        go_wp2
        refine bodyPost_ret (by simp [results, Try.results32, go_sem] <;> rfl) rfl ?_
        exact ⟨B, cap, by simp, Fin.out.1, by simpa using Fin.out.2.1, Fin.out.2.2, hg⟩

end Go.Proofs.Ytpgpecdiajmgmaa

namespace Go.Proofs.Ytpgpecdiajmgmaa
open Go.RowKit Go.Calm
set_option linter.unusedSimpArgs false
set_option linter.unusedVariables false

def OwnR (w : World) (y : I) : Prop := ∃ base, w.ownsRow base 24 3 (.slice y.A y.row.length y.cap) y.row.length (flatW y.row)
theorem OwnR.grow {w w' : World} {y : I} (h : OwnR w y) (hg : Grow w w') : OwnR w' y := ⟨_, own_grow h.choose_spec hg⟩
theorem OwnR.kept {w w' : World} {y : I} {base n : Nat} {v : Value} {xs : List Value} (h : OwnR w y) (hown : w.ownsRow base 51 2 v n xs) (hg : w.grownBy w' v.ownBlock) : OwnR w' y :=
  ⟨_, World.ownsRow.kept h.choose_spec hg (own_types h.choose_spec hown (by decide))⟩
def PV (n : Nat) (vs : List V) (v : Value) (W : World) : Prop := ∃ (B : Option Addr) (cap : Nat), v = .slice B n cap ∧ ∃ base, W.ownsRow base 24 3 (.slice B n cap) n (flatW vs)
def PZ (n : Nat) (m : Int) (vs : List V) (v : Value) (W : World) : Prop := ∃ (B : Option Addr) (cap : Nat), v = .agg #[.slice B n cap, .int .i64 m] ∧ ∃ base, W.ownsRow base 24 3 (.slice B n cap) n (flatW vs)
def PB (n : Nat) (m : Int) (vs : List V) (v : Value) (W : World) : Prop := ∃ (B : Option Addr) (cap g : Nat), v = .slice (some ⟨g, 0, none⟩) 1 1 ∧ Blk W g 51 #[.slice B n cap, .int .i64 m] ∧ ∃ base, W.ownsRow base 24 3 (.slice B n cap) n (flatW vs)
theorem PV.pers (n : Nat) (vs : List V) : ∀ v w w', Grow w w' → PV n vs v w → PV n vs v w' := fun v w w' hg ⟨B, cap, e, base, h⟩ => ⟨B, cap, e, base, own_grow h hg⟩
theorem PZ.pers (n : Nat) (m : Int) (vs : List V) : ∀ v w w', Grow w w' → PZ n m vs v w → PZ n m vs v w' := fun v w w' hg ⟨B, cap, e, base, h⟩ => ⟨B, cap, e, base, own_grow h hg⟩
theorem PB.pers (n : Nat) (m : Int) (vs : List V) : ∀ v w w', Grow w w' → PB n m vs v w → PB n m vs v w' := fun v w w' hg ⟨B, cap, g, e, hb, base, h⟩ => ⟨B, cap, g, e, hb.grow hg, base, own_grow h hg⟩
end Go.Proofs.Ytpgpecdiajmgmaa

namespace Go.Proofs.Ytpgpecdiajmgmaa
open Go.RowKit Go.Calm
set_option linter.unusedSimpArgs false
set_option linter.unusedVariables false

end Go.Proofs.Ytpgpecdiajmgmaa

namespace Go.Proofs.Ytpgpecdiajmgmaa
open Go.ChangeShapes Go.WideShapes Go.ChangeAt Go.RowKit Go.Calm
set_option maxRecDepth 100000
set_option linter.unusedVariables false
set_option linter.unusedSimpArgs false
section
variable {H : Type} {enc : TypeId × Value → H} {w : World} {base : Nat} {spare : Nat → Bool} {held : Bool}
theorem exs_cells {fuel : Nat} {cs : List Value} {x : DataW H × List MemPlace} (h : DataW.trod enc Try.prog w base spare held fuel 25 cs = some x) :
    ∃ (A : Option Addr) (xs : List E) (cap : Nat), cs = [.slice A xs.length cap] ∧ ESl w A xs ∧ xs.length ≤ maxLen ∧ xs.length ≤ cap := by
  obtain ⟨A, len, cap, n, D, hcs, hl, hcap, hi⟩ := slice_cells (c := 6) Try.underlying25 (by kernel_rfl) (by omega) h
  haveI : Inhabited E := ⟨.leaf⟩
  obtain ⟨xs, hxl, hx⟩ := list_of (α := E) (P := fun i x => ∃ g o, A = some ⟨g, o, none⟩ ∧ ECells w g (o + i * 6) x ∧ EX w x) len (fun i hlt => by
    obtain ⟨g, o, ys, hA, hyl, hat, hd⟩ := hi i hlt
    obtain ⟨x, hx, hv⟩ := ex_cells _ hd
    subst hx
    exact ⟨x, g, o, hA, ⟨hat 0 _ rfl, hat 1 _ rfl, hat 2 _ rfl, hat 3 _ rfl, hat 4 _ rfl, hat 5 _ rfl⟩, hv⟩)
  exact ⟨A, xs, cap, by rw [hcs, hxl], hx, by omega, by omega⟩
end
end Go.Proofs.Ytpgpecdiajmgmaa
