/-
  Joined texts of this claim: Jt0, Jt3, SoJ. What each proves its own head says; no condition beside those that each theorem names.
-/
import Derived.Test.YtamfpppbjaelaaaGTd
import Derived.Test.YtamfpppbjaelaaaGF
set_option maxRecDepth 100000
set_option maxHeartbeats 2000000
namespace Go.Proofs.Ytamfpppbjaelaaa
open Go.RowKit Go.Calm
set_option linter.unusedSimpArgs false
set_option linter.unusedVariables false
structure J where
  A : Option Addr
  row : List V
  cap : Nat
  x : I
  b : Nat
instance : Inhabited J := ⟨⟨none, [], 0, default, 0⟩⟩
abbrev J.val (x : J) : Value := .agg #[.slice x.A x.row.length x.cap, .slice (some ⟨x.b, 0, none⟩) 1 1]
def flatJ : List J → List Value
  | [] => []
  | x :: xs => .slice x.A x.row.length x.cap :: .slice (some ⟨x.b, 0, none⟩) 1 1 :: flatJ xs
theorem flatJ_len : ∀ xs : List J, (flatJ xs).length = xs.length * 2
  | [] => rfl
  | x :: xs => by simp [flatJ, flatJ_len xs]; omega
theorem flatJ_get : ∀ (xs : List J) (i : Nat) (x : J), xs[i]? = some x → (flatJ xs)[i * 2]? = some (.slice x.A x.row.length x.cap) ∧ (flatJ xs)[i * 2 + 1]? = some (.slice (some ⟨x.b, 0, none⟩) 1 1)
  | [], i, x, h => by simp at h
  | y :: ys, 0, x, h => by simp at h; subst h; simp [flatJ]
  | y :: ys, i + 1, x, h => by
    have := flatJ_get ys i x (by simpa using h)
    rw [show (i + 1) * 2 = i * 2 + 2 by omega]
    simpa [flatJ] using this
theorem flatJ_set : ∀ (xs : List J) (i : Nat) (y : J), i < xs.length → ((flatJ xs).set (i * 2) (.slice y.A y.row.length y.cap)).set (i * 2 + 1) (.slice (some ⟨y.b, 0, none⟩) 1 1) = flatJ (xs.set i y)
  | [], i, y, h => by simp at h
  | x :: xs, 0, y, h => by simp [flatJ]
  | x :: xs, i + 1, y, h => by
    have := flatJ_set xs i y (by simpa using h)
    rw [show (i + 1) * 2 = i * 2 + 1 + 1 by omega]
    simp only [flatJ, List.set_cons_succ]
    rw [← this]
theorem flatJ_append : ∀ xs ys : List J, flatJ (xs ++ ys) = flatJ xs ++ flatJ ys
  | [], ys => rfl
  | x :: xs, ys => by simp [flatJ, flatJ_append xs ys]
def DBxJ (w : World) (g : Nat) (xs : List J) : Prop := ∃ rest : List Value, Blk w g 106 (flatJ xs ++ rest).toArray
theorem DBxJ.lt {w : World} {g : Nat} {xs : List J} (h : DBxJ w g xs) : g < w.heap.size := by
  obtain ⟨r, h⟩ := h
  exact Blk.lt h
theorem DBxJ.at {w : World} {g : Nat} {xs : List J} (h : DBxJ w g xs) {i : Nat} {x : J} (hx : xs[i]? = some x) : w.cell? ⟨g, i * 2, none⟩ = some (.slice x.A x.row.length x.cap) ∧ w.cell? ⟨g, i * 2 + 1, none⟩ = some (.slice (some ⟨x.b, 0, none⟩) 1 1) := by
  obtain ⟨r, h⟩ := h
  obtain ⟨a, b⟩ := flatJ_get xs i x hx
  have la := (List.getElem?_eq_some_iff.1 a).1
  have lb := (List.getElem?_eq_some_iff.1 b).1
  rw [Blk.cell h, Blk.cell h]
  rw [List.getElem?_toArray, List.getElem?_toArray, List.getElem?_append_left la, List.getElem?_append_left lb]
  exact ⟨a, b⟩
theorem DBxJ.frozen {w : World} {g : Nat} {xs : List J} (h : DBxJ w g xs) (i : Nat) : w.frozen? ⟨g, i, none⟩ = false := by
  obtain ⟨r, h⟩ := h
  exact Blk.frozen h i
theorem DBxJ.grow {w w' : World} {g : Nat} {xs : List J} (h : DBxJ w g xs) (hg : Grow w w') : DBxJ w' g xs := by
  obtain ⟨r, h⟩ := h
  exact ⟨r, Blk.grow h hg⟩
theorem DBxJ.drew {w : World} {g : Nat} {xs : List J} (h : DBxJ w g xs) : DBxJ w.drew g xs := h
theorem DBxJ.put {w : World} {g : Nat} {xs : List J} (h : DBxJ w g xs) {i : Nat} (hi : i < xs.length) (y : J) : DBxJ ((w.setCell ⟨g, i * 2, none⟩ (.slice y.A y.row.length y.cap)).setCell ⟨g, i * 2 + 1, none⟩ (.slice (some ⟨y.b, 0, none⟩) 1 1)) g (xs.set i y) := by
  obtain ⟨r, h⟩ := h
  have hb := ((Blk.set h (i * 2) (.slice y.A y.row.length y.cap)).set (i * 2 + 1) (.slice (some ⟨y.b, 0, none⟩) 1 1))
  refine ⟨r, ?_⟩
  rw [← flatJ_set xs i y hi]
  have l1 : i * 2 < (flatJ xs).length := by rw [flatJ_len]; omega
  have l2 : i * 2 + 1 < ((flatJ xs).set (i * 2) (.slice y.A y.row.length y.cap)).length := by rw [List.length_set, flatJ_len]; omega
  simp only [List.setIfInBounds_toArray, List.set_append_left _ _ l1, List.set_append_left _ _ l2] at hb
  exact hb
theorem own_dbJ {w : World} {base n cap g : Nat} {xs : List J} (h : w.ownsRow base 106 2 (.slice (some ⟨g, 0, none⟩) n cap) n (flatJ xs)) : DBxJ w g xs ∧ base ≤ g := by
  rcases h.2 with ⟨e, _⟩ | ⟨g', cap', cur, e, hB, hgb, _, _, _, ht⟩
  · simp at e
  · simp at e
    obtain ⟨rfl, rfl⟩ := e
    refine ⟨⟨cur.toList.drop (n * 2), ?_⟩, hB⟩
    unfold Blk
    rw [← ht, List.take_append_drop]
    simpa using hgb
structure KJ where
  u : Unit
def cmpKJ (K : KJ) (x y : J) : Int := rowsG cmpV x.row y.row
def cmpTJ (K : KJ) (x y : J) : Int := if rowsG ordV x.row y.row ≠ 0 then rowsG ordV x.row y.row else rowsG ordV x.x.row y.x.row
def tgJ (x y : J) : Prop := ordR x.x.row y.x.row < 0
structure GoodTJ (K : KJ) (g : Nat) (w0 : World) (x : J) : Prop where
  sl : ∀ W, GX g w0 W → VSl W x.A x.row
  len : x.row.length ≤ 9223372036854775807
  rv : ∀ v ∈ x.row, RV v
theorem cmpTJ_swap {K : KJ} {g : Nat} {w0 : World} {x y : J} (hx : GoodTJ K g w0 x) (hy : GoodTJ K g w0 y) : cmpTJ K y x = - cmpTJ K x y := by
  have h1 := rowsG_swap ordV ordV_swap x.row y.row
  have h2 := rowsG_swap ordV ordV_swap x.x.row y.x.row
  unfold cmpTJ
  split <;> split <;> omega
theorem cmpTJ_trans {K : KJ} {g : Nat} {w0 : World} {x y z : J} (hx : GoodTJ K g w0 x) (hy : GoodTJ K g w0 y) (hz : GoodTJ K g w0 z) (h1 : cmpTJ K x y ≤ 0) (h2 : cmpTJ K y z ≤ 0) : cmpTJ K x z ≤ 0 := by
  have k := rows_tr x.row y.row z.row
  have r := rows_tr x.x.row y.x.row z.x.row
  unfold cmpTJ at *
  split at h1 <;> split at h2 <;> split <;> omega
abbrev UpTJ (K : KJ) (L : List J) : Prop := L.Pairwise (fun x y => cmpTJ K x y ≤ 0)
theorem cmpKJ_lt {K : KJ} {g : Nat} {w0 : World} {x y : J} (hx : GoodTJ K g w0 x) (hy : GoodTJ K g w0 y) (ht : tgJ y x) : cmpTJ K x y < 0 ↔ cmpKJ K x y < 0 := by
  have e := rows_cmp_ord x.row y.row hx.rv hy.rv
  have s := rowsG_swap ordV ordV_swap x.x.row y.x.row
  unfold tgJ ordR at ht
  unfold cmpTJ cmpKJ
  rw [e]
  split <;> omega
theorem cmp_fnTJ (K : KJ) (x y : J) (g : Nat) (w0 w : World) (hx : GoodTJ K g w0 x) (hy : GoodTJ K g w0 y) (hg : GX g w0 w) : Calls Try.prog 65 #[x.val, y.val] w fun e w' => e = .returned (.int .i64 (cmpKJ K x y)) ∧ Grow w w' := by
  have cr := fun W (h : Grow w W) => vrows_any x.row y.row x.A y.A x.cap y.cap W hx.len hy.len (hx.sl _ (hg.grow h)) (hy.sl _ (hg.grow h))
  have fin : cmpKJ K x y = rowsG cmpV x.row y.row := rfl
  rw [fin]
  clear fin hx hy hg
  unfold J.val
  go_enter Try.func65, Try.ntmps65
  go_upto_region 1 with fail
  refine wp_forget (fun X => Blk X w.heap.size 106 #[.slice x.A x.row.length x.cap, .slice (some ⟨x.b, 0, none⟩) 1 1] ∧ Blk X (w.heap.size + 1) 106 #[.slice y.A y.row.length y.cap, .slice (some ⟨y.b, 0, none⟩) 1 1] ∧ Grow w X) ⟨(Blk.new _ _ _).grow ((Grow.refl _).al _), Blk.new' _ _ _ (by simp), ((Grow.refl _).al _).al _⟩ ?_
  generalize w.heap.size + 1 = g2
  generalize w.heap.size = g1
  rintro X ⟨B1, B2, G⟩
  obtain ⟨bx, fx⟩ := B1.rules
  obtain ⟨by1, fy⟩ := B2.rules
  go_wp2_with (go_at_call 24; ((with_reducible refine (cr _ G).mono ?_); rintro e w2 ⟨rfl, hg2⟩))
  go_ret
  exact ⟨rfl, G.trans hg2⟩
abbrev cmpFTJ (K : KJ) : Value := .func (.func 65) #[] #[]
def Cj (K : KJ) : Cm .j J where
  A := J.A
  n := fun x => x.row.length
  cap := J.cap
  w := fun _ => 0
  b := J.b
  cmp := cmpTJ K
  ans := cmpKJ K
  tg := tgJ
  good := GoodTJ K
  trans := cmpTJ_trans
  swap := cmpTJ_swap
  lt := cmpKJ_lt
  call := cmp_fnTJ K
theorem flat_j (K : KJ) : ∀ xs : List J, (Cj K).flat xs = flatJ xs
  | [] => rfl
  | x :: xs => by have h := flat_j K xs; unfold Cm.flat at *; unfold flatJ; rw [← h]; rfl
theorem sort_stableTJ {K : KJ} (L : List J) (N c g : Nat) (w0 w : World) (hN : N = L.length) (hmax : N ≤ 500000) (hT : L.Pairwise tgJ) (hG : ∀ x ∈ L, GoodTJ K g w0 x) (hg0 : GX g w0 w) (hd : DBxJ w g L) :
    Calls Try.prog 64 #[.slice (some ⟨g, 0, none⟩) N c, (cmpFTJ K)] w fun en w' => en = .returned (.tuple #[]) ∧ (∃ M' : List J, M'.Perm L ∧ UpTJ K M' ∧ DBxJ w' g M') ∧ GX g w w' := by
  obtain ⟨rs, hd⟩ := hd
  refine (sorted (Cj K) rs L N c g w0 w hN hmax hT hG hg0 (by unfold DY; rw [flat_j]; exact hd)).mono ?_
  rintro en w' ⟨rfl, ⟨M, p, u, d⟩, hg⟩
  exact ⟨rfl, ⟨M, p, u, rs, by unfold DY at d; rw [flat_j] at d; exact d⟩, hg⟩
end Go.Proofs.Ytamfpppbjaelaaa
