/- Parts of a proof. No condition. -/
import Derived.Test.YtflggnopgnoeiaaGreatGTd
set_option maxRecDepth 100000
set_option maxHeartbeats 2000000
set_option linter.unusedSimpArgs false
set_option linter.unusedVariables false
namespace Go.Proofs.YtflggnopgnoeiaaGreat
open Go.RowKit Go.Calm
structure J where
 A : Option Addr
 row : List V
 cap : Nat
 x : I
 b : Nat
instance : Inhabited J := ⟨⟨none, [], 0, default, 0⟩⟩
abbrev J.val (x : J) : Value := .agg #[.slice x.A x.row.length x.cap, .slice (some ⟨x.b, 0, none⟩) 1 1]
def xS : List J -> List Value
 | [] => []
 | x :: xs => .slice x.A x.row.length x.cap :: .slice (some ⟨x.b, 0, none⟩) 1 1 :: xS xs
theorem QP : ∀ xs : List J, (xS xs).length = xs.length * 2
 | [] => rfl
 | x :: xs => by simp [xS, QP xs]; omega
theorem LS : ∀ (xs : List J) (i : Nat) (x : J), xs[i]? = some x -> (xS xs)[i * 2]? = some (.slice x.A x.row.length x.cap) /\ (xS xs)[i * 2 + 1]? = some (.slice (some ⟨x.b, 0, none⟩) 1 1)
 | [], i, x, h => by simp at h
 | y :: ys, 0, x, h => by simp at h; subst h; simp [xS]
 | y :: ys, i + 1, x, h => by
  have := LS ys i x uI_; rw [show (i + 1) * 2 = i * 2 + 2 by omega]; simpa [xS] using this
theorem LU : ∀ (xs : List J) (i : Nat) (y : J), i < xs.length -> ((xS xs).set (i * 2) (.slice y.A y.row.length y.cap)).set (i * 2 + 1) (.slice (some ⟨y.b, 0, none⟩) 1 1) = xS (xs.set i y)
 | [], i, y, h => by simp at h
 | x :: xs, 0, y, h => by simp [xS]
 | x :: xs, i + 1, y, h => by
  have := LU xs i y uI_; rw [show (i + 1) * 2 = i * 2 + 1 + 1 by omega]; simp only [xS, List.set_cons_succ]; rw [<- this]
theorem Qf : ∀ xs ys : List J, xS (xs ++ ys) = xS xs ++ xS ys
 | [], ys => rfl
 | x :: xs, ys => by simp [xS, Qf xs ys]
def Xd (w : World) (g : Nat) (xs : List J) : Prop := ∃ rest : List Value, zb w g 218 (xS xs ++ rest).toArray
theorem Xd.lt {w : World} {g : Nat} {xs : List J} (h : Xd w g xs) : g < w.heap.size := by
 obtain ⟨r, h⟩ := h; exact zb.lt h
theorem Xd.at {w : World} {g : Nat} {xs : List J} (h : Xd w g xs) {i : Nat} {x : J} (hx : xs[i]? = some x) : w.cell? ⟨g, i * 2, none⟩ = some (.slice x.A x.row.length x.cap) /\ w.cell? ⟨g, i * 2 + 1, none⟩ = some (.slice (some ⟨x.b, 0, none⟩) 1 1) := by
 obtain ⟨r, h⟩ := h; obtain ⟨a, b⟩ := LS xs i x hx; have la := (qQ9.1 a).1; have lb := (qQ9.1 b).1; rw [zb.cell h, zb.cell h]; rw [List.getElem?_toArray, List.getElem?_toArray, List.getElem?_append_left la, List.getElem?_append_left lb]; exact ⟨a, b⟩
theorem Xd.frozen {w : World} {g : Nat} {xs : List J} (h : Xd w g xs) (i : Nat) : w.frozen? ⟨g, i, none⟩ = false := by
 obtain ⟨r, h⟩ := h; exact zb.frozen h i
theorem Xd.grow {w w' : World} {g : Nat} {xs : List J} (h : Xd w g xs) (hg : za w w') : Xd w' g xs := by
 obtain ⟨r, h⟩ := h; exact ⟨r, zb.grow h hg⟩
theorem Xd.drew {w : World} {g : Nat} {xs : List J} (h : Xd w g xs) : Xd w.drew g xs := h
theorem Xd.put {w : World} {g : Nat} {xs : List J} (h : Xd w g xs) {i : Nat} (hi : i < xs.length) (y : J) : Xd ((w.setCell ⟨g, i * 2, none⟩ (.slice y.A y.row.length y.cap)).setCell ⟨g, i * 2 + 1, none⟩ (.slice (some ⟨y.b, 0, none⟩) 1 1)) g (xs.set i y) := by
 obtain ⟨r, h⟩ := h; have hb := ((zb.set h (i * 2) (.slice y.A y.row.length y.cap)).set (i * 2 + 1) (.slice (some ⟨y.b, 0, none⟩) 1 1))
 refine ⟨r, ?_⟩; rw [<- LU xs i y hi]; have l1 : i * 2 < (xS xs).length := by rw [QP]; omega
 have l2 : i * 2 + 1 < ((xS xs).set (i * 2) (.slice y.A y.row.length y.cap)).length := by rw [List.length_set, QP]; omega
 simp only [List.setIfInBounds_toArray, List.set_append_left _ _ l1, List.set_append_left _ _ l2] at hb; exact hb
theorem Ht {w : World} {base n cap g : Nat} {xs : List J} (h : w.ownsRow base 218 2 (.slice (some ⟨g, 0, none⟩) n cap) n (xS xs)) : Xd w g xs /\ base <= g := wM_
structure KJ where
 u : Unit
def Pm (K : KJ) (x y : J) : Int := zv x4 x.row y.row
def Xf (K : KJ) (x y : J) : Int := if zv zO x.row y.row ≠ 0 then zv zO x.row y.row else zv zO x.x.row y.x.row
def Ft (x y : J) : Prop := zK x.x.row y.x.row < 0
structure jL (K : KJ) (g : Nat) (w0 : World) (x : J) : Prop where
 sl : ∀ W, GX g w0 W -> xi W x.A x.row
 len : x.row.length <= 9223372036854775807
 rv : ∀ v ∈ x.row, RV v
theorem R7 {K : KJ} {g : Nat} {w0 : World} {x y : J} (hx : jL K g w0 x) (hy : jL K g w0 y) : Xf K y x = - Xf K x y := by
 have h1 := yo zO yq x.row y.row; have h2 := yo zO yq x.x.row y.x.row; unfold Xf; split <;> split <;> omega
theorem Po {K : KJ} {g : Nat} {w0 : World} {x y z : J} (hx : jL K g w0 x) (hy : jL K g w0 y) (hz : jL K g w0 z) (h1 : Xf K x y <= 0) (h2 : Xf K y z <= 0) : Xf K x z <= 0 := by
 have k := Za x.row y.row z.row; have r := Za x.x.row y.x.row z.x.row; unfold Xf at *; split at h1 <;> split at h2 <;> split <;> omega
abbrev Uv (K : KJ) (L : List J) : Prop := L.Pairwise (fun x y => Xf K x y <= 0)
theorem CJ {K : KJ} {g : Nat} {w0 : World} {x y : J} (hx : jL K g w0 x) (hy : jL K g w0 y) (ht : Ft y x) : Xf K x y < 0 ↔ Pm K x y < 0 := by
 have e := yg x.row y.row hx.rv hy.rv; have s := yo zO yq x.x.row y.x.row; unfold Ft zK at ht; unfold Xf Pm; rw [e]; split <;> omega
theorem CX (K : KJ) (x y : J) (g : Nat) (w0 w : World) (hx : jL K g w0 x) (hy : jL K g w0 y) (hg : GX g w0 w) : Calls Tryz.prog 213 #[x.val, y.val] w fun e w' => e = .returned (.int .i64 (Pm K x y)) /\ za w w' := by
 have cr := fun W (h : za w W) => qY x.row y.row x.A y.A x.cap y.cap W hx.len hy.len (hx.sl _ (hg.grow h)) (hy.sl _ (hg.grow h))
 have fin : Pm K x y = zv x4 x.row y.row := rfl; rw [fin]; clear fin hx hy hg; unfold J.val; go_enter Tryz.func213, Tryz.ntmps213; go_upto_region 1 with fail
 refine zc (fun X => zb X w.heap.size 218 #[.slice x.A x.row.length x.cap, .slice (some ⟨x.b, 0, none⟩) 1 1] /\ zb X (w.heap.size + 1) 218 #[.slice y.A y.row.length y.cap, .slice (some ⟨y.b, 0, none⟩) 1 1] /\ za w X) ⟨(zb.new _ _ _).grow ((za.refl _).al _), zb.new' _ _ _ uY_, ((za.refl _).al _).al _⟩ ?_; generalize w.heap.size + 1 = g2; generalize w.heap.size = g1; rintro X ⟨B1, B2, G⟩; obtain ⟨bx, fx⟩ := B1.rules; obtain ⟨by1, fy⟩ := B2.rules
 go_wp2_with (go_at_call 27; ((with_reducible refine (cr _ G).mono ?_); rintro e w2 ⟨rfl, hg2⟩))
 go_ret; exact ⟨rfl, G.trans hg2⟩
abbrev CI (K : KJ) : Value := .func (.func 213) #[] #[]
def Cj (K : KJ) : Cm .j J where
 A := J.A
 n := fun x => x.row.length
 cap := J.cap
 w := fun _ => 0
 b := J.b
 cmp := Xf K
 ans := Pm K
 tg := Ft
 good := jL K
 trans := Po
 swap := R7
 lt := CJ
 call := CX K
theorem Sp (K : KJ) : ∀ xs : List J, (Cj K).flat xs = xS xs
 | [] => rfl
 | x :: xs => by have h := Sp K xs; unfold Cm.flat at *; unfold xS; rw [<- h]; rfl
theorem Lg {K : KJ} (L : List J) (N c g : Nat) (w0 w : World) (hN : N = L.length) (hmax : N <= 500000) (hT : L.Pairwise Ft) (hG : ∀ x ∈ L, jL K g w0 x) (hg0 : GX g w0 w) (hd : Xd w g L) :
  Calls Tryz.prog 212 #[.slice (some ⟨g, 0, none⟩) N c, (CI K)] w fun en w' => en = .returned (.tuple #[]) /\ (∃ M' : List J, M'.Perm L /\ Uv K M' /\ Xd w' g M') /\ GX g w w' := by
 obtain ⟨rs, hd⟩ := hd; refine (NP (Cj K) rs L N c g w0 w hN hmax hT hG hg0 (by unfold DY; rw [Sp]; exact hd)).mono ?_; rintro en w' ⟨rfl, ⟨M, p, u, d⟩, hg⟩; exact ⟨rfl, ⟨M, p, u, rs, by unfold DY at d; rw [Sp] at d; exact d⟩, hg⟩
