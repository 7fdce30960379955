/- Parts of a proof. No condition. -/
import Derived.Test.YthhbiemnbkfobaaGreatGTd
set_option maxRecDepth 100000
set_option maxHeartbeats 2000000
set_option linter.unusedSimpArgs false
set_option linter.unusedVariables false
namespace Go.Proofs.YthhbiemnbkfobaaGreat
open Go.RowKit Go.Calm
structure J where
  A : Option Addr
  row : List V
  cap : Nat
  x : I
  b : Nat
instance : Inhabited J := ⟨⟨none, [], 0, default, 0⟩⟩
abbrev J.val (x : J) : Value := .agg #[.slice x.A x.row.length x.cap, .slice (some ⟨x.b, 0, none⟩) 1 1]
def xo : List J -> List Value
  | [] => []
  | x :: xs => .slice x.A x.row.length x.cap :: .slice (some ⟨x.b, 0, none⟩) 1 1 :: xo xs
theorem Zc : ∀ xs : List J, (xo xs).length = xs.length * 2
  | [] => rfl
  | x :: xs => by simp [xo, Zc xs]; omega
theorem Ji : ∀ (xs : List J) (i : Nat) (x : J), xs[i]? = some x -> (xo xs)[i * 2]? = some (.slice x.A x.row.length x.cap) /\ (xo xs)[i * 2 + 1]? = some (.slice (some ⟨x.b, 0, none⟩) 1 1)
  | [], i, x, h => by simp at h
  | y :: ys, 0, x, h => by simp at h; subst h; simp [xo]
  | y :: ys, i + 1, x, h => by
    have := Ji ys i x vM_; rw [show (i + 1) * 2 = i * 2 + 2 by omega]; simpa [xo] using this
theorem Jj : ∀ (xs : List J) (i : Nat) (y : J), i < xs.length -> ((xo xs).set (i * 2) (.slice y.A y.row.length y.cap)).set (i * 2 + 1) (.slice (some ⟨y.b, 0, none⟩) 1 1) = xo (xs.set i y)
  | [], i, y, h => by simp at h
  | x :: xs, 0, y, h => by simp [xo]
  | x :: xs, i + 1, y, h => by
    have := Jj xs i y vM_; rw [show (i + 1) * 2 = i * 2 + 1 + 1 by omega]; simp only [xo, List.set_cons_succ]; rw [<- this]
theorem YF : ∀ xs ys : List J, xo (xs ++ ys) = xo xs ++ xo ys
  | [], ys => rfl
  | x :: xs, ys => by simp [xo, YF xs ys]
def jL (w : World) (g : Nat) (xs : List J) : Prop := ∃ rest : List Value, zc w g 164 (xo xs ++ rest).toArray
theorem jL.lt {w : World} {g : Nat} {xs : List J} (h : jL w g xs) : g < w.heap.size := by
  obtain ⟨r, h⟩ := h; exact zc.lt h
theorem jL.at {w : World} {g : Nat} {xs : List J} (h : jL w g xs) {i : Nat} {x : J} (hx : xs[i]? = some x) : w.cell? ⟨g, i * 2, none⟩ = some (.slice x.A x.row.length x.cap) /\ w.cell? ⟨g, i * 2 + 1, none⟩ = some (.slice (some ⟨x.b, 0, none⟩) 1 1) := by
  obtain ⟨r, h⟩ := h; obtain ⟨a, b⟩ := Ji xs i x hx; have la := (qQ9.1 a).1; have lb := (qQ9.1 b).1; rw [zc.cell h, zc.cell h]; rw [List.getElem?_toArray, List.getElem?_toArray, List.getElem?_append_left la, List.getElem?_append_left lb]; exact ⟨a, b⟩
theorem jL.frozen {w : World} {g : Nat} {xs : List J} (h : jL w g xs) (i : Nat) : w.frozen? ⟨g, i, none⟩ = false := by
  obtain ⟨r, h⟩ := h; exact zc.frozen h i
theorem jL.grow {w w' : World} {g : Nat} {xs : List J} (h : jL w g xs) (hg : za w w') : jL w' g xs := by
  obtain ⟨r, h⟩ := h; exact ⟨r, zc.grow h hg⟩
theorem jL.drew {w : World} {g : Nat} {xs : List J} (h : jL w g xs) : jL w.drew g xs := h
theorem jL.put {w : World} {g : Nat} {xs : List J} (h : jL w g xs) {i : Nat} (hi : i < xs.length) (y : J) : jL ((w.setCell ⟨g, i * 2, none⟩ (.slice y.A y.row.length y.cap)).setCell ⟨g, i * 2 + 1, none⟩ (.slice (some ⟨y.b, 0, none⟩) 1 1)) g (xs.set i y) := by
  obtain ⟨r, h⟩ := h; have hb := ((zc.set h (i * 2) (.slice y.A y.row.length y.cap)).set (i * 2 + 1) (.slice (some ⟨y.b, 0, none⟩) 1 1))
  refine ⟨r, ?_⟩; rw [<- Jj xs i y hi]; have l1 : i * 2 < (xo xs).length := by rw [Zc]; omega
  have l2 : i * 2 + 1 < ((xo xs).set (i * 2) (.slice y.A y.row.length y.cap)).length := by rw [List.length_set, Zc]; omega
  simp only [List.setIfInBounds_toArray, List.set_append_left _ _ l1, List.set_append_left _ _ l2] at hb; exact hb
theorem V8 {w : World} {base n cap g : Nat} {xs : List J} (h : w.ownsRow base 164 2 (.slice (some ⟨g, 0, none⟩) n cap) n (xo xs)) : jL w g xs /\ base <= g := uv_
structure KJ where
  u : Unit
def LE (K : KJ) (x y : J) : Int := zB xP x.row y.row
def jP (K : KJ) (x y : J) : Int := if zB zX x.row y.row ≠ 0 then zB zX x.row y.row else zB zX x.x.row y.x.row
def UO (x y : J) : Prop := zv x.x.row y.x.row < 0
structure qR (K : KJ) (g : Nat) (w0 : World) (x : J) : Prop where
  sl : ∀ W, GX g w0 W -> xd W x.A x.row
  len : x.row.length <= 9223372036854775807
  rv : ∀ v ∈ x.row, RV v
theorem Ni {K : KJ} {g : Nat} {w0 : World} {x y : J} (hx : qR K g w0 x) (hy : qR K g w0 y) : jP K y x = - jP K x y := by
  have h1 := zY zX ya x.row y.row; have h2 := zY zX ya x.x.row y.x.row; unfold jP; split <;> split <;> omega
theorem LF {K : KJ} {g : Nat} {w0 : World} {x y z : J} (hx : qR K g w0 x) (hy : qR K g w0 y) (hz : qR K g w0 z) (h1 : jP K x y <= 0) (h2 : jP K y z <= 0) : jP K x z <= 0 := by
  have k := jC x.row y.row z.row; have r := jC x.x.row y.x.row z.x.row; unfold jP at *; split at h1 <;> split at h2 <;> split <;> omega
abbrev Rk (K : KJ) (L : List J) : Prop := L.Pairwise (fun x y => jP K x y <= 0)
theorem To {K : KJ} {g : Nat} {w0 : World} {x y : J} (hx : qR K g w0 x) (hy : qR K g w0 y) (ht : UO y x) : jP K x y < 0 ↔ LE K x y < 0 := by
  have e := yb x.row y.row hx.rv hy.rv; have s := zY zX ya x.x.row y.x.row; unfold UO zv at ht; unfold jP LE; rw [e]; split <;> omega
theorem Tt (K : KJ) (x y : J) (g : Nat) (w0 w : World) (hx : qR K g w0 x) (hy : qR K g w0 y) (hg : GX g w0 w) : Calls Tryz.prog 129 #[x.val, y.val] w fun e w' => e = .returned (.int .i64 (LE K x y)) /\ za w w' := by
  have cr := fun W (h : za w W) => qd x.row y.row x.A y.A x.cap y.cap W hx.len hy.len (hx.sl _ (hg.grow h)) (hy.sl _ (hg.grow h))
  have fin : LE K x y = zB xP x.row y.row := rfl; rw [fin]; clear fin hx hy hg; unfold J.val; go_enter Tryz.func129, Tryz.ntmps129; go_upto_region 1 with fail
  refine zd (fun X => zc X w.heap.size 164 #[.slice x.A x.row.length x.cap, .slice (some ⟨x.b, 0, none⟩) 1 1] /\ zc X (w.heap.size + 1) 164 #[.slice y.A y.row.length y.cap, .slice (some ⟨y.b, 0, none⟩) 1 1] /\ za w X) ⟨(zc.new _ _ _).grow ((za.refl _).al _), zc.new' _ _ _ vV_, ((za.refl _).al _).al _⟩ ?_; generalize w.heap.size + 1 = g2; generalize w.heap.size = g1; rintro X ⟨B1, B2, G⟩; obtain ⟨bx, fx⟩ := B1.rules; obtain ⟨by1, fy⟩ := B2.rules
  go_wp2_with (go_at_call 74; ((with_reducible refine (cr _ G).mono ?_); rintro e w2 ⟨rfl, hg2⟩))
  go_ret; exact ⟨rfl, G.trans hg2⟩
abbrev Tn (K : KJ) : Value := .func (.func 129) #[] #[]
def Cj (K : KJ) : Cm .j J where
  A := J.A
  n := fun x => x.row.length
  cap := J.cap
  w := fun _ => 0
  b := J.b
  cmp := jP K
  ans := LE K
  tg := UO
  good := qR K
  trans := LF
  swap := Ni
  lt := To
  call := Tt K
theorem NA (K : KJ) : ∀ xs : List J, (Cj K).flat xs = xo xs
  | [] => rfl
  | x :: xs => by have h := NA K xs; unfold Cm.flat at *; unfold xo; rw [<- h]; rfl
theorem WP {K : KJ} (L : List J) (N c g : Nat) (w0 w : World) (hN : N = L.length) (hmax : N <= 500000) (hT : L.Pairwise UO) (hG : ∀ x ∈ L, qR K g w0 x) (hg0 : GX g w0 w) (hd : jL w g L) :
    Calls Tryz.prog 128 #[.slice (some ⟨g, 0, none⟩) N c, (Tn K)] w fun en w' => en = .returned (.tuple #[]) /\ (∃ M' : List J, M'.Perm L /\ Rk K M' /\ jL w' g M') /\ GX g w w' := by
  obtain ⟨rs, hd⟩ := hd; refine (Wl (Cj K) rs L N c g w0 w hN hmax hT hG hg0 (by unfold DY; rw [NA]; exact hd)).mono ?_; rintro en w' ⟨rfl, ⟨M, p, u, d⟩, hg⟩; exact ⟨rfl, ⟨M, p, u, rs, by unfold DY at d; rw [NA] at d; exact d⟩, hg⟩
