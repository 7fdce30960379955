/- Parts of a proof. No condition. -/
import Derived.Test.YtphaeahdmfapgaaGreatGTd
set_option maxRecDepth 100000
set_option maxHeartbeats 2000000
set_option linter.unusedSimpArgs false
set_option linter.unusedVariables false
namespace Go.Proofs.YtphaeahdmfapgaaGreat
open Go.RowKit Go.Calm
structure J where
 A : Option Addr
 row : List V
 cap : Nat
 x : I
 b : Nat
instance : Inhabited J := ⟨⟨none, [], 0, default, 0⟩⟩
abbrev J.val (x : J) : Value := .agg #[.slice x.A x.row.length x.cap, .slice (some ⟨x.b, 0, none⟩) 1 1]
def xG : List J -> List Value
 | [] => []
 | x :: xs => .slice x.A x.row.length x.cap :: .slice (some ⟨x.b, 0, none⟩) 1 1 :: xG xs
theorem ZV : ∀ xs : List J, (xG xs).length = xs.length * 2
 | [] => rfl
 | x :: xs => by simp [xG, ZV xs]; omega
theorem JR : ∀ (xs : List J) (i : Nat) (x : J), xs[i]? = some x -> (xG xs)[i * 2]? = some (.slice x.A x.row.length x.cap) /\ (xG xs)[i * 2 + 1]? = some (.slice (some ⟨x.b, 0, none⟩) 1 1)
 | [], i, x, h => by simp at h
 | y :: ys, 0, x, h => by simp at h; subst h; simp [xG]
 | y :: ys, i + 1, x, h => by
  have := JR ys i x uT_; rw [show (i + 1) * 2 = i * 2 + 2 by omega]; simpa [xG] using this
theorem JT : ∀ (xs : List J) (i : Nat) (y : J), i < xs.length -> ((xG xs).set (i * 2) (.slice y.A y.row.length y.cap)).set (i * 2 + 1) (.slice (some ⟨y.b, 0, none⟩) 1 1) = xG (xs.set i y)
 | [], i, y, h => by simp at h
 | x :: xs, 0, y, h => by simp [xG]
 | x :: xs, i + 1, y, h => by
  have := JT xs i y uT_; rw [show (i + 1) * 2 = i * 2 + 1 + 1 by omega]; simp only [xG, List.set_cons_succ]; rw [<- this]
theorem Zf : ∀ xs ys : List J, xG (xs ++ ys) = xG xs ++ xG ys
 | [], ys => rfl
 | x :: xs, ys => by simp [xG, Zf xs ys]
def ku (w : World) (g : Nat) (xs : List J) : Prop := ∃ rest : List Value, zc w g 150 (xG xs ++ rest).toArray
theorem ku.lt {w : World} {g : Nat} {xs : List J} (h : ku w g xs) : g < w.heap.size := by
 obtain ⟨r, h⟩ := h; exact zc.lt h
theorem ku.at {w : World} {g : Nat} {xs : List J} (h : ku w g xs) {i : Nat} {x : J} (hx : xs[i]? = some x) : w.cell? ⟨g, i * 2, none⟩ = some (.slice x.A x.row.length x.cap) /\ w.cell? ⟨g, i * 2 + 1, none⟩ = some (.slice (some ⟨x.b, 0, none⟩) 1 1) := by
 obtain ⟨r, h⟩ := h; obtain ⟨a, b⟩ := JR xs i x hx; have la := (qQ9.1 a).1; have lb := (qQ9.1 b).1; rw [zc.cell h, zc.cell h]; rw [List.getElem?_toArray, List.getElem?_toArray, List.getElem?_append_left la, List.getElem?_append_left lb]; exact ⟨a, b⟩
theorem ku.frozen {w : World} {g : Nat} {xs : List J} (h : ku w g xs) (i : Nat) : w.frozen? ⟨g, i, none⟩ = false := by
 obtain ⟨r, h⟩ := h; exact zc.frozen h i
theorem ku.grow {w w' : World} {g : Nat} {xs : List J} (h : ku w g xs) (hg : za w w') : ku w' g xs := by
 obtain ⟨r, h⟩ := h; exact ⟨r, zc.grow h hg⟩
theorem ku.drew {w : World} {g : Nat} {xs : List J} (h : ku w g xs) : ku w.drew g xs := h
theorem ku.put {w : World} {g : Nat} {xs : List J} (h : ku w g xs) {i : Nat} (hi : i < xs.length) (y : J) : ku ((w.setCell ⟨g, i * 2, none⟩ (.slice y.A y.row.length y.cap)).setCell ⟨g, i * 2 + 1, none⟩ (.slice (some ⟨y.b, 0, none⟩) 1 1)) g (xs.set i y) := by
 obtain ⟨r, h⟩ := h; have hb := ((zc.set h (i * 2) (.slice y.A y.row.length y.cap)).set (i * 2 + 1) (.slice (some ⟨y.b, 0, none⟩) 1 1))
 refine ⟨r, ?_⟩; rw [<- JT xs i y hi]; have l1 : i * 2 < (xG xs).length := by rw [ZV]; omega
 have l2 : i * 2 + 1 < ((xG xs).set (i * 2) (.slice y.A y.row.length y.cap)).length := by rw [List.length_set, ZV]; omega
 simp only [List.setIfInBounds_toArray, List.set_append_left _ _ l1, List.set_append_left _ _ l2] at hb; exact hb
theorem CX {w : World} {base n cap g : Nat} {xs : List J} (h : w.ownsRow base 150 2 (.slice (some ⟨g, 0, none⟩) n cap) n (xG xs)) : ku w g xs /\ base <= g := w2_
structure KJ where
 u : Unit
def Mo (K : KJ) (x y : J) : Int := zC xT x.row y.row
def kD (K : KJ) (x y : J) : Int := if zC zH x.row y.row ≠ 0 then zC zH x.row y.row else zC zH x.x.row y.x.row
def V4 (x y : J) : Prop := zZ x.x.row y.x.row < 0
structure jq (K : KJ) (g : Nat) (w0 : World) (x : J) : Prop where
 sl : ∀ W, GX g w0 W -> yS W x.A x.row
 len : x.row.length <= 9223372036854775807
 rv : ∀ v ∈ x.row, RV v
theorem NU {K : KJ} {g : Nat} {w0 : World} {x y : J} (hx : jq K g w0 x) (hy : jq K g w0 y) : kD K y x = - kD K x y := by
 have h1 := yu zH yr x.row y.row; have h2 := yu zH yr x.x.row y.x.row; unfold kD; split <;> split <;> omega
theorem Mq {K : KJ} {g : Nat} {w0 : World} {x y z : J} (hx : jq K g w0 x) (hy : jq K g w0 y) (hz : jq K g w0 z) (h1 : kD K x y <= 0) (h2 : kD K y z <= 0) : kD K x z <= 0 := by
 have k := Yv x.row y.row z.row; have r := Yv x.x.row y.x.row z.x.row; unfold kD at *; split at h1 <;> split at h2 <;> split <;> omega
abbrev RQ (K : KJ) (L : List J) : Prop := L.Pairwise (fun x y => kD K x y <= 0)
theorem T9 {K : KJ} {g : Nat} {w0 : World} {x y : J} (hx : jq K g w0 x) (hy : jq K g w0 y) (ht : V4 y x) : kD K x y < 0 ↔ Mo K x y < 0 := by
 have e := yv x.row y.row hx.rv hy.rv; have s := yu zH yr x.x.row y.x.row; unfold V4 zZ at ht; unfold kD Mo; rw [e]; split <;> omega
theorem Uc (K : KJ) (x y : J) (g : Nat) (w0 w : World) (hx : jq K g w0 x) (hy : jq K g w0 y) (hg : GX g w0 w) : Calls Tryz.prog 137 #[x.val, y.val] w fun e w' => e = .returned (.int .i64 (Mo K x y)) /\ za w w' := by
 have cr := fun W (h : za w W) => jJ x.row y.row x.A y.A x.cap y.cap W hx.len hy.len (hx.sl _ (hg.grow h)) (hy.sl _ (hg.grow h))
 have fin : Mo K x y = zC xT x.row y.row := rfl; rw [fin]; clear fin hx hy hg; unfold J.val; go_enter Tryz.func137, Tryz.ntmps137; go_upto_region 1 with fail
 refine zb (fun X => zc X w.heap.size 150 #[.slice x.A x.row.length x.cap, .slice (some ⟨x.b, 0, none⟩) 1 1] /\ zc X (w.heap.size + 1) 150 #[.slice y.A y.row.length y.cap, .slice (some ⟨y.b, 0, none⟩) 1 1] /\ za w X) ⟨(zc.new _ _ _).grow ((za.refl _).al _), zc.new' _ _ _ u5_, ((za.refl _).al _).al _⟩ ?_; generalize w.heap.size + 1 = g2; generalize w.heap.size = g1; rintro X ⟨B1, B2, G⟩; obtain ⟨bx, fx⟩ := B1.rules; obtain ⟨by1, fy⟩ := B2.rules
 go_wp2_with (go_at_call 71; ((with_reducible refine (cr _ G).mono ?_); rintro e w2 ⟨rfl, hg2⟩))
 go_ret; exact ⟨rfl, G.trans hg2⟩
abbrev T8 (K : KJ) : Value := .func (.func 137) #[] #[]
def Cj (K : KJ) : Cm .j J where
 A := J.A
 n := fun x => x.row.length
 cap := J.cap
 w := fun _ => 0
 b := J.b
 cmp := kD K
 ans := Mo K
 tg := V4
 good := jq K
 trans := Mq
 swap := NU
 lt := T9
 call := Uc K
theorem N5 (K : KJ) : ∀ xs : List J, (Cj K).flat xs = xG xs
 | [] => rfl
 | x :: xs => by have h := N5 K xs; unfold Cm.flat at *; unfold xG; rw [<- h]; rfl
theorem Ju {K : KJ} (L : List J) (N c g : Nat) (w0 w : World) (hN : N = L.length) (hmax : N <= 500000) (hT : L.Pairwise V4) (hG : ∀ x ∈ L, jq K g w0 x) (hg0 : GX g w0 w) (hd : ku w g L) :
  Calls Tryz.prog 136 #[.slice (some ⟨g, 0, none⟩) N c, (T8 K)] w fun en w' => en = .returned (.tuple #[]) /\ (∃ M' : List J, M'.Perm L /\ RQ K M' /\ ku w' g M') /\ GX g w w' := by
 obtain ⟨rs, hd⟩ := hd; refine (LO (Cj K) rs L N c g w0 w hN hmax hT hG hg0 (by unfold DY; rw [N5]; exact hd)).mono ?_; rintro en w' ⟨rfl, ⟨M, p, u, d⟩, hg⟩; exact ⟨rfl, ⟨M, p, u, rs, by unfold DY at d; rw [N5] at d; exact d⟩, hg⟩
