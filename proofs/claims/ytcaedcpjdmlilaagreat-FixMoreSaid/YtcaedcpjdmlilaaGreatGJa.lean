/-
 Joined texts of this claim: Jt0, Jt3, SoJ. What each proves its own head says; no condition beside those that each theorem names.
-/
import Derived.Test.YtcaedcpjdmlilaaGreatGTd
import Derived.Test.YtcaedcpjdmlilaaGreatGF
set_option maxRecDepth 100000
set_option maxHeartbeats 2000000
namespace Go.Proofs.YtcaedcpjdmlilaaGreat
open Go.RowKit Go.Calm
set_option linter.unusedSimpArgs false
set_option linter.unusedVariables false
structure J where
 A : Option Addr
 row : List V
 cap : Nat
 x : I
 b : Nat
instance : Inhabited J := ⟨⟨none, [], 0, default, 0⟩⟩
abbrev J.val (x : J) : Value := .agg #[.slice x.A x.row.length x.cap, .slice (some ⟨x.b, 0, none⟩) 1 1]
def jr : List J -> List Value
 | [] => []
 | x :: xs => .slice x.A x.row.length x.cap :: .slice (some ⟨x.b, 0, none⟩) 1 1 :: jr xs
theorem Lu : ∀ (xs : List J) (i : Nat) (x : J), xs[i]? = some x -> (jr xs)[i * 2]? = some (.slice x.A x.row.length x.cap) /\ (jr xs)[i * 2 + 1]? = some (.slice (some ⟨x.b, 0, none⟩) 1 1)
 | [], i, x, h => by simp at h
 | y :: ys, 0, x, h => by simp at h; subst h; simp [jr]
 | y :: ys, i + 1, x, h => by
  have := Lu ys i x (by simpa using h); rw [show (i + 1) * 2 = i * 2 + 2 by omega]; simpa [jr] using this
theorem Qd : ∀ xs ys : List J, jr (xs ++ ys) = jr xs ++ jr ys
 | [], ys => rfl
 | x :: xs, ys => by simp [jr, Qd xs ys]
def WQ (w : World) (g : Nat) (xs : List J) : Prop := ∃ rest : List Value, zb w g 203 (jr xs ++ rest).toArray
theorem WQ.lt {w : World} {g : Nat} {xs : List J} (h : WQ w g xs) : g < w.heap.size := by
 obtain ⟨r, h⟩ := h; exact zb.lt h
theorem WQ.at {w : World} {g : Nat} {xs : List J} (h : WQ w g xs) {i : Nat} {x : J} (hx : xs[i]? = some x) : w.cell? ⟨g, i * 2, none⟩ = some (.slice x.A x.row.length x.cap) /\ w.cell? ⟨g, i * 2 + 1, none⟩ = some (.slice (some ⟨x.b, 0, none⟩) 1 1) := by
 obtain ⟨r, h⟩ := h; obtain ⟨a, b⟩ := Lu xs i x hx; have la := (List.getElem?_eq_some_iff.1 a).1; have lb := (List.getElem?_eq_some_iff.1 b).1; rw [zb.cell h, zb.cell h]; rw [List.getElem?_toArray, List.getElem?_toArray, List.getElem?_append_left la, List.getElem?_append_left lb]; exact ⟨a, b⟩
theorem WQ.grow {w w' : World} {g : Nat} {xs : List J} (h : WQ w g xs) (hg : za w w') : WQ w' g xs := by
 obtain ⟨r, h⟩ := h; exact ⟨r, zb.grow h hg⟩
theorem FJ {w : World} {base n cap g : Nat} {xs : List J} (h : w.ownsRow base 203 2 (.slice (some ⟨g, 0, none⟩) n cap) n (jr xs)) : WQ w g xs /\ base <= g := by
 rcases h.2 with ⟨e, _⟩ | ⟨g', cap', cur, e, hB, hgb, _, _, _, ht⟩
 ·simp at e
 ·simp at e; obtain ⟨rfl, rfl⟩ := e; refine ⟨⟨cur.toList.drop (n * 2), ?_⟩, hB⟩; unfold zb; rw [<- ht, List.take_append_drop]; simpa using hgb
structure KJ where
 u : Unit
def NQ (K : KJ) (x y : J) : Int := zB x7 x.row y.row
def kL (K : KJ) (x y : J) : Int := if zB zU x.row y.row ≠ 0 then zB zU x.row y.row else zB zU x.x.row y.x.row
def DQ (x y : J) : Prop := zG x.x.row y.x.row < 0
structure jw (K : KJ) (g : Nat) (w0 : World) (x : J) : Prop where
 sl : ∀ W, GX g w0 W -> xp W x.A x.row
 len : x.row.length <= 9223372036854775807
 rv : ∀ v ∈ x.row, RV v
theorem RQ {K : KJ} {g : Nat} {w0 : World} {x y : J} (hx : jw K g w0 x) (hy : jw K g w0 y) : kL K y x = - kL K x y := by
 have h1 := yh zU yk x.row y.row; have h2 := yh zU yk x.x.row y.x.row; unfold kL; split <;> split <;> omega
theorem NS {K : KJ} {g : Nat} {w0 : World} {x y z : J} (hx : jw K g w0 x) (hy : jw K g w0 y) (hz : jw K g w0 z) (h1 : kL K x y <= 0) (h2 : kL K y z <= 0) : kL K x z <= 0 := by
 have k := YT x.row y.row z.row; have r := YT x.x.row y.x.row z.x.row; unfold kL at *; split at h1 <;> split at h2 <;> split <;> omega
abbrev Ub (K : KJ) (L : List J) : Prop := L.Pairwise (fun x y => kL K x y <= 0)
theorem V6 {K : KJ} {g : Nat} {w0 : World} {x y : J} (hx : jw K g w0 x) (hy : jw K g w0 y) (ht : DQ y x) : kL K x y < 0 ↔ NQ K x y < 0 := by
 have e := zW x.row y.row hx.rv hy.rv; have s := yh zU yk x.x.row y.x.row; unfold DQ zG at ht; unfold kL NQ; rw [e]; split <;> omega
theorem Ba (K : KJ) (x y : J) (g : Nat) (w0 w : World) (hx : jw K g w0 x) (hy : jw K g w0 y) (hg : GX g w0 w) : Calls Tryz.prog 195 #[x.val, y.val] w fun e w' => e = .returned (.int .i64 (NQ K x y)) /\ za w w' := by
 have cr := fun W (h : za w W) => qH x.row y.row x.A y.A x.cap y.cap W hx.len hy.len (hx.sl _ (hg.grow h)) (hy.sl _ (hg.grow h))
 have fin : NQ K x y = zB x7 x.row y.row := rfl; rw [fin]; clear fin hx hy hg; unfold J.val; go_enter Tryz.func195, Tryz.ntmps195; go_upto_region 1 with fail
 refine zc (fun X => zb X w.heap.size 203 #[.slice x.A x.row.length x.cap, .slice (some ⟨x.b, 0, none⟩) 1 1] /\ zb X (w.heap.size + 1) 203 #[.slice y.A y.row.length y.cap, .slice (some ⟨y.b, 0, none⟩) 1 1] /\ za w X) ⟨(zb.new _ _ _).grow ((za.refl _).al _), zb.new' _ _ _ (by simp), ((za.refl _).al _).al _⟩ ?_; generalize w.heap.size + 1 = g2; generalize w.heap.size = g1; rintro X ⟨B1, B2, G⟩; obtain ⟨bx, fx⟩ := B1.rules; obtain ⟨by1, fy⟩ := B2.rules
 go_wp2_with (go_at_call 85; ((with_reducible refine (cr _ G).mono ?_); rintro e w2 ⟨rfl, hg2⟩))
 go_ret; exact ⟨rfl, G.trans hg2⟩
abbrev V5 (K : KJ) : Value := .func (.func 195) #[] #[]
def Cj (K : KJ) : Cm .j J where
 A := J.A
 row := J.row
 cap := J.cap
 w := fun _ => 0
 b := J.b
 cmp := kL K
 ans := NQ K
 tg := DQ
 good := jw K
 trans := NS
 swap := RQ
 lt := V6
 call := Ba K
theorem Sb (K : KJ) : ∀ xs : List J, (Cj K).flat xs = jr xs
 | [] => rfl
 | x :: xs => by unfold Cm.flat jr; rw [Sb K xs]; rfl
theorem KZ {K : KJ} (L : List J) (N c g : Nat) (w0 w : World) (hN : N = L.length) (hmax : N <= 500000) (hT : L.Pairwise DQ) (hG : ∀ x ∈ L, jw K g w0 x) (hg0 : GX g w0 w) (hd : WQ w g L) :
  Calls Tryz.prog 194 #[.slice (some ⟨g, 0, none⟩) N c, (V5 K)] w fun en w' => en = .returned (.tuple #[]) /\ (∃ M' : List J, M'.Perm L /\ Ub K M' /\ WQ w' g M') /\ GX g w w' := by
 obtain ⟨rs, hd⟩ := hd; refine (Nl (Cj K) rs L N c g w0 w hN hmax hT hG hg0 (by unfold DY; rw [Sb]; exact hd)).mono ?_; rintro en w' ⟨rfl, ⟨M, p, u, d⟩, hg⟩; exact ⟨rfl, ⟨M, p, u, rs, by unfold DY at d; rw [Sb] at d; exact d⟩, hg⟩
end Go.Proofs.YtcaedcpjdmlilaaGreat

