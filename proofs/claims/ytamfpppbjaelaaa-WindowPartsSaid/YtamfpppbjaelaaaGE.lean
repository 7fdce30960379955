/-
  Joined texts of this claim: Srt, So0, So1, So2, So3, So4. What each proves its own head says; no condition beside those that each theorem names.
-/
import Derived.Test.YtamfpppbjaelaaaGB
import Derived.Test.YtamfpppbjaelaaaGA
import Derived.Shelf.SlicesQ.Reverse
import Derived.Deep.DeepCutAuto
set_option maxRecDepth 100000
set_option maxHeartbeats 8000000
namespace Go.Proofs.Ytamfpppbjaelaaa
open Go.RowKit Go.Calm
set_option linter.unusedSimpArgs false
set_option linter.unusedVariables false
structure I where
  A : Option Addr
  row : List V
  cap : Nat
  w : Int
instance : Inhabited I := ⟨⟨none, [], 0, 0⟩⟩
abbrev I.val (x : I) : Value := .agg #[.slice x.A x.row.length x.cap, .int .i64 x.w]
def flatI : List I → List Value
  | [] => []
  | x :: xs => .slice x.A x.row.length x.cap :: .int .i64 x.w :: flatI xs
theorem flatI_len : ∀ xs : List I, (flatI xs).length = xs.length * 2
  | [] => rfl
  | x :: xs => by simp [flatI, flatI_len xs]; omega
theorem flatI_get : ∀ (xs : List I) (i : Nat) (x : I), xs[i]? = some x → (flatI xs)[i * 2]? = some (.slice x.A x.row.length x.cap) ∧ (flatI xs)[i * 2 + 1]? = some (.int .i64 x.w)
  | [], i, x, h => by simp at h
  | y :: ys, 0, x, h => by simp at h; subst h; simp [flatI]
  | y :: ys, i + 1, x, h => by
    have := flatI_get ys i x (by simpa using h)
    rw [show (i + 1) * 2 = i * 2 + 2 by omega]
    simpa [flatI] using this
theorem flatI_set : ∀ (xs : List I) (i : Nat) (y : I), i < xs.length → ((flatI xs).set (i * 2) (.slice y.A y.row.length y.cap)).set (i * 2 + 1) (.int .i64 y.w) = flatI (xs.set i y)
  | [], i, y, h => by simp at h
  | x :: xs, 0, y, h => by simp [flatI]
  | x :: xs, i + 1, y, h => by
    have := flatI_set xs i y (by simpa using h)
    rw [show (i + 1) * 2 = i * 2 + 1 + 1 by omega]
    simp only [flatI, List.set_cons_succ]
    rw [← this]
theorem flatI_append : ∀ xs ys : List I, flatI (xs ++ ys) = flatI xs ++ flatI ys
  | [], ys => rfl
  | x :: xs, ys => by simp [flatI, flatI_append xs ys]

def DB (w : World) (g : Nat) (xs : List I) : Prop := Blk w g 39 (flatI xs).toArray
theorem DB.lt {w : World} {g : Nat} {xs : List I} (h : DB w g xs) : g < w.heap.size := Blk.lt h
theorem DB.at {w : World} {g : Nat} {xs : List I} (h : DB w g xs) {i : Nat} {x : I} (hx : xs[i]? = some x) : w.cell? ⟨g, i * 2, none⟩ = some (.slice x.A x.row.length x.cap) ∧ w.cell? ⟨g, i * 2 + 1, none⟩ = some (.int .i64 x.w) := by
  obtain ⟨a, b⟩ := flatI_get xs i x hx
  rw [Blk.cell h, Blk.cell h]
  exact ⟨by simpa using a, by simpa using b⟩
theorem DB.frozen {w : World} {g : Nat} {xs : List I} (h : DB w g xs) (i : Nat) : w.frozen? ⟨g, i, none⟩ = false := Blk.frozen h i
theorem DB.grow {w w' : World} {g : Nat} {xs : List I} (h : DB w g xs) (hg : Grow w w') : DB w' g xs := Blk.grow h hg
theorem DB.put {w : World} {g : Nat} {xs : List I} (h : DB w g xs) {i : Nat} (hi : i < xs.length) (y : I) : DB ((w.setCell ⟨g, i * 2, none⟩ (.slice y.A y.row.length y.cap)).setCell ⟨g, i * 2 + 1, none⟩ (.int .i64 y.w)) g (xs.set i y) := by
  have hb := ((Blk.set h (i * 2) (.slice y.A y.row.length y.cap)).set (i * 2 + 1) (.int .i64 y.w))
  unfold DB
  rw [← flatI_set xs i y hi]
  simpa using hb
theorem GX.put {g : Nat} {a b : World} (h : GX g a b) (i : Nat) (u v : Value) (j : Nat) : GX g a ((b.setCell ⟨g, i, none⟩ u).setCell ⟨g, j, none⟩ v) := (h.set _ _).set _ _

theorem set_mid {α : Type} (L R : List α) (x y : α) (n : Nat) (hn : n = L.length) : (L ++ x :: R).set n y = L ++ y :: R := by
  subst hn
  induction L with
  | nil => rfl
  | cons a L ih => simp [ih]
theorem swap_list {α : Type} (L1 L2 L3 : List α) (x y : α) : ((L1 ++ x :: (L2 ++ y :: L3)).set L1.length y).set (L1.length + 1 + L2.length) x = L1 ++ y :: (L2 ++ x :: L3) := by
  rw [set_mid L1 _ x y _ rfl, show L1 ++ y :: (L2 ++ y :: L3) = (L1 ++ y :: L2) ++ y :: L3 by simp, set_mid _ _ y x _ (by simp; omega)]
  simp
theorem get_mid {α : Type} (L : List α) (x : α) (R : List α) : (L ++ x :: R)[L.length]? = some x := by simp
inductive Ck where
  | t
  | j
  | l
@[reducible] def Ck.fn : Ck → Nat
  | .t => 78
  | .j => 65
  | .l => 23
@[reducible] def Ck.F : Ck → Value
  | .t => .func (.func 78) #[] #[]
  | .j => .func (.func 65) #[] #[]
  | .l => .func (.func 23) #[] #[]
@[reducible] def Ck.args : Ck → Value → Value → Array Value
  | .t, x, y => #[x, y]
  | .j, x, y => #[x, y]
  | .l, x, y => #[x, y]
@[reducible] def Ck.ty : Ck → TypeId
  | .t => 39
  | .j => 106
  | .l => 61
@[reducible] def Ck.c0 : Ck → Option Addr → Nat → Nat → Value
  | .t, A, n, c => .slice A n c
  | .j, A, n, c => .slice A n c
  | .l, A, _, _ => .pointer A
@[reducible] def Ck.c1 : Ck → Int → Nat → Value
  | .t, w, _ => .int .i64 w
  | .j, _, b => .slice (some ⟨b, 0, none⟩) 1 1
  | .l, w, _ => .int .i64 w
@[reducible] def Ck.one : Ck → Bool
  | .t => false
  | .j => false
  | .l => true
@[reducible] def Ck.swp : Ck → Nat
  | .t => 104
  | .j => 103
  | .l => 97
@[reducible] def Ck.rot : Ck → Nat
  | .t => 102
  | .j => 101
  | .l => 87
@[reducible] def Ck.ins : Ck → Nat
  | .t => 99
  | .j => 93
  | .l => 69
@[reducible] def Ck.sym : Ck → Nat
  | .t => 100
  | .j => 94
  | .l => 70
@[reducible] def Ck.stb : Ck → Nat
  | .t => 91
  | .j => 82
  | .l => 42
@[reducible] def Ck.srt : Ck → Nat
  | .t => 77
  | .j => 64
  | .l => 22
@[reducible] def elB : Bool → Value → Value → List Value
  | false, a, b => [a, b]
  | true, a, _ => [a]
@[reducible] def Ck.v (ck : Ck) (a b : Value) : Value := match ck.one with
  | false => .agg #[a, b]
  | true => a
@[reducible] def hasB (w : World) (g i : Nat) (a b : Value) : Bool → Prop
  | false => w.cell? ⟨g, i * 2, none⟩ = some a ∧ w.cell? ⟨g, i * 2 + 1, none⟩ = some b
  | true => w.cell? ⟨g, i, none⟩ = some a ∧ True
@[reducible] def putB (w : World) (g i : Nat) (a b : Value) : Bool → World
  | false => (w.setCell ⟨g, i * 2, none⟩ a).setCell ⟨g, i * 2 + 1, none⟩ b
  | true => w.setCell ⟨g, i, none⟩ a
structure Cm (ck : Ck) (α : Type) where
  A : α → Option Addr
  n : α → Nat
  cap : α → Nat
  w : α → Int
  b : α → Nat
  cmp : α → α → Int
  ans : α → α → Int
  tg : α → α → Prop
  good : Nat → World → α → Prop
  trans : ∀ {g : Nat} {w0 : World} {x y z : α}, good g w0 x → good g w0 y → good g w0 z → cmp x y ≤ 0 → cmp y z ≤ 0 → cmp x z ≤ 0
  swap : ∀ {g : Nat} {w0 : World} {x y : α}, good g w0 x → good g w0 y → cmp y x = - cmp x y
  lt : ∀ {g : Nat} {w0 : World} {x y : α}, good g w0 x → good g w0 y → tg y x → (cmp x y < 0 ↔ ans x y < 0)
  call : ∀ (x y : α) (g : Nat) (w0 w' : World), good g w0 x → good g w0 y → GX g w0 w' → Calls Try.prog ck.fn (ck.args (ck.v (ck.c0 (A x) (n x) (cap x)) (ck.c1 (w x) (b x))) (ck.v (ck.c0 (A y) (n y) (cap y)) (ck.c1 (w y) (b y)))) w' fun e w2 => e = .returned (.int .i64 (ans x y)) ∧ Grow w' w2
section
variable {ck : Ck} {α : Type} {C : Cm ck α} {rs : List Value}
theorem Cm.self {g : Nat} {w0 : World} {x : α} (C : Cm ck α) (hx : C.good g w0 x) : C.cmp x x = 0 := by
  have := C.swap hx hx
  omega
abbrev Cm.Up (C : Cm ck α) (L : List α) : Prop := L.Pairwise (fun x y => C.cmp x y ≤ 0)
def flatB (b : Bool) : List (Value × Value) → List Value
  | [] => []
  | x :: xs => elB b x.1 x.2 ++ flatB b xs
theorem flatB_get0 : ∀ (l : List (Value × Value)) (i : Nat) (x : Value × Value), l[i]? = some x → (flatB false l)[i * 2]? = some x.1 ∧ (flatB false l)[i * 2 + 1]? = some x.2
  | [], i, x, h => by simp at h
  | y :: ys, 0, x, h => by simp at h; subst h; simp [flatB, elB]
  | y :: ys, i + 1, x, h => by
    have := flatB_get0 ys i x (by simpa using h)
    rw [show (i + 1) * 2 = i * 2 + 2 by omega]
    simpa [flatB, elB] using this
theorem flatB_get1 : ∀ (l : List (Value × Value)) (i : Nat) (x : Value × Value), l[i]? = some x → (flatB true l)[i]? = some x.1
  | [], i, x, h => by simp at h
  | y :: ys, 0, x, h => by simp at h; subst h; simp [flatB, elB]
  | y :: ys, i + 1, x, h => by simpa [flatB, elB] using flatB_get1 ys i x (by simpa using h)
theorem flatB_set0 : ∀ (l : List (Value × Value)) (i : Nat) (y : Value × Value), i < l.length → ((flatB false l).set (i * 2) y.1).set (i * 2 + 1) y.2 = flatB false (l.set i y)
  | [], i, y, h => by simp at h
  | x :: xs, 0, y, h => by simp [flatB, elB]
  | x :: xs, i + 1, y, h => by
    have := flatB_set0 xs i y (by simpa using h)
    rw [show (i + 1) * 2 = i * 2 + 1 + 1 by omega]
    simp only [flatB, elB, List.cons_append, List.nil_append, List.set_cons_succ]
    rw [← this]
theorem flatB_set1 : ∀ (l : List (Value × Value)) (i : Nat) (y : Value × Value), i < l.length → (flatB true l).set i y.1 = flatB true (l.set i y)
  | [], i, y, h => by simp at h
  | x :: xs, 0, y, h => by simp [flatB, elB]
  | x :: xs, i + 1, y, h => by
    have := flatB_set1 xs i y (by simpa using h)
    simp only [flatB, elB, List.cons_append, List.nil_append, List.set_cons_succ]
    rw [← this]
theorem blkB_at (b : Bool) {w : World} {g : Nat} {t : TypeId} {l : List (Value × Value)} {rs : List Value} (h : Blk w g t (flatB b l ++ rs).toArray) {i : Nat} {x : Value × Value} (hx : l[i]? = some x) : hasB w g i x.1 x.2 b := by
  cases b with
  | false =>
    obtain ⟨p, q⟩ := flatB_get0 l i x hx
    refine ⟨?_, ?_⟩
    · rw [Blk.cell h, List.getElem?_toArray, List.getElem?_append_left (List.getElem?_eq_some_iff.1 p).1]; exact p
    · rw [Blk.cell h, List.getElem?_toArray, List.getElem?_append_left (List.getElem?_eq_some_iff.1 q).1]; exact q
  | true =>
    have k := flatB_get1 l i x hx
    refine ⟨?_, trivial⟩
    rw [Blk.cell h, List.getElem?_toArray, List.getElem?_append_left (List.getElem?_eq_some_iff.1 k).1]; exact k
theorem blkB_put (b : Bool) {w : World} {g : Nat} {t : TypeId} {l : List (Value × Value)} {rs : List Value} (h : Blk w g t (flatB b l ++ rs).toArray) {i : Nat} (hi : i < l.length) (y : Value × Value) : Blk (putB w g i y.1 y.2 b) g t (flatB b (l.set i y) ++ rs).toArray := by
  have hx := List.getElem?_eq_getElem hi
  cases b with
  | false =>
    have k2 := flatB_get0 l i _ hx
    have l1 := (List.getElem?_eq_some_iff.1 k2.1).1
    have l2 := (List.getElem?_eq_some_iff.1 k2.2).1
    have hb := ((Blk.set h (i * 2) y.1).set (i * 2 + 1) y.2)
    simp only [List.setIfInBounds_toArray, List.set_append_left _ _ l1] at hb
    rw [List.set_append_left _ _ (by rw [List.length_set]; exact l2), flatB_set0 l i y hi] at hb
    exact hb
  | true =>
    have l1 := (List.getElem?_eq_some_iff.1 (flatB_get1 l i _ hx)).1
    have hb := Blk.set h i y.1
    simp only [List.setIfInBounds_toArray, List.set_append_left _ _ l1] at hb
    rw [flatB_set1 l i y hi] at hb
    exact hb
def Cm.p (C : Cm ck α) (x : α) : Value × Value := (ck.c0 (C.A x) (C.n x) (C.cap x), ck.c1 (C.w x) (C.b x))
def Cm.flat (C : Cm ck α) (xs : List α) : List Value := flatB ck.one (xs.map C.p)
def DY (C : Cm ck α) (rs : List Value) (w : World) (g : Nat) (xs : List α) : Prop := Blk w g ck.ty (C.flat xs ++ rs).toArray
theorem DY.at {w : World} {g : Nat} {xs : List α} (h : DY C rs w g xs) {i : Nat} {x : α} (hx : xs[i]? = some x) : hasB w g i (ck.c0 (C.A x) (C.n x) (C.cap x)) (ck.c1 (C.w x) (C.b x)) ck.one := blkB_at ck.one (x := C.p x) h (by rw [List.getElem?_map, hx]; rfl)
theorem DY.frozen {w : World} {g : Nat} {xs : List α} (h : DY C rs w g xs) (i : Nat) : w.frozen? ⟨g, i, none⟩ = false := Blk.frozen h i
theorem DY.grow {w w' : World} {g : Nat} {xs : List α} (h : DY C rs w g xs) (hg : Grow w w') : DY C rs w' g xs := Blk.grow h hg
theorem DY.drew {w : World} {g : Nat} {xs : List α} (h : DY C rs w g xs) : DY C rs w.drew g xs := h
theorem DY.put {w : World} {g : Nat} {xs : List α} (h : DY C rs w g xs) {i : Nat} (hi : i < xs.length) (y : α) : DY C rs (putB w g i (ck.c0 (C.A y) (C.n y) (C.cap y)) (ck.c1 (C.w y) (C.b y)) ck.one) g (xs.set i y) := by
  have k := blkB_put ck.one h (i := i) (by simpa using hi) (C.p y)
  unfold DY Cm.flat
  rw [List.map_set]
  exact k
theorem swap_adj (L1 R : List α) (x y : α) : ((L1 ++ y :: x :: R).set (L1.length + 1) y).set L1.length x = L1 ++ x :: y :: R := by
  rw [show L1 ++ y :: x :: R = (L1 ++ [y]) ++ x :: R by simp, set_mid (L1 ++ [y]) R x y _ (by simp), show (L1 ++ [y]) ++ y :: R = L1 ++ y :: (y :: R) by simp, set_mid L1 _ y x _ rfl]
theorem merged {U1 V1 U2 V2 M1 M2 : List α} (p1 : M1.Perm (U1 ++ V1)) (p2 : M2.Perm (U2 ++ V2)) : (M1 ++ M2).Perm (U1 ++ U2 ++ (V1 ++ V2)) := by
  refine (p1.append p2).trans ?_
  simp only [List.append_assoc]
  refine List.Perm.append_left U1 ?_
  rw [← List.append_assoc, ← List.append_assoc U2]
  exact List.Perm.append_right V2 List.perm_append_comm
end
section
variable {ck : Ck} {α : Type} {C : Cm ck α} {rs : List Value}

theorem swap_range (P X Q Y S : List α) (n a b N c : Nat) (hX : X.length = n) (hY : Y.length = n) (ha : a = P.length) (hb : b = P.length + n + Q.length) (hN : N = (P ++ (X ++ (Q ++ (Y ++ S)))).length) (hmax : N ≤ 1000000) (g : Nat) (F : Value) (w : World) (hd : DY C rs w g (P ++ (X ++ (Q ++ (Y ++ S))))) :
    Calls Try.prog ck.swp #[.slice (some ⟨g, 0, none⟩) N c, .int .i64 a, .int .i64 b, .int .i64 n, F] w fun en w' => en = .returned (.tuple #[]) ∧ DY C rs w' g (P ++ (Y ++ (Q ++ (X ++ S)))) ∧ GX g w w' := by
  cases ck
  all_goals as_aux_lemma =>
    dsimp only [Ck.swp, Ck.rot, Ck.ins, Ck.sym, Ck.stb, Ck.srt, Ck.F]
    have mixed : Try.prog.follows .mixedOrders = true := by kernel_rfl
    have Hd := Lib.hid hd
    have HX := Lib.hid hX
    have HY := Lib.hid hY
    have Ha := Lib.hid ha
    have Hb := Lib.hid hb
    have HN := Lib.hid hN
    have hN2 : N = P.length + n + Q.length + n + S.length := by rw [hN]; simp [hX, hY]; omega
    have hnb : b + n ≤ N := by omega
    have hna : a + n ≤ b := by omega
    clear hd hX hY ha hb hN hN2
    first | go_enter Try.func104, Try.ntmps104 | go_enter Try.func103, Try.ntmps103 | go_enter Try.func97, Try.ntmps97
    go_wp2
    go_loopw [10] (fun i wr => ∃ (k : Nat) (X1 X2 Y1 Y2 : List α), k ≤ n ∧ i = .int .i64 k ∧ X = X1 ++ X2 ∧ Y = Y1 ++ Y2 ∧ X1.length = k ∧ Y1.length = k ∧ DY C rs wr g (P ++ (Y1 ++ (X2 ++ (Q ++ (X1 ++ (Y2 ++ S)))))) ∧ GX g w wr) (fun i _ => n - (intOf i).toNat)
    case atStart => exact ⟨0, [], X, [], Y, Nat.zero_le _, rfl, rfl, rfl, rfl, rfl, Hd.out, GX.refl _ _⟩
    case round =>
      obtain ⟨k, X1, X2, Y1, Y2, hk, rfl, e1, e2, l1, l2, hdb, hgx⟩ := hrel
      have Hdb := Lib.hid hdb
      have E1 := Lib.hid e1
      have E2 := Lib.hid e2
      have L1 := Lib.hid l1
      have L2 := Lib.hid l2
      clear hdb e1 e2 l1 l2
      by_cases hlt : k < n
      · obtain ⟨x, X3, rfl⟩ : ∃ x X3, X2 = x :: X3 := by
          match X2, E1 with
          | [], E1 => exfalso; have := HX.out; rw [E1.out] at this; simp at this; have := L1.out; omega
          | x :: X3, _ => exact ⟨x, X3, rfl⟩
        obtain ⟨y, Y3, rfl⟩ : ∃ y Y3, Y2 = y :: Y3 := by
          match Y2, E2 with
          | [], E2 => exfalso; have := HY.out; rw [E2.out] at this; simp at this; have := L2.out; omega
          | y :: Y3, _ => exact ⟨y, Y3, rfl⟩
        have hlX : X1.length + (X3.length + 1) = n := by have := HX.out; rw [E1.out] at this; simpa using this
        have fx : (P ++ (Y1 ++ (x :: X3 ++ (Q ++ (X1 ++ (y :: Y3 ++ S))))))[a + k]? = some x := by
          rw [← List.append_assoc]
          rw [show a + k = (P ++ Y1).length by rw [Ha.out, List.length_append, L2.out]]
          exact get_mid _ _ _
        have fy : (P ++ (Y1 ++ (x :: X3 ++ (Q ++ (X1 ++ (y :: Y3 ++ S))))))[b + k]? = some y := by
          rw [show P ++ (Y1 ++ (x :: X3 ++ (Q ++ (X1 ++ (y :: Y3 ++ S))))) = (P ++ (Y1 ++ (x :: X3 ++ (Q ++ X1)))) ++ y :: (Y3 ++ S) by simp]
          rw [show b + k = (P ++ (Y1 ++ (x :: X3 ++ (Q ++ X1)))).length by rw [Hb.out]; simp [L1.out, L2.out]; have := L1.out; omega]
          exact get_mid _ _ _
        obtain ⟨cx0, cx1⟩ := Hdb.out.at fx; dsimp only [Ck.c0, Ck.c1] at cx0 cx1
        obtain ⟨cy0, cy1⟩ := Hdb.out.at fy; dsimp only [Ck.c0, Ck.c1] at cy0 cy1
        have fr := Hdb.out.frozen
        have na : a + k < N := by omega
        have nb : b + k < N := by omega
        have ne0 : a + k ≠ b + k := by omega
        have Fx := Lib.hid fx
        have Fy := Lib.hid fy
        have HlX := Lib.hid hlX
        clear fx fy hlX
        go_wp2
        go_big_region_o
        all_goals go_wp2
        refine ⟨⟨k + 1, X1 ++ [x], X3, Y1 ++ [y], Y3, by omega, by go_num, by rw [E1.out]; simp, by rw [E2.out]; simp, by simp [L1.out], by simp [L2.out], ?_, GX.drew (by repeat (first | with_reducible exact hgx | refine GX.set ?_ _ _))⟩, by simp [intOf]; omega⟩
        have h1 := (Hdb.out.put (List.getElem?_eq_some_iff.1 Fx.out).1 y).put (i := b + k) (by rw [List.length_set]; exact (List.getElem?_eq_some_iff.1 Fy.out).1) x
        have e := swap_list (P ++ Y1) (X3 ++ (Q ++ X1)) (Y3 ++ S) x y
        rw [show (P ++ Y1).length = a + k by rw [Ha.out, List.length_append, L2.out], show a + k + 1 + (X3 ++ (Q ++ X1)).length = b + k by have := HlX.out; have := L1.out; have := Hb.out; have := Ha.out; simp; omega] at e
        have e2 : P ++ (Y1 ++ (x :: X3 ++ (Q ++ (X1 ++ (y :: Y3 ++ S))))) = P ++ Y1 ++ x :: (X3 ++ (Q ++ X1) ++ y :: (Y3 ++ S)) := by simp
        rw [e2, e] at h1
        have e3 : P ++ Y1 ++ y :: (X3 ++ (Q ++ X1) ++ x :: (Y3 ++ S)) = P ++ (Y1 ++ [y] ++ (X3 ++ (Q ++ (X1 ++ [x] ++ (Y3 ++ S))))) := by simp
        rw [e3] at h1
        exact h1
      · have e1 : X1 = X ∧ X2 = [] := by
          have h := HX.out
          rw [E1.out, List.length_append, L1.out] at h
          have : X2 = [] := List.length_eq_zero_iff.1 (by omega)
          exact ⟨by rw [E1.out, this]; simp, this⟩
        have e2 : Y1 = Y ∧ Y2 = [] := by
          have h := HY.out
          rw [E2.out, List.length_append, L2.out] at h
          have : Y2 = [] := List.length_eq_zero_iff.1 (by omega)
          exact ⟨by rw [E2.out, this]; simp, this⟩
        have hfin : DY C rs wr g (P ++ (Y ++ (Q ++ (X ++ S)))) := by
          have := Hdb.out
          rw [e1.1, e1.2, e2.1, e2.2] at this
          simpa using this
        have Hfin := Lib.hid hfin
        clear hfin e1 e2
        go_wp2
        go_end0
        exact ⟨rfl, Hfin.out, hgx⟩
end
section
variable {ck : Ck} {α : Type} {C : Cm ck α} {rs : List Value}

theorem swap_range' (P X Q Y S : List α) (aI bI nI : Int) (n N c : Nat) (hX : X.length = n) (hY : Y.length = n) (ha : aI = P.length) (hb : bI = P.length + n + Q.length) (hn : nI = n) (hN : N = (P ++ (X ++ (Q ++ (Y ++ S)))).length) (hmax : N ≤ 1000000) (g : Nat) (F : Value) (w : World) (hd : DY C rs w g (P ++ (X ++ (Q ++ (Y ++ S))))) :
    Calls Try.prog ck.swp #[.slice (some ⟨g, 0, none⟩) N c, .int .i64 aI, .int .i64 bI, .int .i64 nI, F] w fun en w' => en = .returned (.tuple #[]) ∧ DY C rs w' g (P ++ (Y ++ (Q ++ (X ++ S)))) ∧ GX g w w' := by
  obtain rfl : aI = ((P.length : Nat) : Int) := ha
  obtain rfl : bI = ((P.length + n + Q.length : Nat) : Int) := by rw [hb]; simp
  subst hn
  exact swap_range (C := C) (rs := rs) P X Q Y S n _ _ N c hX hY rfl rfl hN hmax g F w hd

theorem rotate (P U V S : List α) (aI mI bI : Int) (N c : Nat) (ha : aI = P.length) (hm : mI = P.length + U.length) (hb : bI = P.length + U.length + V.length) (hU : 1 ≤ U.length) (hV : 1 ≤ V.length) (hN : N = (P ++ (U ++ (V ++ S))).length) (hmax : N ≤ 1000000) (g : Nat) (F : Value) (w : World) (hd : DY C rs w g (P ++ (U ++ (V ++ S)))) :
    Calls Try.prog ck.rot #[.slice (some ⟨g, 0, none⟩) N c, .int .i64 aI, .int .i64 mI, .int .i64 bI, F] w fun en w' => en = .returned (.tuple #[]) ∧ DY C rs w' g (P ++ (V ++ (U ++ S))) ∧ GX g w w' := by
  cases ck
  all_goals as_aux_lemma =>
    dsimp only [Ck.swp, Ck.rot, Ck.ins, Ck.sym, Ck.stb, Ck.srt, Ck.F]
    obtain ⟨m, em⟩ : ∃ m : Nat, m = P.length + U.length := ⟨_, rfl⟩
    obtain rfl : mI = (m : Int) := by omega
    have hN' : N = P.length + U.length + V.length + S.length := by rw [hN]; simp; omega
    have hmN : m + V.length ≤ N := by omega
    have w1 : aI = (P.length : Int) := ha
    have bd1 : (m : Int) - aI = U.length := by omega
    have bd2 : bI - (m : Int) = V.length := by omega
    have b1 : 0 ≤ aI ∧ aI ≤ 1000000 := by omega
    have b2 : 0 ≤ bI ∧ bI ≤ 1000000 := by omega
    obtain ⟨b1a, b1b⟩ := b1
    obtain ⟨b2a, b2b⟩ := b2
    have Hd := Lib.hid hd
    have HN := Lib.hid hN'
    have Em := Lib.hid em
    clear hd hN hN' em ha hm hb w1
    first | go_enter Try.func102, Try.ntmps102 | go_enter Try.func101, Try.ntmps101 | go_enter Try.func87, Try.ntmps87
    go_wp2
    go_loopw [10, 11] (fun i j wr => ∃ (ki kj : Nat) (P' X Y S' : List α), i = .int .i64 ki ∧ j = .int .i64 kj ∧ X.length = ki ∧ Y.length = kj ∧ 1 ≤ ki ∧ 1 ≤ kj ∧ P'.length + ki = m ∧ m + kj ≤ N ∧ N = (P' ++ (X ++ (Y ++ S'))).length ∧ DY C rs wr g (P' ++ (X ++ (Y ++ S'))) ∧ P' ++ (Y ++ (X ++ S')) = P ++ (V ++ (U ++ S)) ∧ GX g w wr) (fun i j _ => (intOf i).toNat + (intOf j).toNat)
    case atStart => exact ⟨U.length, V.length, P, U, V, S, by go_num, by go_num, rfl, rfl, hU, hV, Em.out.symm, hmN, by rw [HN.out]; simp; omega, Hd.out, rfl, GX.refl _ _⟩
    case round =>
      obtain ⟨ki, kj, P', X, Y, S', rfl, rfl, lX, lY, h1, h2, hP, hj, hlen, hdb, htgt, hgx⟩ := hrel
      have LX := Lib.hid lX
      have LY := Lib.hid lY
      have HP := Lib.hid hP
      have Hlen := Lib.hid hlen
      have Hdb := Lib.hid hdb
      have Tgt := Lib.hid htgt
      have hkm : ki ≤ m := by omega
      clear lX lY hP hlen hdb htgt
      rcases Nat.lt_trichotomy ki kj with hlt | heq | hgt
      · have d1 : ((ki : Int) != (kj : Int)) = true := by simp; omega
        have d2 : decide ((kj : Int) < (ki : Int)) = false := by simp; omega
        obtain ⟨Y1, Y2, rfl, hY2⟩ : ∃ Y1 Y2, Y = Y1 ++ Y2 ∧ Y2.length = ki := ⟨Y.take (kj - ki), Y.drop (kj - ki), by simp, by have := LY.out; simp; omega⟩
        have hY1 : Y1.length = kj - ki := by have := LY.out; simp at this; omega
        have HY1 := Lib.hid hY1
        have HY2 := Lib.hid hY2
        clear hY1 hY2
        have cs := swap_range' (C := C) (rs := rs) P' X Y1 Y2 S' ((m : Int) - ki) ((m : Int) + kj - ki) ki ki N c LX.out HY2.out (by have := HP.out; omega) (by have := HP.out; have := HY1.out; omega) rfl (by rw [Hlen.out]; simp) hmax g F wr (by have := Hdb.out; simpa using this)
        go_wp2_with ((first | go_at_call 104 | go_at_call 103 | go_at_call 97); ((with_reducible refine cs.mono ?_); rintro en w2 ⟨rfl, hd2, hg2⟩))
        go_roundw
        case rel =>
          refine ⟨ki, kj - ki, P', Y2, Y1, X ++ S', rfl, by go_num, HY2.out, HY1.out, h1, by omega, HP.out, by omega, ?_, hd2, ?_, hgx.trans hg2⟩
          · rw [Hlen.out]; simp; omega
          · rw [← Tgt.out]; simp
        case measure => simp [intOf]; omega
      · subst heq
        have d1 : ((ki : Int) != (ki : Int)) = false := by simp
        have cs := swap_range' (C := C) (rs := rs) P' X [] Y S' ((m : Int) - ki) m ki ki N c LX.out LY.out (by have := HP.out; omega) (by have := HP.out; simp; omega) rfl (by rw [Hlen.out]; simp) hmax g F wr (by have := Hdb.out; simpa using this)
        go_wp2_with ((first | go_at_call 104 | go_at_call 103 | go_at_call 97); ((with_reducible refine cs.mono ?_); rintro en w2 ⟨rfl, hd2, hg2⟩))
        have hfin : DY C rs w2 g (P ++ (V ++ (U ++ S))) := by rw [← Tgt.out]; simpa using hd2
        have Hfin := Lib.hid hfin
        clear hfin hd2
        go_end0
        exact ⟨rfl, Hfin.out, hgx.trans hg2⟩
      · have d1 : ((ki : Int) != (kj : Int)) = true := by simp; omega
        have d2 : decide ((kj : Int) < (ki : Int)) = true := by simp; omega
        obtain ⟨X1, X2, rfl, hX1⟩ : ∃ X1 X2, X = X1 ++ X2 ∧ X1.length = kj := ⟨X.take kj, X.drop kj, by simp, by have := LX.out; simp; omega⟩
        have hX2 : X2.length = ki - kj := by have := LX.out; simp at this; omega
        have HX1 := Lib.hid hX1
        have HX2 := Lib.hid hX2
        clear hX1 hX2
        have cs := swap_range' (C := C) (rs := rs) P' X1 X2 Y S' ((m : Int) - ki) m kj kj N c HX1.out LY.out (by have := HP.out; omega) (by have := HP.out; have := HX2.out; omega) rfl (by rw [Hlen.out]; simp) hmax g F wr (by have := Hdb.out; simpa using this)
        go_wp2_with ((first | go_at_call 104 | go_at_call 103 | go_at_call 97); ((with_reducible refine cs.mono ?_); rintro en w2 ⟨rfl, hd2, hg2⟩))
        go_roundw
        case rel =>
          refine ⟨ki - kj, kj, P' ++ Y, X2, X1, S', by go_num, rfl, HX2.out, HX1.out, by omega, h2, ?_, hj, ?_, by simpa using hd2, ?_, hgx.trans hg2⟩
          · have := HP.out; have := LY.out; simp; omega
          · rw [Hlen.out]; simp; omega
          · rw [← Tgt.out]; simp
        case measure => simp [intOf]; omega
end
section
variable {ck : Ck} {α : Type} {C : Cm ck α} {rs : List Value}

theorem up_insert {g : Nat} {w0 : World} {L R : List α} {x : α} (hG : ∀ y ∈ L ++ x :: R, C.good g w0 y) (hu : C.Up (L ++ R)) (hl : ∀ y, L.getLast? = some y → C.cmp y x ≤ 0) (hr : ∀ y ∈ R, C.cmp x y < 0) : C.Up (L ++ x :: R) := by
  unfold Cm.Up at hu ⊢
  rw [List.pairwise_append] at hu ⊢
  obtain ⟨h1, h2, h3⟩ := hu
  have hlx : ∀ y ∈ L, C.cmp y x ≤ 0 := fun y hy => by
    rcases List.eq_nil_or_concat L with h | ⟨L', z, h⟩
    · subst h; simp at hy
    · have h : L = L' ++ [z] := by simpa using h
      subst h
      have hz := hl z (by simp)
      rcases List.mem_append.1 hy with hy' | hy'
      · rw [List.pairwise_append] at h1
        exact C.trans (hG y (by simp [hy'])) (hG z (by simp)) (hG x (by simp)) (h1.2.2 y hy' z (by simp)) hz
      · simp at hy'; subst hy'; exact hz
  refine ⟨h1, ?_, fun y hy z hz => ?_⟩
  · rw [List.pairwise_cons]
    exact ⟨fun y hy => by have := hr y hy; omega, h2⟩
  · rcases List.mem_cons.1 hz with rfl | hz
    · exact hlx y hy
    · exact h3 y hy z hz

theorem ins_sort (P M S : List α) (aI bI : Int) (N c : Nat) (ha : aI = P.length) (hb : bI = P.length + M.length) (hN : N = (P ++ (M ++ S)).length) (hmax : N ≤ 1000000) (g : Nat) (w0 w : World) (hT : M.Pairwise C.tg) (hG : ∀ x ∈ M, C.good g w0 x) (hg0 : GX g w0 w) (hd : DY C rs w g (P ++ (M ++ S))) :
    Calls Try.prog ck.ins #[.slice (some ⟨g, 0, none⟩) N c, .int .i64 aI, .int .i64 bI, ck.F] w fun en w' => en = .returned (.tuple #[]) ∧ (∃ M' : List α, M'.Perm M ∧ C.Up M' ∧ DY C rs w' g (P ++ (M' ++ S))) ∧ GX g w w' := by
  cases ck
  all_goals as_aux_lemma =>
    dsimp only [Ck.swp, Ck.rot, Ck.ins, Ck.sym, Ck.stb, Ck.srt, Ck.F]
    have mixed : Try.prog.follows .mixedOrders = true := by kernel_rfl
    obtain ⟨a, ea⟩ : ∃ a : Nat, a = P.length := ⟨_, rfl⟩
    obtain rfl : aI = (a : Int) := by omega
    obtain ⟨b, eb⟩ : ∃ b : Nat, b = a + M.length := ⟨_, rfl⟩
    obtain rfl : bI = (b : Int) := by omega
    have hN' : N = a + M.length + S.length := by rw [hN, ea]; simp; omega
    have hbN : b ≤ N := by omega
    have hab : a ≤ b := by omega
    have Hd := Lib.hid hd
    have HN := Lib.hid hN'
    have Ea := Lib.hid ea
    have Eb := Lib.hid eb
    have HG := Lib.hid hG
    have HTg := Lib.hid hT
    clear hd hN hN' ea eb ha hb hG hT
    first | go_enter Try.func99, Try.ntmps99 | go_enter Try.func93, Try.ntmps93 | go_enter Try.func69, Try.ntmps69
    go_wp2
    go_loopw [8] (fun i wr => ∃ (k : Nat) (M1 M2 : List α), i = .int .i64 (k : Int) ∧ a + 1 ≤ k ∧ k ≤ b + 1 ∧ (M = [] ∧ M1 = [] ∧ M2 = [] ∨ k = a + M1.length ∧ 1 ≤ M1.length) ∧ (M1 ++ M2).Perm M ∧ C.Up M1 ∧ DY C rs wr g (P ++ (M1 ++ (M2 ++ S))) ∧ GX g w wr ∧ (∀ y ∈ M1, ∀ z ∈ M2, C.tg y z) ∧ M2.Pairwise C.tg) (fun i _ => b + 1 - (intOf i).toNat)
    case atStart =>
      cases hM : M with
      | nil => exact ⟨a + 1, [], [], by go_num, Nat.le_refl _, by omega, .inl ⟨rfl, rfl, rfl⟩, List.Perm.refl _, List.Pairwise.nil, by have := Hd.out; rw [hM] at this; simpa using this, GX.refl _ _, fun y hy => by simp at hy, List.Pairwise.nil⟩
      | cons x M' => exact ⟨a + 1, [x], M', by go_num, Nat.le_refl _, by omega, .inr ⟨rfl, Nat.le_refl _⟩, List.Perm.refl _, List.pairwise_singleton _ _, by have := Hd.out; rw [hM] at this; simpa using this, GX.refl _ _, fun y hy z hz => by have h := HTg.out; rw [hM, List.pairwise_cons] at h; simp at hy; subst hy; exact h.1 z hz, by have h := HTg.out; rw [hM, List.pairwise_cons] at h; exact h.2⟩
    case round =>
      obtain ⟨k, M1, M2, rfl, hk1, hk2, hform, hperm, hup, hdb, hgx, htgx, htgp⟩ := hrel
      have TGX := Lib.hid htgx
      have TGP := Lib.hid htgp
      clear htgx htgp
      have Form := Lib.hid hform
      have HP := Lib.hid hperm
      have HU := Lib.hid hup
      have Hdb := Lib.hid hdb
      clear hform hperm hup hdb
      by_cases hlt : k < b
      · have d0 : decide ((k : Int) < (b : Int)) = true := by simp; omega
        obtain ⟨hk, hM1⟩ : k = a + M1.length ∧ 1 ≤ M1.length := by
          rcases Form.out with ⟨h1, _, _⟩ | h
          · exfalso; have := Eb.out; rw [h1] at this; simp at this; omega
          · exact h
        have hlen : M1.length + M2.length = M.length := by have := HP.out.length_eq; simpa using this
        obtain ⟨x, M3, rfl⟩ : ∃ x M3, M2 = x :: M3 := by
          match M2, hlen with
          | [], hlen => exfalso; have := Eb.out; simp at hlen; omega
          | x :: M3, _ => exact ⟨x, M3, rfl⟩
        have HG2 : ∀ y ∈ M1 ++ x :: M3, C.good g w0 y := fun y hy => HG.out y (HP.out.mem_iff.1 hy)
        have HG2' := Lib.hid HG2
        have Hk := Lib.hid hk
        have Hlen := Lib.hid hlen
        clear HG2 hlen Form hk
        go_wp2
        go_loopw [9] (fun j wr2 => ∃ (jn : Nat) (L R : List α), j = .int .i64 (jn : Int) ∧ M1 = L ++ R ∧ jn = a + L.length ∧ (∀ y ∈ R, C.cmp x y < 0) ∧ DY C rs wr2 g (P ++ (L ++ x :: (R ++ (M3 ++ S)))) ∧ GX g w wr2) (fun j _ => (intOf j).toNat)
        case atStart => exact ⟨k, M1, [], rfl, by simp, Hk.out, by simp, by have := Hdb.out; simpa using this, hgx⟩
        case round =>
          obtain ⟨jn, L, R, rfl, e1, ej, hR, hdb2, hgx2⟩ := hrel
          have E1 := Lib.hid e1
          have HR := Lib.hid hR
          have Hdb2 := Lib.hid hdb2
          have hgw := hg0.trans hgx2
          have hLb : jn < b := by have := congrArg List.length E1.out; simp at this; have := Hk.out; omega
          have Ej := Lib.hid ej
          clear e1 hR hdb2 ej
          rcases List.eq_nil_or_concat L with hL | ⟨L', y, hL⟩
          · subst hL
            obtain rfl : jn = a := by have := Ej.out; simpa using this
            have hfin : C.Up (x :: R) := up_insert (L := []) (fun y hy => HG2'.out y (by
              rcases List.mem_cons.1 hy with h | h
              · subst h; simp
              · rw [E1.out]; simp [h])) (by rw [← E1.out]; exact HU.out) (by simp) HR.out
            have Hfin := Lib.hid hfin
            clear hfin
            go_wp2
            go_big_region_o
            all_goals go_wp2
            go_roundw
            case rel =>
              refine ⟨k + 1, x :: R, M3, by go_num, by omega, by omega, .inr ⟨?_, by simp⟩, ?_, Hfin.out, DY.drew (by have := Hdb2.out; simpa using this), hgx2.drew, fun y2 hy z hz => by
                have h := TGP.out
                rw [List.pairwise_cons] at h
                have hy2 : y2 = x ∨ y2 ∈ M1 := by rw [E1.out]; simp at hy ⊢; rcases hy with h | h <;> simp [h]
                rcases hy2 with rfl | hy2
                · exact h.1 z hz
                · exact TGX.out y2 hy2 z (List.mem_cons_of_mem _ hz), by have h := TGP.out; rw [List.pairwise_cons] at h; exact h.2⟩
              · have := congrArg List.length E1.out; have := Hk.out; simp at *; omega
              · refine List.Perm.trans ?_ HP.out
                rw [E1.out]
                simpa using (List.perm_middle (a := x) (l₁ := R) (l₂ := M3)).symm
            case measure => simp [intOf]; omega
          · have hL : L = L' ++ [y] := by simpa using hL
            subst hL
            obtain ⟨jp, rfl⟩ : ∃ jp, jn = jp + 1 := ⟨jn - 1, by have := Ej.out; simp at this; omega⟩
            have ejp : jp = a + L'.length := by have := Ej.out; simp at this; omega
            have Ejp := Lib.hid ejp
            have dj : decide ((a : Int) < (jp : Int) + 1) = true := by simp; omega
            have p0 : (0 : Int) ≤ (jp : Int) + 1 := by omega
            have e0 : ((jp : Int) + 1).toNat = jp + 1 := by omega
            have jz : (jp : Int) + 1 < (N : Int) := by omega
            have jz1 : (jp : Int) < (N : Int) := by omega
            have hwp : IntKind.i64.wrap (jp : Int) = (jp : Int) := by rw [IntKind.wrap_i64]; omega
            have jz2 : jp + 1 < N := by omega
            have jz3 : jp < N := by omega
            have fx : (P ++ (L' ++ [y] ++ x :: (R ++ (M3 ++ S))))[jp + 1]? = some x := by
              rw [show P ++ (L' ++ [y] ++ x :: (R ++ (M3 ++ S))) = (P ++ (L' ++ [y])) ++ x :: (R ++ (M3 ++ S)) by simp, show jp + 1 = (P ++ (L' ++ [y])).length by simp; have := Ejp.out; have := Ea.out; omega]
              exact get_mid _ _ _
            have fy : (P ++ (L' ++ [y] ++ x :: (R ++ (M3 ++ S))))[jp]? = some y := by
              rw [show P ++ (L' ++ [y] ++ x :: (R ++ (M3 ++ S))) = (P ++ L') ++ y :: (x :: (R ++ (M3 ++ S))) by simp, show jp = (P ++ L').length by simp; have := Ejp.out; have := Ea.out; omega]
              exact get_mid _ _ _
            have gx : C.good g w0 x := HG2'.out x (by simp)
            have gy : C.good g w0 y := HG2'.out y (by rw [E1.out]; simp)
            have Fx := Lib.hid fx
            have Fy := Lib.hid fy
            clear fx fy ejp
            obtain ⟨cr, hcr⟩ : ∃ q, C.ans x y = q := ⟨_, rfl⟩
            have cc := fun W (h : GX g w0 W) => C.call x y g w0 W gx gy h
            rw [hcr] at cc
            dsimp only [Ck.fn, Ck.args, Ck.v, Ck.c0, Ck.c1] at cc
            have htg : C.tg y x := TGX.out y (by rw [E1.out]; simp) x (by simp)
            have hlt9 := C.lt gx gy htg
            rw [hcr] at hlt9
            have Hcr := Lib.hid hlt9
            clear hcr hlt9 htg
            go_wp2
            apply wp_region_calm 17 (by kernel_rfl) (by kernel_rfl)
            case h' =>
              intro Q0 hQ0
              simp only [List.take_succ_cons, List.take_zero]
              repeat ((first | ((first | apply calm_p rfl | apply calm_y rfl rfl rfl); case h1 => (intro w1 hw1 hF K hK; obtain ⟨cx0, cx1⟩ := (Hdb2.out.grow hw1).at Fx.out; dsimp only [Ck.c0, Ck.c1] at cx0 cx1; obtain ⟨cy0, cy1⟩ := (Hdb2.out.grow hw1).at Fy.out; dsimp only [Ck.c0, Ck.c1] at cy0 cy1; go_simp; first | exact hK _ (Grow.refl _) | ((first | go_at_call 78 | go_at_call 65 | go_at_call 23); ((with_reducible refine (cc _ (hgw.grow hw1)).mono ?_); rintro e w' ⟨rfl, hg⟩; exact ⟨_, rfl, hK _ hg⟩)))) | apply calm_n rfl rfl rfl rfl); intro K hK; go_simp; apply hK; clear hK K)
              refine calm_nil ?_
              intro w1 hw1 hF
              apply hQ0
              clear hQ0
              simp only [List.drop_succ_cons, List.drop_zero]
              clear hF
              have Hdb3 := Lib.hid (Hdb2.out.grow hw1)
              by_cases hc : cr < 0
              · have dc : decide (cr < 0) = true := by simpa using hc
                obtain ⟨cx0, cx1⟩ := Hdb3.out.at Fx.out; dsimp only [Ck.c0, Ck.c1] at cx0 cx1
                obtain ⟨cy0, cy1⟩ := Hdb3.out.at Fy.out; dsimp only [Ck.c0, Ck.c1] at cy0 cy1
                have fr := Hdb3.out.frozen
                have ne0 : (jp + 1) * 2 ≠ jp * 2 := by omega
                have ne2 : jp + 1 ≠ jp := by omega
                have ne1 : (jp + 1) * 2 + 1 ≠ jp * 2 := by omega
                have Hc := Lib.hid hc
                clear hc
                simp only [dc]
                go_wp2
                go_big_region_o
                all_goals go_wp2
                refine ⟨⟨jp, L', y :: R, rfl, by rw [E1.out]; simp, Ejp.out, ?_, ?_, GX.drew (by repeat (first | with_reducible exact hgx2.grow hw1 | refine GX.set ?_ _ _))⟩, by simp [intOf]⟩
                · intro z hz
                  rcases List.mem_cons.1 hz with rfl | hz
                  · exact Hcr.out.2 Hc.out
                  · exact HR.out z hz
                · have h1 := (Hdb3.out.put (List.getElem?_eq_some_iff.1 Fx.out).1 y).put (i := jp) (by rw [List.length_set]; exact (List.getElem?_eq_some_iff.1 Fy.out).1) x
                  have e := swap_adj (P ++ L') (R ++ (M3 ++ S)) x y
                  rw [show (P ++ L').length = jp by simp; have := Ejp.out; have := Ea.out; omega] at e
                  rw [show P ++ (L' ++ [y] ++ x :: (R ++ (M3 ++ S))) = P ++ L' ++ y :: x :: (R ++ (M3 ++ S)) by simp, e] at h1
                  rw [show P ++ (L' ++ x :: (y :: R ++ (M3 ++ S))) = P ++ L' ++ x :: y :: (R ++ (M3 ++ S)) by simp]
                  exact h1
              · have dc : decide (cr < 0) = false := by simpa using hc
                have hfin : C.Up (L' ++ [y] ++ x :: R) := up_insert (L := L' ++ [y]) (fun z hz => HG2'.out z (by rw [E1.out]; simp at hz ⊢; rcases hz with h | h | h | h <;> simp [h])) (by rw [← E1.out]; exact HU.out) (fun z hz => by
                  simp at hz; subst hz
                  have := C.swap gx gy
                  have h9 := mt Hcr.out.1 hc
                  omega) HR.out
                have Hfin := Lib.hid hfin
                clear hfin hc
                simp only [dc]
                go_wp2
                go_roundw
                case rel =>
                  refine ⟨k + 1, L' ++ [y] ++ x :: R, M3, by go_num, by omega, by omega, .inr ⟨?_, by simp; omega⟩, ?_, Hfin.out, by have := Hdb3.out; simpa using this, hgx2.grow hw1, fun y2 hy z hz => by
                  have h := TGP.out
                  rw [List.pairwise_cons] at h
                  have hy2 : y2 = x ∨ y2 ∈ M1 := by rw [E1.out]; simp at hy ⊢; rcases hy with h | h | h | h <;> simp [h]
                  rcases hy2 with rfl | hy2
                  · exact h.1 z hz
                  · exact TGX.out y2 hy2 z (List.mem_cons_of_mem _ hz), by have h := TGP.out; rw [List.pairwise_cons] at h; exact h.2⟩
                  · have := congrArg List.length E1.out; have := Hk.out; simp at *; omega
                  · refine List.Perm.trans ?_ HP.out
                    rw [E1.out]
                    simpa using List.Perm.append_left L' (List.Perm.cons y (List.perm_middle (a := x) (l₁ := R) (l₂ := M3)).symm)
                case measure => simp [intOf]; omega
            case hp' => trivial
      · have d0 : decide ((k : Int) < (b : Int)) = false := by simp; omega
        have hfin : ∃ M' : List α, M'.Perm M ∧ C.Up M' ∧ DY C rs wr g (P ++ (M' ++ S)) := by
          have : M2 = [] := by
            rcases Form.out with ⟨_, _, h⟩ | ⟨h1, h2⟩
            · exact h
            · have := HP.out.length_eq
              have := Eb.out
              simp at *
              exact List.length_eq_zero_iff.1 (by omega)
          subst this
          exact ⟨M1, by simpa using HP.out, HU.out, by simpa using Hdb.out⟩
        have Hfin := Lib.hid hfin
        clear hfin
        go_wp2
        go_end0
        exact ⟨rfl, Hfin.out, hgx⟩
end
section
variable {ck : Ck} {α : Type} {C : Cm ck α} {rs : List Value}

theorem le_lt {g : Nat} {w0 : World} {x y z : α} (hx : C.good g w0 x) (hy : C.good g w0 y) (hz : C.good g w0 z) (h1 : C.cmp x y ≤ 0) (h2 : C.cmp y z < 0) : C.cmp x z < 0 := by
  have h3 := C.trans hx hy hz h1 (by omega)
  by_cases h : C.cmp x z = 0
  · exfalso
    have s1 := C.swap hx hz
    have s2 := C.swap hy hz
    have := C.trans hz hx hy (by omega) h1
    omega
  · omega
theorem lt_le {g : Nat} {w0 : World} {x y z : α} (hx : C.good g w0 x) (hy : C.good g w0 y) (hz : C.good g w0 z) (h1 : C.cmp x y < 0) (h2 : C.cmp y z ≤ 0) : C.cmp x z < 0 := by
  have h3 := C.trans hx hy hz (by omega) h2
  by_cases h : C.cmp x z = 0
  · exfalso
    have s1 := C.swap hx hz
    have s2 := C.swap hx hy
    have := C.trans hy hz hx h2 (by omega)
    omega
  · omega
theorem up_get {g : Nat} {w0 : World} {L : List α} (hu : C.Up L) (hG : ∀ x ∈ L, C.good g w0 x) {s t : Nat} {x y : α} (hx : L[s]? = some x) (hy : L[t]? = some y) (hst : s ≤ t) : C.cmp x y ≤ 0 := by
  obtain ⟨h1, rfl⟩ := List.getElem?_eq_some_iff.1 hx
  obtain ⟨h2, rfl⟩ := List.getElem?_eq_some_iff.1 hy
  rcases Nat.lt_or_ge s t with h | h
  · exact List.pairwise_iff_getElem.1 hu s t h1 h2 h
  · obtain rfl : s = t := by omega
    rw [C.self (hG _ (List.getElem_mem h1))]
    exact Int.le_refl _
theorem up_insert' {L R : List α} {x : α} (hu : C.Up (L ++ R)) (hl : ∀ y ∈ L, C.cmp y x ≤ 0) (hr : ∀ y ∈ R, C.cmp x y ≤ 0) : C.Up (L ++ x :: R) := by
  unfold Cm.Up at hu ⊢
  rw [List.pairwise_append] at hu ⊢
  obtain ⟨h1, h2, h3⟩ := hu
  refine ⟨h1, List.pairwise_cons.2 ⟨hr, h2⟩, fun y hy z hz => ?_⟩
  rcases List.mem_cons.1 hz with rfl | hz
  · exact hl y hy
  · exact h3 y hy z hz

theorem sym_left (P V S : List α) (u : α) (a m b : Nat) (N c : Nat) (ha : a = P.length) (hm : m = a + 1) (hb : b = m + V.length) (hN : N = (P ++ (u :: V ++ S)).length) (hmax : N ≤ 1000000) (g : Nat) (w0 w : World) (hT : ∀ v ∈ V, C.tg u v) (hG : ∀ x ∈ u :: V, C.good g w0 x) (hg0 : GX g w0 w) (hV : C.Up V) (hd : DY C rs w g (P ++ (u :: V ++ S))) :
    Calls Try.prog ck.sym #[.slice (some ⟨g, 0, none⟩) N c, .int .i64 a, .int .i64 m, .int .i64 b, ck.F] w fun en w' => en = .returned (.tuple #[]) ∧ (∃ M' : List α, M'.Perm (u :: V) ∧ C.Up M' ∧ DY C rs w' g (P ++ (M' ++ S))) ∧ GX g w w' := by
  cases ck
  all_goals as_aux_lemma =>
    dsimp only [Ck.swp, Ck.rot, Ck.ins, Ck.sym, Ck.stb, Ck.srt, Ck.F]
    have mixed : Try.prog.follows .mixedOrders = true := by kernel_rfl
    have hN' : N = a + 1 + V.length + S.length := by rw [hN, ha]; simp; omega
    have hbN : b ≤ N := by omega
    have d0 : ((m : Int) - (a : Int) == 1) = true := by simp; omega
    have ham : a < m := by omega
    have Hd := Lib.hid hd
    have HN := Lib.hid hN'
    have Ea := Lib.hid ha
    have Em := Lib.hid hm
    have Eb := Lib.hid hb
    have HG := Lib.hid hG
    have HV := Lib.hid hV
    have hmb : m ≤ b := by omega
    have haN : a < N := by omega
    have HTg := Lib.hid hT
    clear hd hN hN' ha hm hb hG hV hT
    first | go_enter Try.func100, Try.ntmps100 | go_enter Try.func94, Try.ntmps94 | go_enter Try.func70, Try.ntmps70
    go_wp2
    go_loopw [10, 11] (fun si sj wr => ∃ (i j : Nat), si = .int .i64 (i : Int) ∧ sj = .int .i64 (j : Int) ∧ m ≤ i ∧ i ≤ j ∧ j ≤ b ∧ (∀ t v, V[t]? = some v → m + t < i → C.cmp v u < 0) ∧ (∀ t v, V[t]? = some v → j ≤ m + t → 0 ≤ C.cmp v u) ∧ DY C rs wr g (P ++ (u :: V ++ S)) ∧ GX g w wr) (fun si sj _ => (intOf sj).toNat - (intOf si).toNat)
    case atStart => exact ⟨m, b, rfl, rfl, Nat.le_refl _, hmb, Nat.le_refl _, fun t v h1 h2 => by omega, fun t v h1 h2 => by have := (List.getElem?_eq_some_iff.1 h1).1; have := Eb.out; omega, Hd.out, GX.refl _ _⟩
    case round =>
      obtain ⟨i, j, rfl, rfl, hmi, hij, hjb, hlo, hhi, hdb, hgx⟩ := hrel
      have Lo := Lib.hid hlo
      have Hi := Lib.hid hhi
      have Hdb := Lib.hid hdb
      have hgw := hg0.trans hgx
      clear hlo hhi hdb
      by_cases hlt : i < j
      · have dl : decide ((i : Int) < (j : Int)) = true := by simp; omega
        obtain ⟨h, eh⟩ : ∃ h : Nat, h = (i + j) / 2 := ⟨_, rfl⟩
        have eh2 : ((i : Int) + (j : Int)) / 2 = (h : Int) := by omega
        have h1 : i ≤ h := by omega
        have h2 : h < j := by omega
        have hbig : (i : Int) + j ≤ 2000000 := by omega
        have hhN : h < N := by omega
        obtain ⟨v, hv⟩ : ∃ v, V[h - m]? = some v := ⟨_, List.getElem?_eq_getElem (by have := Eb.out; omega)⟩
        have fu : (P ++ (u :: V ++ S))[a]? = some u := by rw [Ea.out]; exact get_mid _ _ _
        have fv : (P ++ (u :: V ++ S))[h]? = some v := by
          rw [show P ++ (u :: V ++ S) = (P ++ [u]) ++ (V ++ S) by simp, List.getElem?_append_right (by simp; have := Ea.out; have := Em.out; omega), List.getElem?_append_left (by simp; have := Ea.out; have := Em.out; have := Eb.out; omega)]
          rw [show h - (P ++ [u]).length = h - m by simp; have := Ea.out; have := Em.out; omega]
          exact hv
        have gu : C.good g w0 u := HG.out u (by simp)
        have gv : C.good g w0 v := HG.out v (by simp [List.mem_of_getElem? hv])
        have Fu := Lib.hid fu
        have Fv := Lib.hid fv
        have Hv := Lib.hid hv
        have Eh := Lib.hid eh
        clear fu fv hv eh
        obtain ⟨cr, hcr⟩ : ∃ q, C.ans v u = q := ⟨_, rfl⟩
        have cc := fun W (h : GX g w0 W) => C.call v u g w0 W gv gu h
        rw [hcr] at cc
        dsimp only [Ck.fn, Ck.args, Ck.v, Ck.c0, Ck.c1] at cc
        have htg : C.tg u v := HTg.out v (List.mem_of_getElem? Hv.out)
        have hlt9 := C.lt gv gu htg
        rw [hcr] at hlt9
        have Hcr := Lib.hid hlt9
        clear hcr hlt9 htg
        go_upto_region 5 with fail
        apply wp_region_calm 11 (by kernel_rfl) (by kernel_rfl)
        case h' =>
          intro Q0 hQ0
          simp only [List.take_succ_cons, List.take_zero]
          repeat ((first | ((first | apply calm_p rfl | apply calm_y rfl rfl rfl); case h1 => (intro w1 hw1 hF K hK; obtain ⟨cx0, cx1⟩ := (Hdb.out.grow hw1).at Fu.out; dsimp only [Ck.c0, Ck.c1] at cx0 cx1; obtain ⟨cy0, cy1⟩ := (Hdb.out.grow hw1).at Fv.out; dsimp only [Ck.c0, Ck.c1] at cy0 cy1; go_simp; first | exact hK _ (Grow.refl _) | ((first | go_at_call 78 | go_at_call 65 | go_at_call 23); ((with_reducible refine (cc _ (hgw.grow hw1)).mono ?_); rintro e w' ⟨rfl, hg⟩; exact ⟨_, rfl, hK _ hg⟩)))) | apply calm_n rfl rfl rfl rfl); intro K hK; go_simp; apply hK; clear hK K)
          refine calm_nil ?_
          intro w1 hw1 hF
          apply hQ0
          clear hQ0
          simp only [List.drop_succ_cons, List.drop_zero]
          clear hF
          have Hdb3 := Lib.hid (Hdb.out.grow hw1)
          have GV : ∀ x ∈ V, C.good g w0 x := fun x hx => HG.out x (by simp [hx])
          by_cases hc : cr < 0
          · have dc : decide (cr < 0) = true := by simpa using hc
            have hnew : ∀ t v', V[t]? = some v' → m + t < h + 1 → C.cmp v' u < 0 := fun t v' ht hlt' => by
              have g' := GV v' (List.mem_of_getElem? ht)
              exact le_lt g' gv gu (up_get HV.out GV ht Hv.out (by omega)) (Hcr.out.2 hc)
            have Hnew := Lib.hid hnew
            clear hnew hc
            simp only [dc]
            go_wp2
            go_roundw
            case rel => exact ⟨h + 1, j, by go_num, rfl, by omega, by omega, hjb, Hnew.out, Hi.out, Hdb3.out, hgx.grow hw1⟩
            case measure => simp [intOf]; omega
          · have dc : decide (cr < 0) = false := by simpa using hc
            have hnew : ∀ t v', V[t]? = some v' → h ≤ m + t → 0 ≤ C.cmp v' u := fun t v' ht hlt' => by
              have g' := GV v' (List.mem_of_getElem? ht)
              have h5 := up_get HV.out GV Hv.out ht (by omega)
              by_cases h6 : C.cmp v' u < 0
              · have := le_lt gv g' gu h5 h6
                exact absurd (Hcr.out.1 this) hc
              · omega
            have Hnew := Lib.hid hnew
            clear hnew hc
            simp only [dc]
            go_wp2
            go_roundw
            case rel => exact ⟨i, h, rfl, by go_num, hmi, h1, by omega, Lo.out, Hnew.out, Hdb3.out, hgx.grow hw1⟩
            case measure => simp [intOf]; omega
        case hp' => trivial
      · obtain rfl : i = j := by omega
        have dl : decide ((i : Int) < (i : Int)) = false := by simp
        clear hlt
        go_wp2
        go_loopw [13] (fun sk w3 => ∃ (k : Nat) (V1 V2 : List α), sk = .int .i64 (k : Int) ∧ V = V1 ++ V2 ∧ k = a + V1.length ∧ k + 1 ≤ i ∧ DY C rs w3 g (P ++ (V1 ++ u :: (V2 ++ S))) ∧ GX g w w3) (fun sk _ => i - (intOf sk).toNat)
        case atStart => exact ⟨a, [], V, rfl, rfl, by simp, by omega, by have := Hdb.out; simpa using this, hgx⟩
        case round =>
          obtain ⟨k, V1, V2, rfl, e1, ek, hki, hdb2, hgx2⟩ := hrel
          have E1 := Lib.hid e1
          have Ek := Lib.hid ek
          have Hdb2 := Lib.hid hdb2
          have hak : a ≤ k := by omega
          clear e1 ek hdb2
          by_cases hk2 : k + 1 < i
          · have dk : decide ((k : Int) < (i : Int) - 1) = true := by simp; omega
            obtain ⟨y, V3, rfl⟩ : ∃ y V3, V2 = y :: V3 := by
              have h0 := congrArg List.length E1.out
              have h1 := Ek.out
              have h2 := Em.out
              have h3 := Eb.out
              match V2, h0 with
              | [], h0 => exfalso; simp at h0; omega
              | y :: V3, _ => exact ⟨y, V3, rfl⟩
            have fx : (P ++ (V1 ++ u :: (y :: V3 ++ S)))[k]? = some u := by
              rw [show P ++ (V1 ++ u :: (y :: V3 ++ S)) = (P ++ V1) ++ u :: (y :: V3 ++ S) by simp, show k = (P ++ V1).length by simp; have := Ek.out; have := Ea.out; omega]
              exact get_mid _ _ _
            have fy : (P ++ (V1 ++ u :: (y :: V3 ++ S)))[k + 1]? = some y := by
              rw [show P ++ (V1 ++ u :: (y :: V3 ++ S)) = (P ++ (V1 ++ [u])) ++ y :: (V3 ++ S) by simp, show k + 1 = (P ++ (V1 ++ [u])).length by simp; have := Ek.out; have := Ea.out; omega]
              exact get_mid _ _ _
            have Fx := Lib.hid fx
            have Fy := Lib.hid fy
            clear fx fy
            obtain ⟨cx0, cx1⟩ := Hdb2.out.at Fx.out; dsimp only [Ck.c0, Ck.c1] at cx0 cx1
            obtain ⟨cy0, cy1⟩ := Hdb2.out.at Fy.out; dsimp only [Ck.c0, Ck.c1] at cy0 cy1
            have fr := Hdb2.out.frozen
            have p0 : (0 : Int) ≤ (k : Int) + 1 := by omega
            have e0 : ((k : Int) + 1).toNat = k + 1 := by omega
            have jz : (k : Int) + 1 < (N : Int) := by omega
            have jz1 : (k : Int) < (N : Int) := by omega
            have hwp : IntKind.i64.wrap ((k : Int) + 1) = (k : Int) + 1 := by rw [IntKind.wrap_i64]; omega
            have jz2 : k + 1 < N := by omega
            have jz3 : k < N := by omega
            have ne0 : k * 2 ≠ (k + 1) * 2 := by omega
            have ne2 : k ≠ k + 1 := by omega
            have ne1 : k * 2 + 1 ≠ (k + 1) * 2 := by omega
            go_wp2
            go_big_region_o
            all_goals go_wp2
            refine ⟨⟨k + 1, V1 ++ [y], V3, by go_num, by rw [E1.out]; simp, by simp; have := Ek.out; omega, by omega, ?_, GX.drew (by repeat (first | with_reducible exact hgx2 | refine GX.set ?_ _ _))⟩, by simp [intOf]; omega⟩
            have h1 := (Hdb2.out.put (List.getElem?_eq_some_iff.1 Fx.out).1 y).put (i := k + 1) (by rw [List.length_set]; exact (List.getElem?_eq_some_iff.1 Fy.out).1) u
            have e := swap_list (P ++ V1) [] (V3 ++ S) u y
            rw [show (P ++ V1).length = k by simp; have := Ek.out; have := Ea.out; omega] at e
            simp only [List.length_nil, Nat.add_zero, List.nil_append] at e
            rw [show P ++ (V1 ++ u :: (y :: V3 ++ S)) = P ++ V1 ++ u :: y :: (V3 ++ S) by simp, e] at h1
            rw [show P ++ (V1 ++ [y] ++ u :: (V3 ++ S)) = P ++ V1 ++ y :: u :: (V3 ++ S) by simp]
            exact h1
          · have dk : decide ((k : Int) < (i : Int) - 1) = false := by simp; omega
            have hfin : ∃ M' : List α, M'.Perm (u :: V) ∧ C.Up M' ∧ DY C rs wr g (P ++ (M' ++ S)) := by
              have GV : ∀ x ∈ V, C.good g w0 x := fun x hx => HG.out x (by simp [hx])
              have gu : C.good g w0 u := HG.out u (by simp)
              refine ⟨V1 ++ u :: V2, by rw [E1.out]; exact List.perm_middle, up_insert' (by rw [← E1.out]; exact HV.out) (fun y hy => ?_) (fun y hy => ?_), by have := Hdb2.out; simpa using this⟩
              · obtain ⟨t, ht, rfl⟩ := List.getElem_of_mem hy
                have := Lo.out t V1[t] (by rw [E1.out, List.getElem?_append_left ht]; exact List.getElem?_eq_getElem ht) (by have := Ek.out; have := Em.out; omega)
                omega
              · obtain ⟨t, ht, rfl⟩ := List.getElem_of_mem hy
                have := Hi.out (V1.length + t) V2[t] (by rw [E1.out, List.getElem?_append_right (by omega), Nat.add_sub_cancel_left]; exact List.getElem?_eq_getElem ht) (by have := Ek.out; have := Em.out; omega)
                have := C.swap (GV V2[t] (by rw [E1.out]; simp)) gu
                omega
            have Hfin := Lib.hid hfin
            clear hfin
            go_wp2
            exact bodyPost_ret (by simp [results, Try.results100, Try.results94, Try.results70, go_sem]) rfl ⟨rfl, Hfin.out, hgx2⟩
end
end Go.Proofs.Ytamfpppbjaelaaa
