/- Parts of a proof. No condition. -/
import Derived.Test.YtflggnopgnoeiaaGreatGB
import Derived.Shelf.SlicesQ.Reverse
import Derived.Deep.DeepCutAuto
set_option maxRecDepth 100000
set_option maxHeartbeats 8000000
set_option maxRecDepth 100000
set_option linter.unusedSimpArgs false
set_option linter.unusedVariables false
namespace Go
variable {p : Prop}
theorem oa_ (h : p := by rw [E1.out, List.getElem?_append_right (by omega), Nat.add_sub_cancel_left]; exact qQ_ ht) : p := h
theorem od_ (h : p := by rw [E1.out, List.getElem?_append_left ht]; exact qQ_ ht) : p := h
theorem of_ (h : p := by simp [results, Tryz.results188, Tryz.results222, Tryz.results125, go_sem]) : p := h
theorem oh_ (h : p := by rw [List.length_set]; exact (qQ9.1 Fy.out).1) : p := h
theorem oi_ (h : p := by repeat (first | with_reducible exact hgx2 | refine GX.set ?_ _ _)) : p := h
theorem vP_ (h : p := by have := Ek.out; have := Em.out; omega) : p := h
theorem vX_ (h : p := by have := Hdb.out; simpa using this) : p := h
theorem v4_ (h : p := by rw [<- E1.out]; exact HU.out) : p := h
theorem ud_ (h : p := by have := HP.out; omega) : p := h
theorem ui_ (h : p := by rw [Hlen.out]; simp) : p := h
theorem un_ (h : p := by rw [E1.out]; simp) : p := h
theorem uI_ (h : p := by simpa using h) : p := h
theorem xQ_ (h : p := by
 exact ⟨h + 1, j, by go_num, rfl, by omega, by omega, hjb, Hnew.out, Hi.out, Hdb3.out, hgx.grow hw1⟩) : p := h
theorem x1_ (h : p := by
 exact ⟨i, h, rfl, by go_num, hmi, h1, by omega, Lo.out, Hnew.out, Hdb3.out, hgx.grow hw1⟩) : p := h
theorem yw_ (h : p := by
 have := congrArg List.length E1.out; have := Hk.out; simp at *; omega) : p := h
end Go
namespace Go.Proofs.YtflggnopgnoeiaaGreat
open Go.RowKit Go.Calm
structure I where
 A : Option Addr
 row : List V
 cap : Nat
 w : Int
instance : Inhabited I := ⟨⟨none, [], 0, 0⟩⟩
abbrev I.val (x : I) : Value := .agg #[.slice x.A x.row.length x.cap, .int .i64 x.w]
def zr : List I -> List Value
 | [] => []
 | x :: xs => .slice x.A x.row.length x.cap :: .int .i64 x.w :: zr xs
theorem xv : ∀ xs : List I, (zr xs).length = xs.length * 2
 | [] => rfl
 | x :: xs => by simp [zr, xv xs]; omega
theorem qp : ∀ (xs : List I) (i : Nat) (x : I), xs[i]? = some x -> (zr xs)[i * 2]? = some (.slice x.A x.row.length x.cap) /\ (zr xs)[i * 2 + 1]? = some (.int .i64 x.w)
 | [], i, x, h => by simp at h
 | y :: ys, 0, x, h => by simp at h; subst h; simp [zr]
 | y :: ys, i + 1, x, h => by
  have := qp ys i x uI_; rw [show (i + 1) * 2 = i * 2 + 2 by omega]; simpa [zr] using this
theorem QO : ∀ (xs : List I) (i : Nat) (y : I), i < xs.length -> ((zr xs).set (i * 2) (.slice y.A y.row.length y.cap)).set (i * 2 + 1) (.int .i64 y.w) = zr (xs.set i y)
 | [], i, y, h => by simp at h
 | x :: xs, 0, y, h => by simp [zr]
 | x :: xs, i + 1, y, h => by
  have := QO xs i y uI_; rw [show (i + 1) * 2 = i * 2 + 1 + 1 by omega]; simp only [zr, List.set_cons_succ]; rw [<- this]
theorem xM : ∀ xs ys : List I, zr (xs ++ ys) = zr xs ++ zr ys
 | [], ys => rfl
 | x :: xs, ys => by simp [zr, xM xs ys]
def DB (w : World) (g : Nat) (xs : List I) : Prop := zb w g 53 (zr xs).toArray
theorem DB.lt {w : World} {g : Nat} {xs : List I} (h : DB w g xs) : g < w.heap.size := zb.lt h
theorem DB.at {w : World} {g : Nat} {xs : List I} (h : DB w g xs) {i : Nat} {x : I} (hx : xs[i]? = some x) : w.cell? ⟨g, i * 2, none⟩ = some (.slice x.A x.row.length x.cap) /\ w.cell? ⟨g, i * 2 + 1, none⟩ = some (.int .i64 x.w) := by
 obtain ⟨a, b⟩ := qp xs i x hx; rw [zb.cell h, zb.cell h]; exact ⟨by simpa using a, by simpa using b⟩
theorem DB.frozen {w : World} {g : Nat} {xs : List I} (h : DB w g xs) (i : Nat) : w.frozen? ⟨g, i, none⟩ = false := zb.frozen h i
theorem DB.grow {w w' : World} {g : Nat} {xs : List I} (h : DB w g xs) (hg : za w w') : DB w' g xs := zb.grow h hg
theorem DB.put {w : World} {g : Nat} {xs : List I} (h : DB w g xs) {i : Nat} (hi : i < xs.length) (y : I) : DB ((w.setCell ⟨g, i * 2, none⟩ (.slice y.A y.row.length y.cap)).setCell ⟨g, i * 2 + 1, none⟩ (.int .i64 y.w)) g (xs.set i y) := by
 have hb := ((zb.set h (i * 2) (.slice y.A y.row.length y.cap)).set (i * 2 + 1) (.int .i64 y.w))
 unfold DB; rw [<- QO xs i y hi]; simpa using hb
theorem GX.put {g : Nat} {a b : World} (h : GX g a b) (i : Nat) (u v : Value) (j : Nat) : GX g a ((b.setCell ⟨g, i, none⟩ u).setCell ⟨g, j, none⟩ v) := (h.set _ _).set _ _
theorem Qv {α : Type} (L R : List α) (x y : α) (n : Nat) (hn : n = L.length) : (L ++ x :: R).set n y = L ++ y :: R := by
 subst hn
 induction L with
 | nil => rfl
 | cons a L ih => simp [ih]
theorem MG {α : Type} (L1 L2 L3 : List α) (x y : α) : ((L1 ++ x :: (L2 ++ y :: L3)).set L1.length y).set (L1.length + 1 + L2.length) x = L1 ++ y :: (L2 ++ x :: L3) := by
 rw [Qv L1 _ x y _ rfl, show L1 ++ y :: (L2 ++ y :: L3) = (L1 ++ y :: L2) ++ y :: L3 by simp, Qv _ _ y x _ uN_]; simp
theorem jC {α : Type} (L : List α) (x : α) (R : List α) : (L ++ x :: R)[L.length]? = some x := by simp
inductive Ck where
 | t
 | q (gk : Nat)
 | j
 | l
@[reducible] def Ck.fn : Ck -> Nat
 | .t => 134
 | .q _ => 201
 | .j => 213
 | .l => 26
@[reducible] def Ck.F : Ck -> Value
 | .t => .func (.func 134) #[] #[]
 | .q gk => .func (.func 201) #[] #[.pointer (some ⟨gk, 0, none⟩)]
 | .j => .func (.func 213) #[] #[]
 | .l => .func (.func 26) #[] #[]
@[reducible] def Ck.args : Ck -> Value -> Value -> Array Value
 | .t, x, y => #[x, y]
 | .q gk, x, y => #[x, y, .pointer (some ⟨gk, 0, none⟩)]
 | .j, x, y => #[x, y]
 | .l, x, y => #[x, y]
@[reducible] def Ck.ty : Ck -> TypeId
 | .t => 53
 | .q _ => 53
 | .j => 218
 | .l => 66
@[reducible] def Ck.c0 : Ck -> Option Addr -> Nat -> Nat -> Value
 | .t, A, n, c => .slice A n c
 | .q _, A, n, c => .slice A n c
 | .j, A, n, c => .slice A n c
 | .l, A, _, _ => .pointer A
@[reducible] def Ck.c1 : Ck -> Int -> Nat -> Value
 | .t, w, _ => .int .i64 w
 | .q _, w, _ => .int .i64 w
 | .j, _, b => .slice (some ⟨b, 0, none⟩) 1 1
 | .l, w, _ => .int .i64 w
@[reducible] def Ck.one : Ck -> Bool
 | .t => false
 | .q _ => false
 | .j => false
 | .l => true
@[reducible] def Ck.swp : Ck -> Nat
 | .t => 215
 | .q _ => 215
 | .j => 224
 | .l => 185
@[reducible] def Ck.rot : Ck -> Nat
 | .t => 207
 | .q _ => 207
 | .j => 223
 | .l => 154
@[reducible] def Ck.ins : Ck -> Nat
 | .t => 187
 | .q _ => 187
 | .j => 221
 | .l => 124
@[reducible] def Ck.sym : Ck -> Nat
 | .t => 188
 | .q _ => 188
 | .j => 222
 | .l => 125
@[reducible] def Ck.stb : Ck -> Nat
 | .t => 157
 | .q _ => 157
 | .j => 217
 | .l => 68
@[reducible] def Ck.srt : Ck -> Nat
 | .t => 133
 | .q _ => 133
 | .j => 212
 | .l => 25
@[reducible] def Gu : Bool -> Value -> Value -> List Value
 | false, a, b => [a, b]
 | true, a, _ => [a]
@[reducible] def Ck.v (ck : Ck) (a b : Value) : Value := match ck.one with
 | false => .agg #[a, b]
 | true => a
@[reducible] def zb4 (w : World) (g i : Nat) (a b : Value) : Bool -> Prop
 | false => w.cell? ⟨g, i * 2, none⟩ = some a /\ w.cell? ⟨g, i * 2 + 1, none⟩ = some b
 | true => w.cell? ⟨g, i, none⟩ = some a /\ True
@[reducible] def zch (w : World) (g i : Nat) (a b : Value) : Bool -> World
 | false => (w.setCell ⟨g, i * 2, none⟩ a).setCell ⟨g, i * 2 + 1, none⟩ b
 | true => w.setCell ⟨g, i, none⟩ a
structure Cm (ck : Ck) (α : Type) where
 A : α -> Option Addr
 n : α -> Nat
 cap : α -> Nat
 w : α -> Int
 b : α -> Nat
 cmp : α -> α -> Int
 ans : α -> α -> Int
 tg : α -> α -> Prop
 good : Nat -> World -> α -> Prop
 trans : ∀ {g : Nat} {w0 : World} {x y z : α}, good g w0 x -> good g w0 y -> good g w0 z -> cmp x y <= 0 -> cmp y z <= 0 -> cmp x z <= 0
 swap : ∀ {g : Nat} {w0 : World} {x y : α}, good g w0 x -> good g w0 y -> cmp y x = - cmp x y
 lt : ∀ {g : Nat} {w0 : World} {x y : α}, good g w0 x -> good g w0 y -> tg y x -> (cmp x y < 0 ↔ ans x y < 0)
 call : ∀ (x y : α) (g : Nat) (w0 w' : World), good g w0 x -> good g w0 y -> GX g w0 w' -> Calls Tryz.prog ck.fn (ck.args (ck.v (ck.c0 (A x) (n x) (cap x)) (ck.c1 (w x) (b x))) (ck.v (ck.c0 (A y) (n y) (cap y)) (ck.c1 (w y) (b y)))) w' fun e w2 => e = .returned (.int .i64 (ans x y)) /\ za w' w2
section
variable {ck : Ck} {α : Type} {C : Cm ck α} {rs : List Value}
theorem Cm.self {g : Nat} {w0 : World} {x : α} (C : Cm ck α) (hx : C.good g w0 x) : C.cmp x x = 0 := by
 have := C.swap hx hx; omega
abbrev Cm.Up (C : Cm ck α) (L : List α) : Prop := L.Pairwise (fun x y => C.cmp x y <= 0)
def qU (b : Bool) : List (Value × Value) -> List Value
 | [] => []
 | x :: xs => Gu b x.1 x.2 ++ qU b xs
theorem Zt : ∀ (l : List (Value × Value)) (i : Nat) (x : Value × Value), l[i]? = some x -> (qU false l)[i * 2]? = some x.1 /\ (qU false l)[i * 2 + 1]? = some x.2
 | [], i, x, h => by simp at h
 | y :: ys, 0, x, h => by simp at h; subst h; simp [qU, Gu]
 | y :: ys, i + 1, x, h => by
  have := Zt ys i x uI_; rw [show (i + 1) * 2 = i * 2 + 2 by omega]; simpa [qU, Gu] using this
theorem Zu : ∀ (l : List (Value × Value)) (i : Nat) (x : Value × Value), l[i]? = some x -> (qU true l)[i]? = some x.1
 | [], i, x, h => by simp at h
 | y :: ys, 0, x, h => by simp at h; subst h; simp [qU, Gu]
 | y :: ys, i + 1, x, h => by simpa [qU, Gu] using Zu ys i x uI_
theorem JG : ∀ (l : List (Value × Value)) (i : Nat) (y : Value × Value), i < l.length -> ((qU false l).set (i * 2) y.1).set (i * 2 + 1) y.2 = qU false (l.set i y)
 | [], i, y, h => by simp at h
 | x :: xs, 0, y, h => by simp [qU, Gu]
 | x :: xs, i + 1, y, h => by
  have := JG xs i y uI_; rw [show (i + 1) * 2 = i * 2 + 1 + 1 by omega]; simp only [qU, Gu, List.cons_append, List.nil_append, List.set_cons_succ]; rw [<- this]
theorem JH : ∀ (l : List (Value × Value)) (i : Nat) (y : Value × Value), i < l.length -> (qU true l).set i y.1 = qU true (l.set i y)
 | [], i, y, h => by simp at h
 | x :: xs, 0, y, h => by simp [qU, Gu]
 | x :: xs, i + 1, y, h => by
  have := JH xs i y uI_; simp only [qU, Gu, List.cons_append, List.nil_append, List.set_cons_succ]; rw [<- this]
theorem Gj (b : Bool) {w : World} {g : Nat} {t : TypeId} {l : List (Value × Value)} {rs : List Value} (h : zb w g t (qU b l ++ rs).toArray) {i : Nat} {x : Value × Value} (hx : l[i]? = some x) : zb4 w g i x.1 x.2 b := by
 cases b with
 | false =>
  obtain ⟨p, q⟩ := Zt l i x hx; refine ⟨?_, ?_⟩
  ·rw [zb.cell h, List.getElem?_toArray, List.getElem?_append_left (qQ9.1 p).1]; exact p
  ·rw [zb.cell h, List.getElem?_toArray, List.getElem?_append_left (qQ9.1 q).1]; exact q
 | true =>
  have k := Zu l i x hx; refine ⟨?_, trivial⟩; rw [zb.cell h, List.getElem?_toArray, List.getElem?_append_left (qQ9.1 k).1]; exact k
theorem Cw (b : Bool) {w : World} {g : Nat} {t : TypeId} {l : List (Value × Value)} {rs : List Value} (h : zb w g t (qU b l ++ rs).toArray) {i : Nat} (hi : i < l.length) (y : Value × Value) : zb (zch w g i y.1 y.2 b) g t (qU b (l.set i y) ++ rs).toArray := by
 have hx := qQ_ hi; cases b with
 | false =>
  have k2 := Zt l i _ hx; have l1 := (qQ9.1 k2.1).1; have l2 := (qQ9.1 k2.2).1; have hb := ((zb.set h (i * 2) y.1).set (i * 2 + 1) y.2)
  simp only [List.setIfInBounds_toArray, List.set_append_left _ _ l1] at hb; rw [List.set_append_left _ _ (by rw [List.length_set]; exact l2), JG l i y hi] at hb; exact hb
 | true =>
  have l1 := (qQ9.1 (Zu l i _ hx)).1; have hb := zb.set h i y.1; simp only [List.setIfInBounds_toArray, List.set_append_left _ _ l1] at hb; rw [JH l i y hi] at hb; exact hb
def Cm.p (C : Cm ck α) (x : α) : Value × Value := (ck.c0 (C.A x) (C.n x) (C.cap x), ck.c1 (C.w x) (C.b x))
def Cm.flat (C : Cm ck α) (xs : List α) : List Value := qU ck.one (xs.map C.p)
def DY (C : Cm ck α) (rs : List Value) (w : World) (g : Nat) (xs : List α) : Prop := zb w g ck.ty (C.flat xs ++ rs).toArray
theorem DY.at {w : World} {g : Nat} {xs : List α} (h : DY C rs w g xs) {i : Nat} {x : α} (hx : xs[i]? = some x) : zb4 w g i (ck.c0 (C.A x) (C.n x) (C.cap x)) (ck.c1 (C.w x) (C.b x)) ck.one := Gj ck.one (x := C.p x) h (by rw [List.getElem?_map, hx]; rfl)
theorem DY.frozen {w : World} {g : Nat} {xs : List α} (h : DY C rs w g xs) (i : Nat) : w.frozen? ⟨g, i, none⟩ = false := zb.frozen h i
theorem DY.grow {w w' : World} {g : Nat} {xs : List α} (h : DY C rs w g xs) (hg : za w w') : DY C rs w' g xs := zb.grow h hg
theorem DY.drew {w : World} {g : Nat} {xs : List α} (h : DY C rs w g xs) : DY C rs w.drew g xs := h
theorem DY.put {w : World} {g : Nat} {xs : List α} (h : DY C rs w g xs) {i : Nat} (hi : i < xs.length) (y : α) : DY C rs (zch w g i (ck.c0 (C.A y) (C.n y) (C.cap y)) (ck.c1 (C.w y) (C.b y)) ck.one) g (xs.set i y) := by
 have k := Cw ck.one h (i := i) (by simpa using hi) (C.p y); unfold DY Cm.flat; rw [List.map_set]; exact k
theorem Rv (L1 R : List α) (x y : α) : ((L1 ++ y :: x :: R).set (L1.length + 1) y).set L1.length x = L1 ++ x :: y :: R := by
 rw [show L1 ++ y :: x :: R = (L1 ++ [y]) ++ x :: R by simp, Qv (L1 ++ [y]) R x y _ uY_, show (L1 ++ [y]) ++ y :: R = L1 ++ y :: (y :: R) by simp, Qv L1 _ y x _ rfl]
theorem DW {U1 V1 U2 V2 M1 M2 : List α} (p1 : M1.Perm (U1 ++ V1)) (p2 : M2.Perm (U2 ++ V2)) : (M1 ++ M2).Perm (U1 ++ U2 ++ (V1 ++ V2)) := by
 refine (p1.append p2).trans ?_; simp only [List.append_assoc]; refine List.Perm.append_left U1 ?_; rw [<- List.append_assoc, <- List.append_assoc U2]; exact List.Perm.append_right V2 List.perm_append_comm
end
section
variable {ck : Ck} {α : Type} {C : Cm ck α} {rs : List Value}
theorem Tb (P X Q Y S : List α) (n a b N c : Nat) (hX : X.length = n) (hY : Y.length = n) (ha : a = P.length) (hb : b = P.length + n + Q.length) (hN : N = (P ++ (X ++ (Q ++ (Y ++ S)))).length) (hmax : N <= 1000000) (g : Nat) (F : Value) (w : World) (hd : DY C rs w g (P ++ (X ++ (Q ++ (Y ++ S))))) :
  Calls Tryz.prog ck.swp #[.slice (some ⟨g, 0, none⟩) N c, .int .i64 a, .int .i64 b, .int .i64 n, F] w fun en w' => en = .returned (.tuple #[]) /\ DY C rs w' g (P ++ (Y ++ (Q ++ (X ++ S)))) /\ GX g w w' := by
 cases ck
 all_goals as_aux_lemma =>
  dsimp only [Ck.swp, Ck.rot, Ck.ins, Ck.sym, Ck.stb, Ck.srt, Ck.F]; have mixed : Tryz.prog.follows .mixedOrders = true := by kernel_rfl
  have Hd := hh_ hd; have HX := hh_ hX; have HY := hh_ hY; have Ha := hh_ ha; have Hb := hh_ hb; have HN := hh_ hN; have hN2 : N = P.length + n + Q.length + n + S.length := by rw [hN]; simp [hX, hY]; omega
  have hnb : b + n <= N := by omega
  have hna : a + n <= b := by omega
  clear hd hX hY ha hb hN hN2
  first | go_enter Tryz.func215, Tryz.ntmps215 | go_enter Tryz.func224, Tryz.ntmps224 | go_enter Tryz.func185, Tryz.ntmps185
  go_wp2
  go_loopw [10] (fun i wr => ∃ (k : Nat) (X1 X2 Y1 Y2 : List α), k <= n /\ i = .int .i64 k /\ X = X1 ++ X2 /\ Y = Y1 ++ Y2 /\ X1.length = k /\ Y1.length = k /\ DY C rs wr g (P ++ (Y1 ++ (X2 ++ (Q ++ (X1 ++ (Y2 ++ S)))))) /\ GX g w wr) (fun i _ => n - (intOf i).toNat)
  case atStart => exact ⟨0, [], X, [], Y, Nat.zero_le _, rfl, rfl, rfl, rfl, rfl, Hd.out, GX.refl _ _⟩
  case round =>
   obtain ⟨k, X1, X2, Y1, Y2, hk, rfl, e1, e2, l1, l2, hdb, hgx⟩ := hrel; have Hdb := hh_ hdb; have E1 := hh_ e1; have E2 := hh_ e2; have L1 := hh_ l1; have L2 := hh_ l2; clear hdb e1 e2 l1 l2
   by_cases hlt : k < n
   ·obtain ⟨x, X3, rfl⟩ : ∃ x X3, X2 = x :: X3 := by
     match X2, E1 with
     | [], E1 => exfalso; have := HX.out; rw [E1.out] at this; simp at this; have := L1.out; omega
     | x :: X3, _ => exact ⟨x, X3, rfl⟩
    obtain ⟨y, Y3, rfl⟩ : ∃ y Y3, Y2 = y :: Y3 := by
     match Y2, E2 with
     | [], E2 => exfalso; have := HY.out; rw [E2.out] at this; simp at this; have := L2.out; omega
     | y :: Y3, _ => exact ⟨y, Y3, rfl⟩
    have hlX : X1.length + (X3.length + 1) = n := by have := HX.out; rw [E1.out] at this; simpa using this
    have fx : (P ++ (Y1 ++ (x :: X3 ++ (Q ++ (X1 ++ (y :: Y3 ++ S))))))[a + k]? = some x := by
     rw [<- List.append_assoc]; rw [show a + k = (P ++ Y1).length by rw [Ha.out, List.length_append, L2.out]]; exact jC _ _ _
    have fy : (P ++ (Y1 ++ (x :: X3 ++ (Q ++ (X1 ++ (y :: Y3 ++ S))))))[b + k]? = some y := by
     rw [show P ++ (Y1 ++ (x :: X3 ++ (Q ++ (X1 ++ (y :: Y3 ++ S))))) = (P ++ (Y1 ++ (x :: X3 ++ (Q ++ X1)))) ++ y :: (Y3 ++ S) by simp]; rw [show b + k = (P ++ (Y1 ++ (x :: X3 ++ (Q ++ X1)))).length by rw [Hb.out]; simp [L1.out, L2.out]; have := L1.out; omega]; exact jC _ _ _
    obtain ⟨cx0, cx1⟩ := Hdb.out.at fx; dsimp only [Ck.c0, Ck.c1] at cx0 cx1; obtain ⟨cy0, cy1⟩ := Hdb.out.at fy; dsimp only [Ck.c0, Ck.c1] at cy0 cy1; have fr := Hdb.out.frozen; have na : a + k < N := by omega
    have nb : b + k < N := by omega
    have ne0 : a + k ≠ b + k := by omega
    have Fx := hh_ fx; have Fy := hh_ fy; have HlX := hh_ hlX; clear fx fy hlX; go_wp2; go_big_region_o
    all_goals go_wp2
    refine ⟨⟨k + 1, X1 ++ [x], X3, Y1 ++ [y], Y3, by omega, by go_num, by rw [E1.out]; simp, by rw [E2.out]; simp, by simp [L1.out], by simp [L2.out], ?_, GX.drew (by repeat (first | with_reducible exact hgx | refine GX.set ?_ _ _))⟩, by simp [intOf]; omega⟩; have h1 := (Hdb.out.put (qQ9.1 Fx.out).1 y).put (i := b + k) oh_ x; have e := MG (P ++ Y1) (X3 ++ (Q ++ X1)) (Y3 ++ S) x y; rw [show (P ++ Y1).length = a + k by rw [Ha.out, List.length_append, L2.out], show a + k + 1 + (X3 ++ (Q ++ X1)).length = b + k by have := HlX.out; have := L1.out; have := Hb.out; have := Ha.out; simp; omega] at e; have e2 : P ++ (Y1 ++ (x :: X3 ++ (Q ++ (X1 ++ (y :: Y3 ++ S))))) = P ++ Y1 ++ x :: (X3 ++ (Q ++ X1) ++ y :: (Y3 ++ S)) := by simp
    rw [e2, e] at h1; have e3 : P ++ Y1 ++ y :: (X3 ++ (Q ++ X1) ++ x :: (Y3 ++ S)) = P ++ (Y1 ++ [y] ++ (X3 ++ (Q ++ (X1 ++ [x] ++ (Y3 ++ S))))) := by simp
    rw [e3] at h1; exact h1
   ·have e1 : X1 = X /\ X2 = [] := by
     have h := HX.out; rw [E1.out, List.length_append, L1.out] at h; have : X2 = [] := List.length_eq_zero_iff.1 uX_; exact ⟨by rw [E1.out, this]; simp, this⟩
    have e2 : Y1 = Y /\ Y2 = [] := by
     have h := HY.out; rw [E2.out, List.length_append, L2.out] at h; have : Y2 = [] := List.length_eq_zero_iff.1 uX_; exact ⟨by rw [E2.out, this]; simp, this⟩
    have hfin : DY C rs wr g (P ++ (Y ++ (Q ++ (X ++ S)))) := by
     have := Hdb.out; rw [e1.1, e1.2, e2.1, e2.2] at this; simpa using this
    have Hfin := hh_ hfin; clear hfin e1 e2; go_wp2; go_end0; exact ⟨rfl, Hfin.out, hgx⟩
end
section
variable {ck : Ck} {α : Type} {C : Cm ck α} {rs : List Value}
theorem Yy (P X Q Y S : List α) (aI bI nI : Int) (n N c : Nat) (hX : X.length = n) (hY : Y.length = n) (ha : aI = P.length) (hb : bI = P.length + n + Q.length) (hn : nI = n) (hN : N = (P ++ (X ++ (Q ++ (Y ++ S)))).length) (hmax : N <= 1000000) (g : Nat) (F : Value) (w : World) (hd : DY C rs w g (P ++ (X ++ (Q ++ (Y ++ S))))) :
  Calls Tryz.prog ck.swp #[.slice (some ⟨g, 0, none⟩) N c, .int .i64 aI, .int .i64 bI, .int .i64 nI, F] w fun en w' => en = .returned (.tuple #[]) /\ DY C rs w' g (P ++ (Y ++ (Q ++ (X ++ S)))) /\ GX g w w' := by
 obtain rfl : aI = ((P.length : Nat) : Int) := ha; obtain rfl : bI = ((P.length + n + Q.length : Nat) : Int) := by rw [hb]; simp
 subst hn; exact Tb (C := C) (rs := rs) P X Q Y S n _ _ N c hX hY rfl rfl hN hmax g F w hd
theorem zbG (P U V S : List α) (aI mI bI : Int) (N c : Nat) (ha : aI = P.length) (hm : mI = P.length + U.length) (hb : bI = P.length + U.length + V.length) (hU : 1 <= U.length) (hV : 1 <= V.length) (hN : N = (P ++ (U ++ (V ++ S))).length) (hmax : N <= 1000000) (g : Nat) (F : Value) (w : World) (hd : DY C rs w g (P ++ (U ++ (V ++ S)))) :
  Calls Tryz.prog ck.rot #[.slice (some ⟨g, 0, none⟩) N c, .int .i64 aI, .int .i64 mI, .int .i64 bI, F] w fun en w' => en = .returned (.tuple #[]) /\ DY C rs w' g (P ++ (V ++ (U ++ S))) /\ GX g w w' := by
 cases ck
 all_goals as_aux_lemma =>
  dsimp only [Ck.swp, Ck.rot, Ck.ins, Ck.sym, Ck.stb, Ck.srt, Ck.F]; obtain ⟨m, em⟩ : ∃ m : Nat, m = P.length + U.length := ⟨_, rfl⟩
  obtain rfl : mI = (m : Int) := by omega
  have hN' : N = P.length + U.length + V.length + S.length := by rw [hN]; simp; omega
  have hmN : m + V.length <= N := by omega
  have w1 : aI = (P.length : Int) := ha; have bd1 : (m : Int) - aI = U.length := by omega
  have bd2 : bI - (m : Int) = V.length := by omega
  have b1 : 0 <= aI /\ aI <= 1000000 := by omega
  have b2 : 0 <= bI /\ bI <= 1000000 := by omega
  obtain ⟨b1a, b1b⟩ := b1; obtain ⟨b2a, b2b⟩ := b2; have Hd := hh_ hd; have HN := hh_ hN'; have Em := hh_ em; clear hd hN hN' em ha hm hb w1
  first | go_enter Tryz.func207, Tryz.ntmps207 | go_enter Tryz.func223, Tryz.ntmps223 | go_enter Tryz.func154, Tryz.ntmps154
  go_wp2
  go_loopw [10, 11] (fun i j wr => ∃ (ki kj : Nat) (P' X Y S' : List α), i = .int .i64 ki /\ j = .int .i64 kj /\ X.length = ki /\ Y.length = kj /\ 1 <= ki /\ 1 <= kj /\ P'.length + ki = m /\ m + kj <= N /\ N = (P' ++ (X ++ (Y ++ S'))).length /\ DY C rs wr g (P' ++ (X ++ (Y ++ S'))) /\ P' ++ (Y ++ (X ++ S')) = P ++ (V ++ (U ++ S)) /\ GX g w wr) (fun i j _ => (intOf i).toNat + (intOf j).toNat)
  case atStart => exact ⟨U.length, V.length, P, U, V, S, by go_num, by go_num, rfl, rfl, hU, hV, Em.out.symm, hmN, by rw [HN.out]; simp; omega, Hd.out, rfl, GX.refl _ _⟩
  case round =>
   obtain ⟨ki, kj, P', X, Y, S', rfl, rfl, lX, lY, h1, h2, hP, hj, hlen, hdb, htgt, hgx⟩ := hrel; have LX := hh_ lX; have LY := hh_ lY; have HP := hh_ hP; have Hlen := hh_ hlen; have Hdb := hh_ hdb; have Tgt := hh_ htgt; have hkm : ki <= m := by omega
   clear lX lY hP hlen hdb htgt; rcases Nat.lt_trichotomy ki kj with hlt | heq | hgt
   ·have d1 : ((ki : Int) != (kj : Int)) = true := by simp; omega
    have d2 : decide ((kj : Int) < (ki : Int)) = false := by simp; omega
    obtain ⟨Y1, Y2, rfl, hY2⟩ : ∃ Y1 Y2, Y = Y1 ++ Y2 /\ Y2.length = ki := ⟨Y.take (kj - ki), Y.drop (kj - ki), by simp, by have := LY.out; simp; omega⟩
    have hY1 : Y1.length = kj - ki := by have := LY.out; simp at this; omega
    have HY1 := hh_ hY1; have HY2 := hh_ hY2; clear hY1 hY2; have cs := Yy (C := C) (rs := rs) P' X Y1 Y2 S' ((m : Int) - ki) ((m : Int) + kj - ki) ki ki N c LX.out HY2.out ud_ (by have := HP.out; have := HY1.out; omega) rfl ui_ hmax g F wr vX_
    go_wp2_with ((first | go_at_call 215 | go_at_call 224 | go_at_call 185); ((with_reducible refine cs.mono ?_); rintro en w2 ⟨rfl, hd2, hg2⟩))
    go_roundw
    case rel =>
     refine ⟨ki, kj - ki, P', Y2, Y1, X ++ S', rfl, by go_num, HY2.out, HY1.out, h1, by omega, HP.out, by omega, ?_, hd2, ?_, hgx.trans hg2⟩
     ·rw [Hlen.out]; simp; omega
     ·rw [<- Tgt.out]; simp
    case measure => exact u1_
   ·subst heq; have d1 : ((ki : Int) != (ki : Int)) = false := by simp
    have cs := Yy (C := C) (rs := rs) P' X [] Y S' ((m : Int) - ki) m ki ki N c LX.out LY.out ud_ (by have := HP.out; simp; omega) rfl ui_ hmax g F wr vX_
    go_wp2_with ((first | go_at_call 215 | go_at_call 224 | go_at_call 185); ((with_reducible refine cs.mono ?_); rintro en w2 ⟨rfl, hd2, hg2⟩))
    have hfin : DY C rs w2 g (P ++ (V ++ (U ++ S))) := by rw [<- Tgt.out]; simpa using hd2
    have Hfin := hh_ hfin; clear hfin hd2; go_end0; exact ⟨rfl, Hfin.out, hgx.trans hg2⟩
   ·have d1 : ((ki : Int) != (kj : Int)) = true := by simp; omega
    have d2 : decide ((kj : Int) < (ki : Int)) = true := by simp; omega
    obtain ⟨X1, X2, rfl, hX1⟩ : ∃ X1 X2, X = X1 ++ X2 /\ X1.length = kj := ⟨X.take kj, X.drop kj, by simp, by have := LX.out; simp; omega⟩
    have hX2 : X2.length = ki - kj := by have := LX.out; simp at this; omega
    have HX1 := hh_ hX1; have HX2 := hh_ hX2; clear hX1 hX2; have cs := Yy (C := C) (rs := rs) P' X1 X2 Y S' ((m : Int) - ki) m kj kj N c HX1.out LY.out ud_ (by have := HP.out; have := HX2.out; omega) rfl ui_ hmax g F wr vX_
    go_wp2_with ((first | go_at_call 215 | go_at_call 224 | go_at_call 185); ((with_reducible refine cs.mono ?_); rintro en w2 ⟨rfl, hd2, hg2⟩))
    go_roundw
    case rel =>
     refine ⟨ki - kj, kj, P' ++ Y, X2, X1, S', by go_num, rfl, HX2.out, HX1.out, by omega, h2, ?_, hj, ?_, by simpa using hd2, ?_, hgx.trans hg2⟩
     ·have := HP.out; have := LY.out; simp; omega
     ·rw [Hlen.out]; simp; omega
     ·rw [<- Tgt.out]; simp
    case measure => exact u1_
end
section
variable {ck : Ck} {α : Type} {C : Cm ck α} {rs : List Value}
theorem MO {g : Nat} {w0 : World} {L R : List α} {x : α} (hG : ∀ y ∈ L ++ x :: R, C.good g w0 y) (hu : C.Up (L ++ R)) (hl : ∀ y, L.getLast? = some y -> C.cmp y x <= 0) (hr : ∀ y ∈ R, C.cmp x y < 0) : C.Up (L ++ x :: R) := by
 unfold Cm.Up at hu ⊢; rw [List.pairwise_append] at hu ⊢; obtain ⟨h1, h2, h3⟩ := hu
 have hlx : ∀ y ∈ L, C.cmp y x <= 0 := fun y hy => by
  rcases List.eq_nil_or_concat L with h | ⟨L', z, h⟩
  ·subst h; simp at hy
  ·have h : L = L' ++ [z] := by simpa using h
   subst h; have hz := hl z uY_; rcases List.mem_append.1 hy with hy' | hy'
   ·rw [List.pairwise_append] at h1; exact C.trans (hG y (by simp [hy'])) (hG z uY_) (hG x uY_) (h1.2.2 y hy' z uY_) hz
   ·simp at hy'; subst hy'; exact hz
 refine ⟨h1, ?_, fun y hy z hz => ?_⟩
 ·rw [List.pairwise_cons]; exact ⟨fun y hy => by have := hr y hy; omega, h2⟩
 ·rcases List.mem_cons.1 hz with rfl | hz
  ·exact hlx y hy
  ·exact h3 y hy z hz
theorem PH (P M S : List α) (aI bI : Int) (N c : Nat) (ha : aI = P.length) (hb : bI = P.length + M.length) (hN : N = (P ++ (M ++ S)).length) (hmax : N <= 1000000) (g : Nat) (w0 w : World) (hT : M.Pairwise C.tg) (hG : ∀ x ∈ M, C.good g w0 x) (hg0 : GX g w0 w) (hd : DY C rs w g (P ++ (M ++ S))) :
  Calls Tryz.prog ck.ins #[.slice (some ⟨g, 0, none⟩) N c, .int .i64 aI, .int .i64 bI, ck.F] w fun en w' => en = .returned (.tuple #[]) /\ (∃ M' : List α, M'.Perm M /\ C.Up M' /\ DY C rs w' g (P ++ (M' ++ S))) /\ GX g w w' := by
 cases ck
 all_goals as_aux_lemma =>
  dsimp only [Ck.swp, Ck.rot, Ck.ins, Ck.sym, Ck.stb, Ck.srt, Ck.F]; have mixed : Tryz.prog.follows .mixedOrders = true := by kernel_rfl
  obtain ⟨a, ea⟩ : ∃ a : Nat, a = P.length := ⟨_, rfl⟩
  obtain rfl : aI = (a : Int) := by omega
  obtain ⟨b, eb⟩ : ∃ b : Nat, b = a + M.length := ⟨_, rfl⟩
  obtain rfl : bI = (b : Int) := by omega
  have hN' : N = a + M.length + S.length := by rw [hN, ea]; simp; omega
  have hbN : b <= N := by omega
  have hab : a <= b := by omega
  have Hd := hh_ hd; have HN := hh_ hN'; have Ea := hh_ ea; have Eb := hh_ eb; have HG := hh_ hG; have HTg := hh_ hT; clear hd hN hN' ea eb ha hb hG hT
  first | go_enter Tryz.func187, Tryz.ntmps187 | go_enter Tryz.func221, Tryz.ntmps221 | go_enter Tryz.func124, Tryz.ntmps124
  go_wp2
  go_loopw [8] (fun i wr => ∃ (k : Nat) (M1 M2 : List α), i = .int .i64 (k : Int) /\ a + 1 <= k /\ k <= b + 1 /\ (M = [] /\ M1 = [] /\ M2 = [] \/ k = a + M1.length /\ 1 <= M1.length) /\ (M1 ++ M2).Perm M /\ C.Up M1 /\ DY C rs wr g (P ++ (M1 ++ (M2 ++ S))) /\ GX g w wr /\ (∀ y ∈ M1, ∀ z ∈ M2, C.tg y z) /\ M2.Pairwise C.tg) (fun i _ => b + 1 - (intOf i).toNat)
  case atStart =>
   cases hM : M with
   | nil => exact ⟨a + 1, [], [], by go_num, Nat.le_refl _, by omega, .inl ⟨rfl, rfl, rfl⟩, List.Perm.refl _, List.Pairwise.nil, by have := Hd.out; rw [hM] at this; simpa using this, GX.refl _ _, fun y hy => by simp at hy, List.Pairwise.nil⟩
   | cons x M' => exact ⟨a + 1, [x], M', by go_num, Nat.le_refl _, by omega, .inr ⟨rfl, Nat.le_refl _⟩, List.Perm.refl _, List.pairwise_singleton _ _, by have := Hd.out; rw [hM] at this; simpa using this, GX.refl _ _, fun y hy z hz => by have h := HTg.out; rw [hM, List.pairwise_cons] at h; simp at hy; subst hy; exact h.1 z hz, by have h := HTg.out; rw [hM, List.pairwise_cons] at h; exact h.2⟩
  case round =>
   obtain ⟨k, M1, M2, rfl, hk1, hk2, hform, hperm, hup, hdb, hgx, htgx, htgp⟩ := hrel; have TGX := hh_ htgx; have TGP := hh_ htgp; clear htgx htgp; have Form := hh_ hform; have HP := hh_ hperm; have HU := hh_ hup; have Hdb := hh_ hdb; clear hform hperm hup hdb
   by_cases hlt : k < b
   ·have d0 : decide ((k : Int) < (b : Int)) = true := by simp; omega
    obtain ⟨hk, hM1⟩ : k = a + M1.length /\ 1 <= M1.length := by
     rcases Form.out with ⟨h1, _, _⟩ | h
     ·exfalso; have := Eb.out; rw [h1] at this; simp at this; omega
     ·exact h
    have hlen : M1.length + M2.length = M.length := by have := HP.out.length_eq; simpa using this
    obtain ⟨x, M3, rfl⟩ : ∃ x M3, M2 = x :: M3 := by
     match M2, hlen with
     | [], hlen => exfalso; have := Eb.out; simp at hlen; omega
     | x :: M3, _ => exact ⟨x, M3, rfl⟩
    have HG2 : ∀ y ∈ M1 ++ x :: M3, C.good g w0 y := fun y hy => HG.out y (HP.out.mem_iff.1 hy)
    have HG2' := hh_ HG2; have Hk := hh_ hk; have Hlen := hh_ hlen; clear HG2 hlen Form hk; go_wp2
    go_loopw [9] (fun j wr2 => ∃ (jn : Nat) (L R : List α), j = .int .i64 (jn : Int) /\ M1 = L ++ R /\ jn = a + L.length /\ (∀ y ∈ R, C.cmp x y < 0) /\ DY C rs wr2 g (P ++ (L ++ x :: (R ++ (M3 ++ S)))) /\ GX g w wr2) (fun j _ => (intOf j).toNat)
    case atStart => exact ⟨k, M1, [], rfl, by simp, Hk.out, by simp, by have := Hdb.out; simpa using this, hgx⟩
    case round =>
     obtain ⟨jn, L, R, rfl, e1, ej, hR, hdb2, hgx2⟩ := hrel; have E1 := hh_ e1; have HR := hh_ hR; have Hdb2 := hh_ hdb2; have hgw := hg0.trans hgx2; have hLb : jn < b := by have := congrArg List.length E1.out; simp at this; have := Hk.out; omega
     have Ej := hh_ ej; clear e1 hR hdb2 ej; rcases List.eq_nil_or_concat L with hL | ⟨L', y, hL⟩
     ·subst hL; obtain rfl : jn = a := by have := Ej.out; simpa using this
      have hfin : C.Up (x :: R) := MO (L := []) (fun y hy => HG2'.out y (by
       rcases List.mem_cons.1 hy with h | h
       ·subst h; simp
       ·rw [E1.out]; simp [h])) v4_ uY_ HR.out
      have Hfin := hh_ hfin; clear hfin; go_wp2; go_big_region_o
      all_goals go_wp2
      go_roundw
      case rel =>
       refine ⟨k + 1, x :: R, M3, by go_num, by omega, by omega, .inr ⟨?_, by simp⟩, ?_, Hfin.out, DY.drew (by have := Hdb2.out; simpa using this), hgx2.drew, fun y2 hy z hz => by
        have h := TGP.out; rw [List.pairwise_cons] at h; have hy2 : y2 = x \/ y2 ∈ M1 := by rw [E1.out]; simp at hy ⊢; rcases hy with h | h <;> simp [h]
        rcases hy2 with rfl | hy2
        ·exact h.1 z hz
        ·exact TGX.out y2 hy2 z (List.mem_cons_of_mem _ hz), by have h := TGP.out; rw [List.pairwise_cons] at h; exact h.2⟩
       ·exact yw_
       ·refine List.Perm.trans ?_ HP.out; rw [E1.out]; simpa using (List.perm_middle (a := x) (l₁ := R) (l₂ := M3)).symm
      case measure => exact u1_
     ·have hL : L = L' ++ [y] := by simpa using hL
      subst hL; obtain ⟨jp, rfl⟩ : ∃ jp, jn = jp + 1 := ⟨jn - 1, by have := Ej.out; simp at this; omega⟩
      have ejp : jp = a + L'.length := by have := Ej.out; simp at this; omega
      have Ejp := hh_ ejp; have dj : decide ((a : Int) < (jp : Int) + 1) = true := by simp; omega
      have p0 : (0 : Int) <= (jp : Int) + 1 := by omega
      have e0 : ((jp : Int) + 1).toNat = jp + 1 := by omega
      have jz : (jp : Int) + 1 < (N : Int) := by omega
      have jz1 : (jp : Int) < (N : Int) := by omega
      have hwp : IntKind.i64.wrap (jp : Int) = (jp : Int) := by rw [IntKind.wrap_i64]; omega
      have jz2 : jp + 1 < N := by omega
      have jz3 : jp < N := by omega
      have fx : (P ++ (L' ++ [y] ++ x :: (R ++ (M3 ++ S))))[jp + 1]? = some x := by
       rw [show P ++ (L' ++ [y] ++ x :: (R ++ (M3 ++ S))) = (P ++ (L' ++ [y])) ++ x :: (R ++ (M3 ++ S)) by simp, show jp + 1 = (P ++ (L' ++ [y])).length by simp; have := Ejp.out; have := Ea.out; omega]; exact jC _ _ _
      have fy : (P ++ (L' ++ [y] ++ x :: (R ++ (M3 ++ S))))[jp]? = some y := by
       rw [show P ++ (L' ++ [y] ++ x :: (R ++ (M3 ++ S))) = (P ++ L') ++ y :: (x :: (R ++ (M3 ++ S))) by simp, show jp = (P ++ L').length by simp; have := Ejp.out; have := Ea.out; omega]; exact jC _ _ _
      have gx : C.good g w0 x := HG2'.out x uY_; have gy : C.good g w0 y := HG2'.out y un_; have Fx := hh_ fx; have Fy := hh_ fy; clear fx fy ejp; obtain ⟨cr, hcr⟩ : ∃ q, C.ans x y = q := ⟨_, rfl⟩
      have cc := fun W (h : GX g w0 W) => C.call x y g w0 W gx gy h
      rw [hcr] at cc; dsimp only [Ck.fn, Ck.args, Ck.v, Ck.c0, Ck.c1] at cc; have htg : C.tg y x := TGX.out y un_ x uY_; have hlt9 := C.lt gx gy htg; rw [hcr] at hlt9; have Hcr := hh_ hlt9; clear hcr hlt9 htg; go_wp2; apply wp_region_calm 17 uQ_ uQ_
      case h' =>
       intro Q0 hQ0; simp only [List.take_succ_cons, List.take_zero]
       repeat ((first | ((first | apply calm_p rfl | apply zu rfl rfl rfl); case h1 => (intro w1 hw1 hF K hK; obtain ⟨cx0, cx1⟩ := (Hdb2.out.grow hw1).at Fx.out; dsimp only [Ck.c0, Ck.c1] at cx0 cx1; obtain ⟨cy0, cy1⟩ := (Hdb2.out.grow hw1).at Fy.out; dsimp only [Ck.c0, Ck.c1] at cy0 cy1; go_simp; first | exact hK _ (za.refl _) | ((first | go_at_call 134 | go_at_call 201 | go_at_call 213 | go_at_call 26); ((with_reducible refine (cc _ (hgw.grow hw1)).mono ?_); rintro e w' ⟨rfl, hg⟩; exact ⟨_, rfl, hK _ hg⟩)))) | apply zw rfl rfl rfl rfl); intro K hK; go_simp; apply hK; clear hK K)
       refine calm_nil ?_; intro w1 hw1 hF; apply hQ0; clear hQ0; simp only [List.drop_succ_cons, List.drop_zero]; clear hF; have Hdb3 := hh_ (Hdb2.out.grow hw1)
       by_cases hc : cr < 0
       ·have dc : decide (cr < 0) = true := by simpa using hc
        obtain ⟨cx0, cx1⟩ := Hdb3.out.at Fx.out; dsimp only [Ck.c0, Ck.c1] at cx0 cx1; obtain ⟨cy0, cy1⟩ := Hdb3.out.at Fy.out; dsimp only [Ck.c0, Ck.c1] at cy0 cy1; have fr := Hdb3.out.frozen; have ne0 : (jp + 1) * 2 ≠ jp * 2 := by omega
        have ne2 : jp + 1 ≠ jp := by omega
        have ne1 : (jp + 1) * 2 + 1 ≠ jp * 2 := by omega
        have Hc := hh_ hc; clear hc; simp only [dc]; go_wp2; go_big_region_o
        all_goals go_wp2
        refine ⟨⟨jp, L', y :: R, rfl, by rw [E1.out]; simp, Ejp.out, ?_, ?_, GX.drew (by repeat (first | with_reducible exact hgx2.grow hw1 | refine GX.set ?_ _ _))⟩, by simp [intOf]⟩
        ·intro z hz; rcases List.mem_cons.1 hz with rfl | hz
         ·exact Hcr.out.2 Hc.out
         ·exact HR.out z hz
        ·have h1 := (Hdb3.out.put (qQ9.1 Fx.out).1 y).put (i := jp) oh_ x; have e := Rv (P ++ L') (R ++ (M3 ++ S)) x y; rw [show (P ++ L').length = jp by simp; have := Ejp.out; have := Ea.out; omega] at e; rw [show P ++ (L' ++ [y] ++ x :: (R ++ (M3 ++ S))) = P ++ L' ++ y :: x :: (R ++ (M3 ++ S)) by simp, e] at h1; rw [show P ++ (L' ++ x :: (y :: R ++ (M3 ++ S))) = P ++ L' ++ x :: y :: (R ++ (M3 ++ S)) by simp]; exact h1
       ·have dc : decide (cr < 0) = false := by simpa using hc
        have hfin : C.Up (L' ++ [y] ++ x :: R) := MO (L := L' ++ [y]) (fun z hz => HG2'.out z (by rw [E1.out]; simp at hz ⊢; rcases hz with h | h | h | h <;> simp [h])) v4_ (fun z hz => by
         simp at hz; subst hz; have := C.swap gx gy; have h9 := mt Hcr.out.1 hc
         omega) HR.out
        have Hfin := hh_ hfin; clear hfin hc; simp only [dc]; go_wp2; go_roundw
        case rel =>
         refine ⟨k + 1, L' ++ [y] ++ x :: R, M3, by go_num, by omega, by omega, .inr ⟨?_, by simp; omega⟩, ?_, Hfin.out, by have := Hdb3.out; simpa using this, hgx2.grow hw1, fun y2 hy z hz => by
         have h := TGP.out; rw [List.pairwise_cons] at h; have hy2 : y2 = x \/ y2 ∈ M1 := by rw [E1.out]; simp at hy ⊢; rcases hy with h | h | h | h <;> simp [h]
         rcases hy2 with rfl | hy2
         ·exact h.1 z hz
         ·exact TGX.out y2 hy2 z (List.mem_cons_of_mem _ hz), by have h := TGP.out; rw [List.pairwise_cons] at h; exact h.2⟩
         ·exact yw_
         ·refine List.Perm.trans ?_ HP.out; rw [E1.out]; simpa using List.Perm.append_left L' (List.Perm.cons y (List.perm_middle (a := x) (l₁ := R) (l₂ := M3)).symm)
        case measure => exact u1_
      case hp' => trivial
   ·have d0 : decide ((k : Int) < (b : Int)) = false := by simp; omega
    have hfin : ∃ M' : List α, M'.Perm M /\ C.Up M' /\ DY C rs wr g (P ++ (M' ++ S)) := by
     have : M2 = [] := by
      rcases Form.out with ⟨_, _, h⟩ | ⟨h1, h2⟩
      ·exact h
      ·have := HP.out.length_eq; have := Eb.out; simp at *; exact List.length_eq_zero_iff.1 uX_
     subst this; exact ⟨M1, by simpa using HP.out, HU.out, by simpa using Hdb.out⟩
    have Hfin := hh_ hfin; clear hfin; go_wp2; go_end0; exact ⟨rfl, Hfin.out, hgx⟩
end
section
variable {ck : Ck} {α : Type} {C : Cm ck α} {rs : List Value}
theorem zaH {g : Nat} {w0 : World} {x y z : α} (hx : C.good g w0 x) (hy : C.good g w0 y) (hz : C.good g w0 z) (h1 : C.cmp x y <= 0) (h2 : C.cmp y z < 0) : C.cmp x z < 0 := by
 have h3 := C.trans hx hy hz h1 uX_
 by_cases h : C.cmp x z = 0
 ·exfalso; have s1 := C.swap hx hz; have s2 := C.swap hy hz; have := C.trans hz hx hy uX_ h1; omega
 ·omega
theorem zb9 {g : Nat} {w0 : World} {x y z : α} (hx : C.good g w0 x) (hy : C.good g w0 y) (hz : C.good g w0 z) (h1 : C.cmp x y < 0) (h2 : C.cmp y z <= 0) : C.cmp x z < 0 := by
 have h3 := C.trans hx hy hz uX_ h2
 by_cases h : C.cmp x z = 0
 ·exfalso; have s1 := C.swap hx hz; have s2 := C.swap hx hy; have := C.trans hy hz hx h2 uX_; omega
 ·omega
theorem Wj {g : Nat} {w0 : World} {L : List α} (hu : C.Up L) (hG : ∀ x ∈ L, C.good g w0 x) {s t : Nat} {x y : α} (hx : L[s]? = some x) (hy : L[t]? = some y) (hst : s <= t) : C.cmp x y <= 0 := by
 obtain ⟨h1, rfl⟩ := qQ9.1 hx; obtain ⟨h2, rfl⟩ := qQ9.1 hy; rcases Nat.lt_or_ge s t with h | h
 ·exact List.pairwise_iff_getElem.1 hu s t h1 h2 h
 ·obtain rfl : s = t := by omega
  rw [C.self (hG _ (List.getElem_mem h1))]; exact Int.le_refl _
theorem KG {L R : List α} {x : α} (hu : C.Up (L ++ R)) (hl : ∀ y ∈ L, C.cmp y x <= 0) (hr : ∀ y ∈ R, C.cmp x y <= 0) : C.Up (L ++ x :: R) := by
 unfold Cm.Up at hu ⊢; rw [List.pairwise_append] at hu ⊢; obtain ⟨h1, h2, h3⟩ := hu; refine ⟨h1, List.pairwise_cons.2 ⟨hr, h2⟩, fun y hy z hz => ?_⟩; rcases List.mem_cons.1 hz with rfl | hz
 ·exact hl y hy
 ·exact h3 y hy z hz
theorem Fl (P V S : List α) (u : α) (a m b : Nat) (N c : Nat) (ha : a = P.length) (hm : m = a + 1) (hb : b = m + V.length) (hN : N = (P ++ (u :: V ++ S)).length) (hmax : N <= 1000000) (g : Nat) (w0 w : World) (hT : ∀ v ∈ V, C.tg u v) (hG : ∀ x ∈ u :: V, C.good g w0 x) (hg0 : GX g w0 w) (hV : C.Up V) (hd : DY C rs w g (P ++ (u :: V ++ S))) :
  Calls Tryz.prog ck.sym #[.slice (some ⟨g, 0, none⟩) N c, .int .i64 a, .int .i64 m, .int .i64 b, ck.F] w fun en w' => en = .returned (.tuple #[]) /\ (∃ M' : List α, M'.Perm (u :: V) /\ C.Up M' /\ DY C rs w' g (P ++ (M' ++ S))) /\ GX g w w' := by
 cases ck
 all_goals as_aux_lemma =>
  dsimp only [Ck.swp, Ck.rot, Ck.ins, Ck.sym, Ck.stb, Ck.srt, Ck.F]; have mixed : Tryz.prog.follows .mixedOrders = true := by kernel_rfl
  have hN' : N = a + 1 + V.length + S.length := by rw [hN, ha]; simp; omega
  have hbN : b <= N := by omega
  have d0 : ((m : Int) - (a : Int) == 1) = true := by simp; omega
  have ham : a < m := by omega
  have Hd := hh_ hd; have HN := hh_ hN'; have Ea := hh_ ha; have Em := hh_ hm; have Eb := hh_ hb; have HG := hh_ hG; have HV := hh_ hV; have hmb : m <= b := by omega
  have haN : a < N := by omega
  have HTg := hh_ hT; clear hd hN hN' ha hm hb hG hV hT
  first | go_enter Tryz.func188, Tryz.ntmps188 | go_enter Tryz.func222, Tryz.ntmps222 | go_enter Tryz.func125, Tryz.ntmps125
  go_wp2
  go_loopw [10, 11] (fun si sj wr => ∃ (i j : Nat), si = .int .i64 (i : Int) /\ sj = .int .i64 (j : Int) /\ m <= i /\ i <= j /\ j <= b /\ (∀ t v, V[t]? = some v -> m + t < i -> C.cmp v u < 0) /\ (∀ t v, V[t]? = some v -> j <= m + t -> 0 <= C.cmp v u) /\ DY C rs wr g (P ++ (u :: V ++ S)) /\ GX g w wr) (fun si sj _ => (intOf sj).toNat - (intOf si).toNat)
  case atStart => exact ⟨m, b, rfl, rfl, Nat.le_refl _, hmb, Nat.le_refl _, fun t v h1 h2 => by omega, fun t v h1 h2 => by have := (qQ9.1 h1).1; have := Eb.out; omega, Hd.out, GX.refl _ _⟩
  case round =>
   obtain ⟨i, j, rfl, rfl, hmi, hij, hjb, hlo, hhi, hdb, hgx⟩ := hrel; have Lo := hh_ hlo; have Hi := hh_ hhi; have Hdb := hh_ hdb; have hgw := hg0.trans hgx; clear hlo hhi hdb
   by_cases hlt : i < j
   ·have dl : decide ((i : Int) < (j : Int)) = true := by simp; omega
    obtain ⟨h, eh⟩ : ∃ h : Nat, h = (i + j) / 2 := ⟨_, rfl⟩
    have eh2 : ((i : Int) + (j : Int)) / 2 = (h : Int) := by omega
    have h1 : i <= h := by omega
    have h2 : h < j := by omega
    have hbig : (i : Int) + j <= 2000000 := by omega
    have hhN : h < N := by omega
    obtain ⟨v, hv⟩ : ∃ v, V[h - m]? = some v := ⟨_, qQ_ (by have := Eb.out; omega)⟩
    have fu : (P ++ (u :: V ++ S))[a]? = some u := by rw [Ea.out]; exact jC _ _ _
    have fv : (P ++ (u :: V ++ S))[h]? = some v := by
     rw [show P ++ (u :: V ++ S) = (P ++ [u]) ++ (V ++ S) by simp, List.getElem?_append_right (by simp; have := Ea.out; have := Em.out; omega), List.getElem?_append_left (by simp; have := Ea.out; have := Em.out; have := Eb.out; omega)]; rw [show h - (P ++ [u]).length = h - m by simp; have := Ea.out; have := Em.out; omega]; exact hv
    have gu : C.good g w0 u := HG.out u uY_; have gv : C.good g w0 v := HG.out v (by simp [qZ_ hv]); have Fu := hh_ fu; have Fv := hh_ fv; have Hv := hh_ hv; have Eh := hh_ eh; clear fu fv hv eh; obtain ⟨cr, hcr⟩ : ∃ q, C.ans v u = q := ⟨_, rfl⟩
    have cc := fun W (h : GX g w0 W) => C.call v u g w0 W gv gu h
    rw [hcr] at cc; dsimp only [Ck.fn, Ck.args, Ck.v, Ck.c0, Ck.c1] at cc; have htg : C.tg u v := HTg.out v (qZ_ Hv.out); have hlt9 := C.lt gv gu htg; rw [hcr] at hlt9; have Hcr := hh_ hlt9; clear hcr hlt9 htg; go_upto_region 5 with fail
    apply wp_region_calm 11 uQ_ uQ_
    case h' =>
     intro Q0 hQ0; simp only [List.take_succ_cons, List.take_zero]
     repeat ((first | ((first | apply calm_p rfl | apply zu rfl rfl rfl); case h1 => (intro w1 hw1 hF K hK; obtain ⟨cx0, cx1⟩ := (Hdb.out.grow hw1).at Fu.out; dsimp only [Ck.c0, Ck.c1] at cx0 cx1; obtain ⟨cy0, cy1⟩ := (Hdb.out.grow hw1).at Fv.out; dsimp only [Ck.c0, Ck.c1] at cy0 cy1; go_simp; first | exact hK _ (za.refl _) | ((first | go_at_call 134 | go_at_call 201 | go_at_call 213 | go_at_call 26); ((with_reducible refine (cc _ (hgw.grow hw1)).mono ?_); rintro e w' ⟨rfl, hg⟩; exact ⟨_, rfl, hK _ hg⟩)))) | apply zw rfl rfl rfl rfl); intro K hK; go_simp; apply hK; clear hK K)
     refine calm_nil ?_; intro w1 hw1 hF; apply hQ0; clear hQ0; simp only [List.drop_succ_cons, List.drop_zero]; clear hF; have Hdb3 := hh_ (Hdb.out.grow hw1); have GV : ∀ x ∈ V, C.good g w0 x := fun x hx => HG.out x uR_
     by_cases hc : cr < 0
     ·have dc : decide (cr < 0) = true := by simpa using hc
      have hnew : ∀ t v', V[t]? = some v' -> m + t < h + 1 -> C.cmp v' u < 0 := fun t v' ht hlt' => by
       have g' := GV v' (qZ_ ht); exact zaH g' gv gu (Wj HV.out GV ht Hv.out uX_) (Hcr.out.2 hc)
      have Hnew := hh_ hnew; clear hnew hc; simp only [dc]; go_wp2; go_roundw
      case rel => exact xQ_
      case measure => exact u1_
     ·have dc : decide (cr < 0) = false := by simpa using hc
      have hnew : ∀ t v', V[t]? = some v' -> h <= m + t -> 0 <= C.cmp v' u := fun t v' ht hlt' => by
       have g' := GV v' (qZ_ ht); have h5 := Wj HV.out GV Hv.out ht uX_
       by_cases h6 : C.cmp v' u < 0
       ·have := zaH gv g' gu h5 h6; exact absurd (Hcr.out.1 this) hc
       ·omega
      have Hnew := hh_ hnew; clear hnew hc; simp only [dc]; go_wp2; go_roundw
      case rel => exact x1_
      case measure => exact u1_
    case hp' => trivial
   ·obtain rfl : i = j := by omega
    have dl : decide ((i : Int) < (i : Int)) = false := by simp
    clear hlt; go_wp2
    go_loopw [13] (fun sk w3 => ∃ (k : Nat) (V1 V2 : List α), sk = .int .i64 (k : Int) /\ V = V1 ++ V2 /\ k = a + V1.length /\ k + 1 <= i /\ DY C rs w3 g (P ++ (V1 ++ u :: (V2 ++ S))) /\ GX g w w3) (fun sk _ => i - (intOf sk).toNat)
    case atStart => exact ⟨a, [], V, rfl, rfl, by simp, by omega, by have := Hdb.out; simpa using this, hgx⟩
    case round =>
     obtain ⟨k, V1, V2, rfl, e1, ek, hki, hdb2, hgx2⟩ := hrel; have E1 := hh_ e1; have Ek := hh_ ek; have Hdb2 := hh_ hdb2; have hak : a <= k := by omega
     clear e1 ek hdb2
     by_cases hk2 : k + 1 < i
     ·have dk : decide ((k : Int) < (i : Int) - 1) = true := by simp; omega
      obtain ⟨y, V3, rfl⟩ : ∃ y V3, V2 = y :: V3 := by
       have h0 := congrArg List.length E1.out; have h1 := Ek.out; have h2 := Em.out; have h3 := Eb.out
       match V2, h0 with
       | [], h0 => exfalso; simp at h0; omega
       | y :: V3, _ => exact ⟨y, V3, rfl⟩
      have fx : (P ++ (V1 ++ u :: (y :: V3 ++ S)))[k]? = some u := by
       rw [show P ++ (V1 ++ u :: (y :: V3 ++ S)) = (P ++ V1) ++ u :: (y :: V3 ++ S) by simp, show k = (P ++ V1).length by simp; have := Ek.out; have := Ea.out; omega]; exact jC _ _ _
      have fy : (P ++ (V1 ++ u :: (y :: V3 ++ S)))[k + 1]? = some y := by
       rw [show P ++ (V1 ++ u :: (y :: V3 ++ S)) = (P ++ (V1 ++ [u])) ++ y :: (V3 ++ S) by simp, show k + 1 = (P ++ (V1 ++ [u])).length by simp; have := Ek.out; have := Ea.out; omega]; exact jC _ _ _
      have Fx := hh_ fx; have Fy := hh_ fy; clear fx fy; obtain ⟨cx0, cx1⟩ := Hdb2.out.at Fx.out; dsimp only [Ck.c0, Ck.c1] at cx0 cx1; obtain ⟨cy0, cy1⟩ := Hdb2.out.at Fy.out; dsimp only [Ck.c0, Ck.c1] at cy0 cy1; have fr := Hdb2.out.frozen; have p0 : (0 : Int) <= (k : Int) + 1 := by omega
      have e0 : ((k : Int) + 1).toNat = k + 1 := by omega
      have jz : (k : Int) + 1 < (N : Int) := by omega
      have jz1 : (k : Int) < (N : Int) := by omega
      have hwp : IntKind.i64.wrap ((k : Int) + 1) = (k : Int) + 1 := by rw [IntKind.wrap_i64]; omega
      have jz2 : k + 1 < N := by omega
      have jz3 : k < N := by omega
      have ne0 : k * 2 ≠ (k + 1) * 2 := by omega
      have ne2 : k ≠ k + 1 := by omega
      have ne1 : k * 2 + 1 ≠ (k + 1) * 2 := by omega
      go_wp2; go_big_region_o
      all_goals go_wp2
      refine ⟨⟨k + 1, V1 ++ [y], V3, by go_num, by rw [E1.out]; simp, by simp; have := Ek.out; omega, by omega, ?_, GX.drew oi_⟩, by simp [intOf]; omega⟩; have h1 := (Hdb2.out.put (qQ9.1 Fx.out).1 y).put (i := k + 1) oh_ u; have e := MG (P ++ V1) [] (V3 ++ S) u y; rw [show (P ++ V1).length = k by simp; have := Ek.out; have := Ea.out; omega] at e; simp only [List.length_nil, Nat.add_zero, List.nil_append] at e; rw [show P ++ (V1 ++ u :: (y :: V3 ++ S)) = P ++ V1 ++ u :: y :: (V3 ++ S) by simp, e] at h1; rw [show P ++ (V1 ++ [y] ++ u :: (V3 ++ S)) = P ++ V1 ++ y :: u :: (V3 ++ S) by simp]; exact h1
     ·have dk : decide ((k : Int) < (i : Int) - 1) = false := by simp; omega
      have hfin : ∃ M' : List α, M'.Perm (u :: V) /\ C.Up M' /\ DY C rs wr g (P ++ (M' ++ S)) := by
       have GV : ∀ x ∈ V, C.good g w0 x := fun x hx => HG.out x uR_
       have gu : C.good g w0 u := HG.out u uY_; refine ⟨V1 ++ u :: V2, by rw [E1.out]; exact List.perm_middle, KG (by rw [<- E1.out]; exact HV.out) (fun y hy => ?_) (fun y hy => ?_), by have := Hdb2.out; simpa using this⟩
       ·obtain ⟨t, ht, rfl⟩ := List.getElem_of_mem hy; have := Lo.out t V1[t] od_ vP_; omega
       ·obtain ⟨t, ht, rfl⟩ := List.getElem_of_mem hy; have := Hi.out (V1.length + t) V2[t] oa_ vP_; have := C.swap (GV V2[t] un_) gu; omega
      have Hfin := hh_ hfin; clear hfin; go_wp2; exact qX_ of_ rfl ⟨rfl, Hfin.out, hgx2⟩
end
