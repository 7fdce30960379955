/- Parts of a proof. No condition. -/
import Derived.Test.YtflggnopgnoeiaaGreatGT
set_option maxRecDepth 100000
set_option maxHeartbeats 16000000
set_option maxRecDepth 100000
set_option linter.unusedSimpArgs false
set_option linter.unusedVariables false
namespace Go
variable {p : Prop}
theorem oc_ (h : p := by rw [At.out]; rw [if_neg n5, if_neg h1, if_neg (by simp), if_pos ⟨h3, t3, t1⟩]) : p := h
theorem og_ (h : p := by rw [At.out, if_neg n5, if_neg h1, if_neg (by simp), if_neg (by omega)]) : p := h
theorem ok_ (h : p := by simp [results, Tryz.results219, go_sem, yj, b2r, f2r] <;> rfl) : p := h
theorem ot_ (h : p := by simp [results, Tryz.results214, go_sem, b4, f4] <;> rfl) : p := h
theorem oz_ (h : p := by rw [At.out]; rw [if_neg n5, if_neg h1, if_pos h0]) : p := h
theorem oM_ (h : p := by simp [results, Tryz.results189, go_sem] <;> rfl) : p := h
theorem vV_ (h : p := by rw [At.out]; rw [if_pos (.inl ha)]) : p := h
theorem vW_ (h : p := by rw [At.out]; rw [if_pos (.inr hb)]) : p := h
theorem vZ_ (h : p := by rw [At.out, if_neg n5, if_pos h1]) : p := h
theorem v6_ (h : p := by have := G2.size; simp; omega) : p := h
theorem v8_ (h : p := by first | decide | assumption) : p := h
theorem u3_ (h : p := by
 exact ⟨k + 1, ts ++ [3], ⟨by simp [hts], by first | rw [yi _ Hxk.out, <- HTs.out, ATy.out, if_pos uX_] | rw [yi _ Hxk.out, <- HTs.out, ATy.out, if_neg uX_]⟩, by omega, by go_num, by simpa [hts] using Own7.out, xP.out og_, hg7⟩) : p := h
theorem ws_ (h : p := by
 exact ⟨k + 1, by omega, by go_num, by rw [E3.out], by rw [E3.out], F8.out, C82.out, G8⟩) : p := h
theorem wN_ (h : p := by
 exact ⟨k + 1, ts ++ [3], ⟨by simp [hts], by first | rw [yi _ Hxk.out, <- HTs.out, ATy.out, if_pos uX_] | rw [yi _ Hxk.out, <- HTs.out, ATy.out, if_neg uX_]⟩, by omega, by go_num, by simpa [hts] using Own7.out, xP.out vZ_, hg7⟩) : p := h
theorem wO_ (h : p := by
 exact ⟨k + 1, ts ++ [T], ⟨by simp [hts], by first | rw [yi _ Hxk.out, <- HTs.out, ATy.out, if_pos uX_] | rw [yi _ Hxk.out, <- HTs.out, ATy.out, if_neg uX_]⟩, by omega, by go_num, by simpa [hts] using Own7.out, xP.out og_, hg7⟩) : p := h
theorem wT_ (h : p := by
 obtain ⟨h1, e1⟩ := qQ9.1 Hxk.out; rw [List.take_succ_eq_append_getElem h1, e1] at hy; rcases List.mem_append.1 hy with hy | hy
 ·exact Hz.out y hy
 ·simp at hy; subst hy; exact h) : p := h
theorem xB_ (h : p := by
 exact ⟨0, [], ⟨rfl, rfl⟩, Nat.zero_le _, rfl, World.ownsRow_nil _ _ _ _, fun x hx => by simp at hx, za.refl w⟩) : p := h
theorem yT_ (h : p := by
 have d3 : (x.k == 1) = true := by simpa using h1
 have d3' : (x.k != 1) = false := by simpa using h1
 have d4 : decide (4 <= x.k) = false := decide_eq_false uX_
 go_wp2_with (at_builtin; refine zm rfl _ _ rfl w.heap.size _ _ _ rfl (Own1.out.alloc _) _ [3] rfl (xH (zb.new _ _ _)) uN_ (by have := G1.size; simp; omega) ?_; intro v7 w7 own7 gr7)
 have hg7 : za w w7 := zy (G1.al _) gr7 (Own1.out.alloc _); have Own7 := hh_ own7; clear own7 gr7; go_wp2; go_roundw
 case rel => exact wN_
 case measure => exact u1_) : p := h
end Go
namespace Go.Proofs.YtflggnopgnoeiaaGreat
open Go.RowKit Go.Calm
structure Ag where
 k : Int
 x : E
instance : Inhabited Ag := ⟨⟨0, .leaf⟩⟩
structure kO (w : World) (g o : Nat) (a : Ag) : Prop where
 k : w.cell? ⟨g, o, none⟩ = some (.int .i64 a.k)
 c0 : w.cell? ⟨g, o + 1, none⟩ = some (.int .i64 a.x.kind)
 c1 : w.cell? ⟨g, o + 2, none⟩ = some (.int .i64 a.x.v.k)
 c2 : w.cell? ⟨g, o + 3, none⟩ = some (.int .i64 a.x.v.n)
 c3 : w.cell? ⟨g, o + 4, none⟩ = some (.string a.x.v.s)
 c4 : w.cell? ⟨g, o + 5, none⟩ = some (.int .i64 a.x.col)
 c5 : w.cell? ⟨g, o + 6, none⟩ = some (.slice a.x.A a.x.n a.x.cap)
theorem kO.grow {w w' : World} (h : za w w') {g o : Nat} {a : Ag} (hc : kO w g o a) : kO w' g o a :=
 ⟨h.cell hc.k, h.cell hc.c0, h.cell hc.c1, h.cell hc.c2, h.cell hc.c3, h.cell hc.c4, h.cell hc.c5⟩
theorem kO.e {w : World} {g o : Nat} {a : Ag} (h : kO w g o a) : zF w g (o + 1) a.x := ⟨h.c0, h.c1, h.c2, h.c3, h.c4, h.c5⟩
abbrev Ag.val (a : Ag) : Value := .agg #[.int .i64 a.k, .int .i64 a.x.kind, .int .i64 a.x.v.k, .int .i64 a.x.v.n, .string a.x.v.s, .int .i64 a.x.col, .slice a.x.A a.x.n a.x.cap]
def XZ (w : World) (A : Option Addr) (xs : List Ag) : Prop := ∀ i x, xs[i]? = some x -> ∃ g o, A = some ⟨g, o, none⟩ /\ kO w g (o + i * 7) x /\ EX w x.x
theorem XZ.grow {w w' : World} {A : Option Addr} {xs : List Ag} (h : XZ w A xs) (hg : za w w') : XZ w' A xs := fun i x hx => ym_
def Jk (cols : List Int) (a : Ag) : Int := if a.k < 1 \/ 5 < a.k then 1 else if a.k = 1 then 0 else if (zD cols a.x).2 ≠ 0 then (zD cols a.x).2 else if a.k = 3 /\ (zD cols a.x).1 ≠ 3 /\ (zD cols a.x).1 ≠ 1 then 9 else 0
def kK (cols : List Int) : List Ag -> Int
 | [] => 0
 | x :: l => if Jk cols x ≠ 0 then Jk cols x else kK cols l
theorem MX (cols : List Int) : ∀ xs : List Ag, (∀ x ∈ xs, Jk cols x = 0) -> kK cols xs = 0
 | [], _ => rfl
 | x :: l, h => by
  unfold kK; rw [if_neg vJ_]; exact MX cols l (fun y hy => h y (List.mem_cons_of_mem _ hy))
theorem Jl (cols : List Int) : ∀ (xs : List Ag) (k : Nat) (x : Ag), xs[k]? = some x -> (∀ y ∈ xs.take k, Jk cols y = 0) -> Jk cols x ≠ 0 -> kK cols xs = Jk cols x
 | [], k, x, h, _, _ => by simp at h
 | y :: l, 0, x, h, _, h2 => by
  simp at h; subst h; unfold kK; rw [if_pos h2]
 | y :: l, k + 1, x, h, h1, h2 => by
  unfold kK; rw [if_neg oe_]; exact Jl cols l k x uI_ (fun u hu => h1 u oq_) h2
theorem YG {cols : List Int} : ∀ {xs : List Ag}, kK cols xs = 0 -> ∀ x ∈ xs, Jk cols x = 0
 | [], _, x, hx => by simp at hx
 | y :: l, h, x, hx => by
  unfold kK at h; split at h
  ·exact wX_
  ·rename_i h1; rcases List.mem_cons.1 hx with rfl | hx
   ·simpa using h1
   ·exact YG h x hx
def Xz (cols : List Int) (a : Ag) : Int := if a.k <= 3 then 3 else (zD cols a.x).1
def ZT (R : Int) (ts : List Int) (w w' : World) (en : Ending) : Prop := ∃ (B : Option Addr) (cap : Nat), en = .returned (.tuple #[.slice B (if R = 0 then ts else []).length cap, .int .i64 R]) /\ yU w' B (if R = 0 then ts else []) /\ Ya w B /\ za w w'
theorem ZT.bad {R : Int} {ts : List Int} {w w' : World} (h : R ≠ 0) (hg : za w w') : ZT R ts w w' (.returned (.tuple #[.slice none 0 0, .int .i64 R])) := ⟨none, 0, by rw [if_neg h]; rfl, by rw [if_neg h]; exact jX _ _, (fun a ha => by cases ha), hg⟩
theorem xH {w : World} {g : Nat} {x : Int} (h : zb w g 3 #[.int .i64 x]) : zaU w (.slice (some ⟨g, 0, none⟩) 1 1) [x] := by
 refine .inr ⟨⟨g, 0, none⟩, 1, rfl, fun j u hj => ?_⟩; rw [zQ, h.cell]
 match j, hj with
 | 0, hj => simp [yH] at hj; subst hj; rfl
theorem Zg (cols : List Int) (Ac : Option Addr) (cc : Nat) (xs : List Ag) (A : Option Addr) (c : Nat) (w : World) (hlen : cols.length <= 9223372036854775807) (hl : xs.length <= 8) (hc : yU w Ac cols) (hx : XZ w A xs) :
  Calls Tryz.prog 189 #[.slice Ac cols.length cc, .slice A xs.length c] w fun en w' => ZT (kK cols xs) (xs.map (Xz cols)) w w' en := by
 have Hx := hh_ hx; have Hc := hh_ hc; have Ti := hh_ qV; clear hx hc; obtain ⟨R, hR⟩ : ∃ R, kK cols xs = R := ⟨_, rfl⟩
 rw [hR]; have Re := hh_ hR; clear hR; go_enter Tryz.func189, Tryz.ntmps189; go_wp2
 go_loopw [6, 14] (fun t i wr => ∃ (k : Nat) (ts : List Int), (ts.length = k /\ ts = (xs.take k).map (Xz cols)) /\ k <= xs.length /\ i = .int .i64 k /\ wr.ownsRow w.heap.size 3 1 t k (yH ts) /\ (∀ x ∈ xs.take k, Jk cols x = 0) /\ za w wr) (fun _ i _ => xs.length - (intOf i).toNat)
 case atStart => exact xB_
 case round =>
  obtain ⟨k, ts, ⟨hts, hTs⟩, hk, rfl, hown, hz, hg⟩ := hrel; have Own := hh_ hown; have HTs := hh_ hTs; clear hTs; have Hz := hh_ hz; clear hown hz
  by_cases hlt : k < xs.length
  ·obtain ⟨x, hxk⟩ : ∃ x, xs[k]? = some x := ⟨_, qQ_ hlt⟩
   obtain ⟨gx, ox, rfl, ⟨ck, c0, c1, c2, c3, c4, c5⟩, hex⟩ := (Hx.out.grow hg) k x hxk; obtain ⟨T, F, hTF⟩ : ∃ T F, zD cols x.x = (T, F) := ⟨_, _, rfl⟩
   have ct := fun W (h : za wr W) => QF cols Ac cc x.x W hlen (Hc.out.grow (hg.trans h)) (hex.grow h)
   rw [hTF] at ct; simp only at ct; have Hxk := hh_ hxk; have bad : ∀ e : Int, e ≠ 0 -> Jk cols x = e -> R = e := fun e h1 h2 => by rw [<- Re.out, Jl cols xs k x Hxk.out Hz.out (by rw [h2]; exact h1), h2]
   have good : Jk cols x = 0 -> ∀ y ∈ xs.take (k + 1), Jk cols y = 0 := fun h y hy => wT_
   have at0 : Jk cols x = if x.k < 1 \/ 5 < x.k then 1 else if x.k = 1 then 0 else if F ≠ 0 then F else if x.k = 3 /\ T ≠ 3 /\ T ≠ 1 then 9 else 0 := by unfold Jk; rw [hTF]
   have aty : Xz cols x = if x.k <= 3 then 3 else T := by unfold Xz; rw [hTF]
   have ATy := hh_ aty; clear aty; have hl2 := Own.out.lt; have HL2 := hh_ hl2; have Bad := hh_ bad; have xP := hh_ good; have At := hh_ at0; clear hxk hex hTF hl2 bad good at0; obtain ⟨ti, hti, hz0, hz1, hz2⟩ := Ti.out; go_upto_region 5 with fail
   refine zc (fun X => zb X wr.heap.size 85 #[.int .i64 x.k, .int .i64 x.x.kind, .int .i64 x.x.v.k, .int .i64 x.x.v.n, .string x.x.v.s, .int .i64 x.x.col, .slice x.x.A x.x.n x.x.cap] /\ za wr X) ⟨zb.new _ _ _, (za.refl wr).al _⟩ ?_; rintro X ⟨Bx, Gx⟩; have BX := hh_ Bx; obtain ⟨bx, fx⟩ := Bx.rules; have Own1 := hh_ (zi Own.out Gx); have G1 := hg.trans Gx; clear ck c0 c1 c2 c3 c4 c5 Bx; unfold E.val at ct
   by_cases ha : x.k < 1
   ·have d1 : decide (x.k < 1) = true := decide_eq_true ha; have e : R = 1 := Bad.out _ uW_ vV_; subst e; go_wp2; refine qX_ oM_ rfl ?_; exact ZT.bad v8_ G1
   ·have d1 : decide (x.k < 1) = false := decide_eq_false ha
    by_cases hb : 5 < x.k
    ·have d2 : decide (5 < x.k) = true := decide_eq_true hb; have e : R = 1 := Bad.out _ uW_ vW_; subst e; go_wp2; refine qX_ oM_ rfl ?_; exact ZT.bad v8_ G1
    ·have d2 : decide (5 < x.k) = false := decide_eq_false hb; have n5 : ¬ (x.k < 1 \/ 5 < x.k) := by omega
     by_cases h1 : x.k = 1
     ·exact yT_
     ·have d3 : (x.k == 1) = false := by simpa using h1
      have d3' : (x.k != 1) = true := by simpa using h1
      by_cases h0 : F = 0
      ·have d0 : (F != 0) = false := by simpa using h0
       subst h0
       by_cases h3 : x.k = 3
       ·have d5 : (x.k == 3) = true := by simpa using h3
        have d4 : decide (4 <= x.k) = false := decide_eq_false uX_; have d2' : (x.k == 2) = false := by simp; omega
        by_cases t3 : T = 3
        ·have e3 : (T != 3) = false := by simpa using t3
         have e1 : (T != 1) = true := by simp; omega
         go_wp2_with (first | (go_at_call 64; ((with_reducible refine (ct _ Gx).mono ?_); rintro e w2 ⟨rfl, hg2⟩; obtain ⟨bx2, fx2⟩ := (BX.out.grow hg2).rules; have Own2 := hh_ (zi Own1.out hg2); have G2 := G1.trans hg2; clear hg2)) | (at_builtin; refine zm rfl _ _ rfl w.heap.size _ _ _ rfl (Own2.out.alloc _) _ [3] rfl (xH (zb.new _ _ _)) uN_ v6_ ?_; intro v7 w7 own7 gr7))
         have hg7 : za w w7 := zy (G2.al _) gr7 (Own2.out.alloc _); have Own7 := hh_ own7; clear own7 gr7; go_wp2; go_roundw
         case rel => exact u3_
         case measure => exact u1_
        ·have e3 : (T != 3) = true := by simpa using t3
         by_cases t1 : T = 1
         ·have e1 : (T != 1) = false := by simpa using t1
          go_wp2_with (first | (go_at_call 64; ((with_reducible refine (ct _ Gx).mono ?_); rintro e w2 ⟨rfl, hg2⟩; obtain ⟨bx2, fx2⟩ := (BX.out.grow hg2).rules; have Own2 := hh_ (zi Own1.out hg2); have G2 := G1.trans hg2; clear hg2)) | (at_builtin; refine zm rfl _ _ rfl w.heap.size _ _ _ rfl (Own2.out.alloc _) _ [3] rfl (xH (zb.new _ _ _)) uN_ v6_ ?_; intro v7 w7 own7 gr7))
          have hg7 : za w w7 := zy (G2.al _) gr7 (Own2.out.alloc _); have Own7 := hh_ own7; clear own7 gr7; go_wp2; go_roundw
          case rel => exact u3_
          case measure => exact u1_
         ·have e1 : (T != 1) = true := by simpa using t1
          have e : R = 9 := Bad.out _ uW_ oc_; subst e
          go_wp2_with (go_at_call 64; ((with_reducible refine (ct _ Gx).mono ?_); rintro e w2 ⟨rfl, hg2⟩; obtain ⟨bx2, fx2⟩ := (BX.out.grow hg2).rules; have Own2 := hh_ (zi Own1.out hg2); have G2 := G1.trans hg2; clear hg2))
          refine qX_ oM_ rfl ?_; exact ZT.bad v8_ G2
       ·have d5 : (x.k == 3) = false := by simpa using h3
        by_cases h2 : x.k = 2
        ·have d4 : decide (4 <= x.k) = false := decide_eq_false uX_; have d2' : (x.k == 2) = true := by simpa using h2
         go_wp2_with (first | (go_at_call 64; ((with_reducible refine (ct _ Gx).mono ?_); rintro e w2 ⟨rfl, hg2⟩; obtain ⟨bx2, fx2⟩ := (BX.out.grow hg2).rules; have Own2 := hh_ (zi Own1.out hg2); have G2 := G1.trans hg2; clear hg2)) | (at_builtin; refine zm rfl _ _ rfl w.heap.size _ _ _ rfl (Own2.out.alloc _) _ [3] rfl (xH (zb.new _ _ _)) uN_ v6_ ?_; intro v7 w7 own7 gr7))
         have hg7 : za w w7 := zy (G2.al _) gr7 (Own2.out.alloc _); have Own7 := hh_ own7; clear own7 gr7; go_wp2; go_roundw
         case rel => exact u3_
         case measure => exact u1_
        ·have d4 : decide (4 <= x.k) = true := decide_eq_true uX_; have d2' : (x.k == 2) = false := by simpa using h2
         go_wp2_with (first | (go_at_call 64; ((with_reducible refine (ct _ Gx).mono ?_); rintro e w2 ⟨rfl, hg2⟩; obtain ⟨bx2, fx2⟩ := (BX.out.grow hg2).rules; have Own2 := hh_ (zi Own1.out hg2); have G2 := G1.trans hg2; clear hg2)) | (at_builtin; refine zm rfl _ _ rfl w.heap.size _ _ _ rfl (Own2.out.alloc _) _ [T] rfl (xH (zb.new _ _ _)) uN_ v6_ ?_; intro v7 w7 own7 gr7))
         have hg7 : za w w7 := zy (G2.al _) gr7 (Own2.out.alloc _); have Own7 := hh_ own7; clear own7 gr7; go_wp2; go_roundw
         case rel => exact wO_
         case measure => exact u1_
      ·have d0 : (F != 0) = true := by simpa using h0
       have e : R = F := Bad.out _ h0 oz_; subst e
       go_wp2_with (go_at_call 64; ((with_reducible refine (ct _ Gx).mono ?_); rintro e w2 ⟨rfl, hg2⟩; obtain ⟨bx2, fx2⟩ := (BX.out.grow hg2).rules; have Own2 := hh_ (zi Own1.out hg2); have G2 := G1.trans hg2; clear hg2))
       refine qX_ oM_ rfl ?_; exact ZT.bad v8_ G2
  ·obtain rfl : k = xs.length := by omega
   have e9 : ts = xs.map (Xz cols) := by have := HTs.out; rwa [List.take_length] at this
   subst e9; obtain ⟨B9, cap9, rfl, hi9, _⟩ := Y5 (ys := xs.map (Xz cols)) (w := wr) Own.out; have Fin9 := hh_ (And.intro hi9 (x8 Own.out)); clear hi9; have e : R = 0 := by rw [<- Re.out, MX cols xs or_]
   subst e; go_wp2; refine qX_ oM_ rfl ?_; exact ⟨B9, cap9, by simp, by simpa using Fin9.out.1, Fin9.out.2, hg⟩
theorem MY (cols : List Int) (Ac : Option Addr) (cc : Nat) (xs : List Ag) (A : Option Addr) (c : Nat) (w : World) (hlen : cols.length <= 9223372036854775807) (hl : xs.length <= 8) (hc : yU w Ac cols) (hx : XZ w A xs) :
  Calls Tryz.prog 189 #[.slice Ac cols.length cc, .slice A xs.length c] w fun en w' => ∃ v : Value, en = .returned (.tuple #[v, .int .i64 (kK cols xs)]) /\ za w w' := (Zg cols Ac cc xs A c w hlen hl hc hx).mono fun e w' ⟨B, cap, h1, _, _, h2⟩ => ⟨_, h1, h2⟩
theorem Nx {a b A B : Int} (ha : -A <= a /\ a <= A) (hb : -B <= b /\ b <= B) : -(A * B) <= a * b /\ a * b <= A * B := by
 have hA : 0 <= A := by omega
 have hB : 0 <= B := by omega
 have h1 : a.natAbs <= A.natAbs := by omega
 have h2 : b.natAbs <= B.natAbs := by omega
 have h3 : (a * b).natAbs <= (A * B).natAbs := by rw [Int.natAbs_mul, Int.natAbs_mul]; exact Nat.mul_le_mul h1 h2
 have h4 : 0 <= A * B := Int.mul_nonneg hA hB; omega
theorem FF (n : Int) (P : Int) : P * n.tdiv P + n.tmod P = n := Int.mul_tdiv_add_tmod n P
theorem Ry (n P : Int) (hP : 0 < P) : -(P - 1) <= n.tmod P /\ n.tmod P <= P - 1 := by
 have h1 := Int.tmod_lt_of_pos n hP; have h2 := Int.lt_tmod_of_pos n hP; omega
theorem FE {n P K : Int} (hP : 0 < P) (hn : -(P * K) <= n /\ n <= P * K) : -K <= n.tdiv P /\ n.tdiv P <= K := by
 have h1 := FF n P; have h2 := Ry n P hP
 constructor
 ·refine Int.not_lt.1 (fun h => ?_); have h3 : P * n.tdiv P <= P * (-K - 1) := Int.mul_le_mul_of_nonneg_left uX_ uX_; have h4 : P * (-K - 1) = -(P * K) - P := by rw [Int.mul_sub, Int.mul_neg, Int.mul_one]
  omega
 ·refine Int.not_lt.1 (fun h => ?_); have h3 : P * (K + 1) <= P * n.tdiv P := Int.mul_le_mul_of_nonneg_left uX_ uX_; have h4 : P * (K + 1) = P * K + P := by rw [Int.mul_add, Int.mul_one]
  omega
theorem zaw (h l : Int) : (if h + l.tdiv 100000000 > 200000000 \/ h + l.tdiv 100000000 < -200000000 then yj else xT ((h + l.tdiv 100000000) * 100000000 + l.tmod 100000000)) = xT (h * 100000000 + l) := by
 have h1 := FF l 100000000; have h2 := Ry l 100000000 uW_; have e : (h + l.tdiv 100000000) * 100000000 + l.tmod 100000000 = h * 100000000 + l := by omega
 split
 ·rename_i hh; unfold xT; rw [if_neg uX_]; rfl
 ·rw [e]
def zcj : List Int -> Int
 | [] => 0
 | d :: ds => d + 1000 * zcj ds
abbrev BdD (K : Int) (ds : List Int) : Prop := ∀ d ∈ ds, -K <= d /\ d <= K
theorem BdD.get {K : Int} {ds : List Int} (h : BdD K ds) {k : Nat} {d : Int} (hd : ds[k]? = some d) : -K <= d /\ d <= K := h d (qZ_ hd)
theorem Fp (h l n t : Int) (g : Nat) (w : World) (hb : zb w g 226 #[.int .i64 h, .int .i64 l]) (hh : -4000000000000000 <= h /\ h <= 4000000000000000) (hl : -40000000000000000 <= l /\ l <= 40000000000000000) (hn : -1000000000000000 <= n /\ n <= 1000000000000000) (ht : -1000000 <= t /\ t <= 1000000) :
  Calls Tryz.prog 218 #[.pointer (some ⟨g, 0, none⟩), .int .i64 n, .int .i64 t] w fun en w' => en = .returned (.tuple #[]) /\ zb w' g 226 #[.int .i64 (h + t * n.tdiv 100000000), .int .i64 (l + t * n.tmod 100000000)] /\ GX g w w' := by
 have b1 := FE (n := n) (P := 100000000) (K := 10000000) uW_ uX_; have b2 := Ry n 100000000 uW_; have m1 := Nx (a := t) (b := n.tdiv 100000000) (A := 1000000) (B := 10000000) ht b1; have m2 := Nx (a := t) (b := n.tmod 100000000) (A := 1000000) (B := 99999999) ht uX_; obtain ⟨q, hq⟩ : ∃ q, n.tdiv 100000000 = q := ⟨_, rfl⟩
 obtain ⟨m, hm⟩ : ∃ m, n.tmod 100000000 = m := ⟨_, rfl⟩
 rw [hq] at b1 m1 ⊢; rw [hm] at b2 m2 ⊢; have w1 : IntKind.i64.wrap q = q := by rw [IntKind.wrap_i64]; omega
 have w2 : IntKind.i64.wrap m = m := by rw [IntKind.wrap_i64]; omega
 have w3 : IntKind.i64.wrap (t * q) = t * q := by rw [IntKind.wrap_i64]; omega
 have w4 : IntKind.i64.wrap (t * m) = t * m := by rw [IntKind.wrap_i64]; omega
 have w5 : IntKind.i64.wrap (h + t * q) = h + t * q := by rw [IntKind.wrap_i64]; omega
 have w6 : IntKind.i64.wrap (l + t * m) = l + t * m := by rw [IntKind.wrap_i64]; omega
 have BB := hh_ hb; have GG := hh_ (GX.refl g w); obtain ⟨b0, f0⟩ := hb.rules; clear hb; go_enter Tryz.func218, Tryz.ntmps218; go_wp2; go_end0; refine ⟨rfl, ?_, ((GX.refl g w).set _ _).set _ _⟩; have := ((BB.out.set 0 (.int .i64 (h + t * q))).set 1 (.int .i64 (l + t * m)))
 simpa using this
theorem FG (h l : Int) (g : Nat) (w : World) (hb : zb w g 226 #[.int .i64 h, .int .i64 l]) (hh : -4000000000000000 <= h /\ h <= 4000000000000000) (hl : -40000000000000000 <= l /\ l <= 40000000000000000) :
  Calls Tryz.prog 219 #[.pointer (some ⟨g, 0, none⟩)] w fun en w' => en = .returned (xT (h * 100000000 + l)).val /\ za w w' := by
 have e := zaw h l; have b1 := FE (n := l) (P := 100000000) (K := 400000000) uW_ uX_; have b2 := Ry l 100000000 uW_; obtain ⟨q, hq⟩ : ∃ q, l.tdiv 100000000 = q := ⟨_, rfl⟩
 obtain ⟨m, hm⟩ : ∃ m, l.tmod 100000000 = m := ⟨_, rfl⟩
 rw [hq] at b1 e; rw [hm] at b2 e; have w1 : IntKind.i64.wrap q = q := by rw [IntKind.wrap_i64]; omega
 have w2 : IntKind.i64.wrap m = m := by rw [IntKind.wrap_i64]; omega
 have w3 : IntKind.i64.wrap (h + q) = h + q := by rw [IntKind.wrap_i64]; omega
 have ci := fun n W => XI n W
 have cn := fun W => Xj W
 obtain ⟨R, hR⟩ : ∃ R, xT (h * 100000000 + l) = R := ⟨_, rfl⟩
 rw [hR] at e ⊢; have BB := hh_ hb; clear hb hR
 by_cases h1 : 200000000 < h + q
 ·have d1 : decide (200000000 < h + q) = true := decide_eq_true h1; rw [if_pos (.inl h1)] at e; subst e; go_enter Tryz.func219, Tryz.ntmps219; go_upto_region 1 with fail
  refine zc (fun X => zb X g 226 #[.int .i64 h, .int .i64 l] /\ zb X w.heap.size 33 #[.int .i64 0, .int .i64 0, .string ⟨#[]⟩] /\ za w X) ⟨BB.out.al _, zb.new _ _ _, (za.refl w).al _⟩ ?_; rintro X ⟨BX, BR, Gx⟩; obtain ⟨b0, f0⟩ := BX.rules; obtain ⟨b1r, f1r⟩ := BR.rules
  go_quiet (fail)
  go_wp2_with (go_at_call 73; ((with_reducible refine (Xj _).mono ?_); rintro e w' ⟨rfl, hg⟩; obtain ⟨b2r, f2r⟩ := (BR.grow (((za.refl X).drewN _).trans hg)).rules))
  exact qX_ ok_ rfl ⟨rfl, ze⟩
 ·have d1 : decide (200000000 < h + q) = false := decide_eq_false h1
  by_cases h2 : h + q < -200000000
  ·have d2 : decide (h + q < -200000000) = true := decide_eq_true h2; rw [if_pos (.inr h2)] at e; subst e; go_enter Tryz.func219, Tryz.ntmps219; go_upto_region 1 with fail
   refine zc (fun X => zb X g 226 #[.int .i64 h, .int .i64 l] /\ zb X w.heap.size 33 #[.int .i64 0, .int .i64 0, .string ⟨#[]⟩] /\ za w X) ⟨BB.out.al _, zb.new _ _ _, (za.refl w).al _⟩ ?_; rintro X ⟨BX, BR, Gx⟩; obtain ⟨b0, f0⟩ := BX.rules; obtain ⟨b1r, f1r⟩ := BR.rules
   go_quiet (fail)
   go_wp2_with (go_at_call 73; ((with_reducible refine (Xj _).mono ?_); rintro e w' ⟨rfl, hg⟩; obtain ⟨b2r, f2r⟩ := (BR.grow (((za.refl X).drewN _).trans hg)).rules))
   exact qX_ ok_ rfl ⟨rfl, ze⟩
  ·have d2 : decide (h + q < -200000000) = false := decide_eq_false h2; rw [if_neg uX_] at e; subst e; have w4 : IntKind.i64.wrap ((h + q) * 100000000) = (h + q) * 100000000 := by rw [IntKind.wrap_i64]; omega
   have w5 : IntKind.i64.wrap ((h + q) * 100000000 + m) = (h + q) * 100000000 + m := by rw [IntKind.wrap_i64]; omega
   go_enter Tryz.func219, Tryz.ntmps219; go_upto_region 1 with fail
   refine zc (fun X => zb X g 226 #[.int .i64 h, .int .i64 l] /\ zb X w.heap.size 33 #[.int .i64 0, .int .i64 0, .string ⟨#[]⟩] /\ za w X) ⟨BB.out.al _, zb.new _ _ _, (za.refl w).al _⟩ ?_; rintro X ⟨BX, BR, Gx⟩; obtain ⟨b0, f0⟩ := BX.rules; obtain ⟨b1r, f1r⟩ := BR.rules
   go_quiet (fail)
   go_wp2_with (go_at_call 72; ((with_reducible refine (XI _ _).mono ?_); rintro e w' ⟨rfl, hg⟩; obtain ⟨b2r, f2r⟩ := (BR.grow (((za.refl X).drewN _).trans hg)).rules))
   exact qX_ ok_ rfl ⟨rfl, ze⟩
theorem GX.far {g g2 : Nat} {a b : World} (h : GX g a b) (hg : a.heap.size <= g2) (o : Nat) (u : Value) : GX g a (b.setCell ⟨g2, o, none⟩ u) := GX.own h (GX.set (GX.refl g2 b) o u) (fun i hi => by cases hi; exact hg)
theorem XA (b : Bool) : bare (qj b) = qj b := by cases b <;> decide
theorem Wn (n : Int) : bare (xz n) = xz n := by
 unfold xz; split
 ·decide
 ·exact XA _
theorem UC (n : Int) : bare (xT n) = xT n := by
 unfold xT; split
 ·simp [bare]
 ·decide
theorem Z4 : bare (⟨1, 0, es⟩ : V) = ⟨1, 0, es⟩ := by decide
theorem Cu (a b : V) : bare (Nb a b) = Nb a b := by unfold Nb; split; exact XA _; exact Z4
theorem RY (a b : V) : bare (qH a b) = qH a b := by unfold qH; split; exact XA _; exact Z4
theorem Lq (a : V) : bare (kN a) = kN a := Wn _
theorem UA (k : Int) (a b : V) : bare (yC k a b) = yC k a b := by
 unfold yC
 repeat' split
 all_goals first | exact Cu _ _ | exact RY _ _ | exact Lq _
theorem Pe (s : Int) (a b : V) : bare (yx s a b) = yx s a b := by
 unfold yx
 repeat' split
 all_goals first | exact UC _ | exact Z4
theorem UD (a b : V) : bare (jd a b) = jd a b := by
 unfold jd; split
 ·simp [bare]
 ·exact Z4
theorem Gi (k : Int) (a b d : V) (ha : bare a = a) (hb : bare b = b) (hd : bare d = d) : bare (Mj k a b d) = Mj k a b d := by
 unfold Mj
 repeat' split
 all_goals first | assumption | exact Lq _ | exact Wn _ | exact Pe _ _ _ | exact UD _ _ | exact XA _ | exact UA _ _ _
theorem QW (row : List V) (e : E) : bare (yu row e) = yu row e := by
 induction e with
 | leaf => exact UE
 | mk k v c A n cap kid ih =>
  unfold yu; split
  ·exact YJ _
  ·split
   ·exact YJ _
   ·exact Gi _ _ _ _ (ih 0) (ih 1) (ih 2)
theorem zbl {v : V} (h : RV v) (hb : bare v = v) : -1000000000000000 <= v.n /\ v.n <= 1000000000000000 := by
 rcases h.kind with k | k | k | k
 ·have : v.n = 0 := by rw [<- hb]; simp [bare, k]
  omega
 ·have := h.bool k; omega
 ·exact h.int k
 ·have : v.n = 0 := by rw [<- hb]; simp [bare, k]
  omega
structure AS where
 n : Int
 s : Int
 known : Bool
 lo : V
 hi : V
def as0 : AS := ⟨0, 0, false, yj, yj⟩
def kY (a : Ag) (st : AS) (r : Z) : AS :=
 if a.k = 1 then { st with n := st.n + r.2 }
 else if (yu r.1 a.x).k = 1 then st
 else ⟨st.n + r.2, st.s + r.2 * (yu r.1 a.x).n, true, if st.known = false \/ zO (yu r.1 a.x) st.lo < 0 then yu r.1 a.x else st.lo, if st.known = false \/ 0 < zO (yu r.1 a.x) st.hi then yu r.1 a.x else st.hi⟩
def yT (a : Ag) (l : List Z) : AS := l.foldl (kY a) as0
theorem YI (a : Ag) (l : List Z) (r : Z) : yT a (l ++ [r]) = kY a (yT a l) r := by unfold yT; rw [List.foldl_append]; rfl
def Ze (a : Ag) (l : List Z) : V :=
 if a.k <= 2 then xT (yT a l).n
 else if (yT a l).known = false then yj
 else if a.k = 3 then xT (yT a l).s
 else if a.k = 4 then (yT a l).lo else (yT a l).hi
structure MR (a : Ag) (l : List Z) : Prop where
 k : 1 <= a.k /\ a.k <= 5
 rv : a.k ≠ 1 -> ∀ r ∈ l, RV (yu r.1 a.x)
 w : ∀ r ∈ l, -1000000 <= r.2 /\ r.2 <= 1000000
theorem MR.take {a : Ag} {l m : List Z} (h : MR a (l ++ m)) : MR a l := ⟨h.k, fun h1 r hr => h.rv h1 r (by simp [hr]), fun r hr => h.w r (by simp [hr])⟩
theorem Kn {α : Type} {P : List α -> Prop} (h0 : P []) (hs : ∀ l x, P l -> P (l ++ [x])) (l : List α) : P l := by
 have : ∀ m : List α, P m.reverse := fun m => by
  induction m with
  | nil => exact h0
  | cons x m ih => rw [List.reverse_cons]; exact hs _ _ ih
 rw [<- List.reverse_reverse l]; exact this _
theorem Pd (a : Ag) (l : List Z) : MR a l -> (-(1000000 * (l.length : Int)) <= (yT a l).n /\ (yT a l).n <= 1000000 * (l.length : Int)) /\ RV (yT a l).lo /\ RV (yT a l).hi /\ ((yT a l).known = false -> (yT a l).lo = yj /\ (yT a l).hi = yj /\ (yT a l).s = 0) := by
 refine Kn (P := fun l => MR a l -> (-(1000000 * (l.length : Int)) <= (yT a l).n /\ (yT a l).n <= 1000000 * (l.length : Int)) /\ RV (yT a l).lo /\ RV (yT a l).hi /\ ((yT a l).known = false -> (yT a l).lo = yj /\ (yT a l).hi = yj /\ (yT a l).s = 0)) (fun _ => ⟨by simp [yT, as0], qu, qu, fun _ => ⟨rfl, rfl, rfl⟩⟩) (fun l r ih h => ?_) l; obtain ⟨⟨i1, i2⟩, i3, i4, i5⟩ := ih h.take; have hw := h.w r uY_; rw [YI]; simp only [List.length_append, List.length_singleton]; unfold kY; split
 ·exact ⟨by simp only; omega, i3, i4, i5⟩
 ·rename_i h1; have hv := h.rv h1 r uY_; split
  ·exact ⟨by omega, i3, i4, i5⟩
  ·refine ⟨by simp only; omega, ?_, ?_, fun h => by simp at h⟩
   ·simp only; split
    ·exact hv
    ·exact i3
   ·simp only; split
    ·exact hv
    ·exact i4
theorem Cl {a : Ag} {l : List Z} (h : MR a l) : RV (Ze a l) := by
 obtain ⟨_, h1, h2, _⟩ := Pd a l h; unfold Ze
 repeat' split
 all_goals first | exact T2 _ | exact qu | assumption
theorem Fq {xs : List I} {k : Nat} {x : I} (h : xs[k]? = some x) : (xs.take (k + 1)).map zh = (xs.take k).map zh ++ [zh x] := yi zh h
abbrev zbD (w : World) (g : Nat) (u0 u1 u2 : Value) : World := ((w.setCell ⟨g, 0, none⟩ u0).setCell ⟨g, 1, none⟩ u1).setCell ⟨g, 2, none⟩ u2
theorem qF {w : World} {g : Nat} {t : TypeId} {cs : Array Value} (h : zb w g t cs) {q : Nat} (hne : g ≠ q) (u0 u1 u2 : Value) : zb (zbD w q u0 u1 u2) g t cs := ((h.far (p := ⟨q, 0, none⟩) hne _).far (p := ⟨q, 1, none⟩) hne _).far (p := ⟨q, 2, none⟩) hne _
theorem Jo {w : World} {g : Nat} {t : TypeId} {a b c : Value} (h : zb w g t #[a, b, c]) (u0 u1 u2 : Value) : zb (zbD w g u0 u1 u2) g t #[u0, u1, u2] := by
 have := ((h.set 0 u0).set 1 u1).set 2 u2; simpa using this
theorem XT {a w : World} (h : za a w) {g : Nat} (hg : a.heap.size <= g) (u0 u1 u2 : Value) : za a (zbD w g u0 u1 u2) := ((h.set (p := ⟨g, 0, none⟩) hg _).set (p := ⟨g, 1, none⟩) hg _).set (p := ⟨g, 2, none⟩) hg _
structure AgX (a : Ag) (xs : List I) : Prop where
 k : 1 <= a.k /\ a.k <= 5
 len : xs.length <= 400
 rl : ∀ x ∈ xs, x.row.length <= 1000
 rv : ∀ x ∈ xs, ∀ v ∈ x.row, RV v
 re : a.k ≠ 1 -> ∀ x ∈ xs, RE x.row.length a.x
 w : ∀ x ∈ xs, -1000000 <= x.w /\ x.w <= 1000000
theorem AgX.ok {a : Ag} {xs : List I} (h : AgX a xs) (k : Nat) : MR a ((xs.take k).map zh) := ⟨h.k, fun h1 r hr => by
 obtain ⟨x, hx, rfl⟩ := List.mem_map.1 hr; have hx := List.mem_of_mem_take hx
 exact Qu x.row (h.rv x hx) _ (h.re h1 x hx), fun r hr => by
 obtain ⟨x, hx, rfl⟩ := List.mem_map.1 hr
 exact h.w x (List.mem_of_mem_take hx)⟩
structure WK (w : World) (gs gl gh : Nat) (st : AS) (k : Nat) (t : TypeId) : Prop where
 sum : ∃ h l : Int, zb w gs t #[.int .i64 h, .int .i64 l] /\ h * 100000000 + l = st.s /\ -(10000000000000 * (k : Int)) <= h /\ h <= 10000000000000 * (k : Int) /\ -(100000000000000 * (k : Int)) <= l /\ l <= 100000000000000 * (k : Int)
 lo : ∃ L : V, zb w gl 33 #[.int .i64 L.k, .int .i64 L.n, .string L.s] /\ (st.known = true -> L = st.lo)
 hi : ∃ L : V, zb w gh 33 #[.int .i64 L.k, .int .i64 L.n, .string L.s] /\ (st.known = true -> L = st.hi)
theorem WK.grow {w w' : World} {gs gl gh : Nat} {st : AS} {k : Nat} {t : TypeId} (h : WK w gs gl gh st k t) (hg : za w w') : WK w' gs gl gh st k t := by
 obtain ⟨⟨a, b, h1, h2⟩, ⟨L, h3, h4⟩, ⟨M, h5, h6⟩⟩ := h; exact ⟨⟨a, b, h1.grow hg, h2⟩, ⟨L, h3.grow hg, h4⟩, ⟨M, h5.grow hg, h6⟩⟩
theorem WK.same {w : World} {gs gl gh : Nat} {st st' : AS} {k : Nat} {t : TypeId} (h : WK w gs gl gh st k t) (e1 : st'.s = st.s) (e2 : st'.known = st.known) (e3 : st'.lo = st.lo) (e4 : st'.hi = st.hi) : WK w gs gl gh st' (k + 1) t := by
 obtain ⟨⟨a, b, h1, h2, h3⟩, ⟨L, h4, h5⟩, ⟨M, h6, h7⟩⟩ := h; exact ⟨⟨a, b, h1, by rw [e1]; exact h2, by omega⟩, ⟨L, h4, by rw [e2, e3]; exact h5⟩, ⟨M, h6, by rw [e2, e4]; exact h7⟩⟩
theorem KZ (a : Ag) (ga oa : Nat) (xs : List I) (B : Option Addr) (cap : Nat) (w : World) (hc : kO w ga oa a) (hx : EX w a.x) (hz : xe w B xs) (ho : AgX a xs) :
  Calls Tryz.prog 214 #[.pointer (some ⟨ga, oa, none⟩), .slice B xs.length cap] w fun en w' => en = .returned (Ze a (xs.map zh)).val /\ za w w' := by
 have HC := hh_ hc; have HX := hh_ hx; have HZ := hh_ hz; have HO := hh_ ho; have hlen := ho.len; obtain ⟨k1, k5⟩ := ho.k; obtain ⟨R, hR⟩ : ∃ R, Ze a (xs.map zh) = R := ⟨_, rfl⟩
 rw [hR]; have HR := hh_ hR; clear hc hx hz ho hR; go_enter Tryz.func214, Tryz.ntmps214; go_upto_region 5 with fail
 refine zc (fun X => zb X w.heap.size 33 #[.int .i64 0, .int .i64 0, .string ⟨#[]⟩] /\ zb X (w.heap.size + 1) 226 #[.int .i64 0, .int .i64 0] /\ zb X (w.heap.size + 1 + 1) 33 #[.int .i64 0, .int .i64 0, .string ⟨#[]⟩] /\ zb X (w.heap.size + 1 + 1 + 1) 33 #[.int .i64 0, .int .i64 0, .string ⟨#[]⟩] /\ za w X) ⟨(((zb.new _ _ _).al _).al _).al _, ((zb.new' _ _ _ uY_).al _).al _, (zb.new' _ _ _ uY_).al _, zb.new' _ _ _ uY_, ze⟩ ?_; have hh : w.heap.size < w.heap.size + 1 /\ w.heap.size + 1 < w.heap.size + 1 + 1 /\ w.heap.size + 1 + 1 < w.heap.size + 1 + 1 + 1 := by omega
 generalize w.heap.size + 1 + 1 + 1 = g8 at *; generalize w.heap.size + 1 + 1 = g7 at *; generalize w.heap.size + 1 = g6 at *; generalize hg4 : w.heap.size = g4 at *; rintro X ⟨B4, B6, B7, B8, G⟩; have BX := hh_ (And.intro B4 (And.intro B6 (And.intro B7 B8))); have HG := hh_ (And.intro hg4 hh); have n67 : g6 ≠ g7 := by omega
 have n68 : g6 ≠ g8 := by omega
 have n78 : g7 ≠ g8 := by omega
 clear B4 B6 B7 B8 hg4 hh; go_wp2
 go_loopw [5, 9, 15] (fun n kn i wr => ∃ k : Nat, k <= xs.length /\ i = .int .i64 k /\ n = .int .i64 (yT a ((xs.take k).map zh)).n /\ kn = .bool (yT a ((xs.take k).map zh)).known /\ WK wr g6 g7 g8 (yT a ((xs.take k).map zh)) k 226 /\ zb wr g4 33 #[.int .i64 0, .int .i64 0, .string ⟨#[]⟩] /\ za w wr) (fun _ _ i _ => xs.length - (intOf i).toNat)
 case atStart =>
  obtain ⟨b4, b6, b7, b8⟩ := BX.out; exact ⟨0, Nat.zero_le _, rfl, rfl, rfl, ⟨⟨0, 0, b6, rfl, by omega, by omega, by omega, by omega⟩, ⟨⟨0, 0, es⟩, b7, fun h => by simp [yT, as0] at h⟩, ⟨⟨0, 0, es⟩, b8, fun h => by simp [yT, as0] at h⟩⟩, b4, G⟩
 case round =>
  obtain ⟨k, hk, rfl, rfl, rfl, hst, hb4, hg⟩ := hrel; have St := hh_ hst; have B4 := hh_ hb4; have ok := HO.out.ok k; obtain ⟨⟨n1, n2⟩, rlo, rhi, hkn⟩ := Pd a _ ok; have HR2 := hh_ (And.intro rlo rhi); have lk : ((xs.take k).map zh).length = k := by simp; omega
  rw [lk] at n1 n2; clear hst hb4 ok lk rlo rhi
  by_cases hlt : k < xs.length
  ·obtain ⟨x, hxk⟩ : ∃ x, xs[k]? = some x := ⟨_, qQ_ hlt⟩
   obtain ⟨gx, ox, rfl, c1, c2, hxv⟩ := (HZ.out.grow hg) k x hxk; have hm := qZ_ hxk; have hw := HO.out.w x hm; have e1 := Fq hxk; have E1 := hh_ e1; obtain ⟨st, hst⟩ : ∃ st, yT a ((xs.take k).map zh) = st := ⟨_, rfl⟩
   have es1 : yT a ((xs.take (k + 1)).map zh) = kY a st (zh x) := by rw [e1, YI, hst]
   have ES := hh_ es1; rw [hst] at St n1 n2 hkn HR2 ⊢; have Hkn := hh_ hkn; clear e1 es1 hst hkn hxk; go_upto_region 8 with fail
   refine zc (fun Z => zb Z wr.heap.size 53 #[.slice x.A x.row.length x.cap, .int .i64 x.w] /\ za wr Z) ⟨zb.new _ _ _, (za.refl wr).al _⟩ ?_; have HL := hh_ (show g4 < wr.heap.size from B4.out.lt)
   have hn11 : wr.heap.size ≠ g6 /\ wr.heap.size ≠ g7 /\ wr.heap.size ≠ g8 /\ wr.heap.size ≠ g4 := by
    obtain ⟨⟨_, _, q6, _⟩, ⟨_, q7, _⟩, ⟨_, q8, _⟩⟩ := St.out; have := q6.lt; have := q7.lt; have := q8.lt; have := B4.out.lt; omega
   generalize wr.heap.size = g11 at *; rintro Z ⟨Bz, Gz⟩; have N11 := hh_ hn11; clear hn11; have BZ := hh_ Bz; obtain ⟨bz, fz⟩ := Bz.rules; have ck := (HC.out.grow (hg.trans Gz)).k; have wn : IntKind.i64.wrap (st.n + x.w) = st.n + x.w := by rw [IntKind.wrap_i64]; omega
   clear c1 c2 Bz
   by_cases h1 : a.k = 1
   ·have d1 : (a.k == 1) = true := by simpa using h1
    have es2 : kY a st (zh x) = { st with n := st.n + x.w } := by unfold kY; rw [if_pos h1]; rfl
    have ES2 := hh_ (ES.out.trans es2); clear es2; go_wp2; go_roundw
    case rel => exact ⟨k + 1, by omega, by go_num, by rw [ES2.out], by rw [ES2.out], (by rw [ES2.out]; exact (St.out.grow Gz).same rfl rfl rfl rfl), B4.out.grow Gz, hg.trans Gz⟩
    case measure => exact u1_
   ·have d1 : (a.k == 1) = false := by simpa using h1
    have hre := HO.out.re h1 x hm; have hrv := HO.out.rv x hm; have hrl := HO.out.rl x hm; have vr := Qu x.row hrv a.x hre; have vb := zbl vr (QW x.row a.x); have co := fun W (h : za wr W) => Ny x.row x.A x.cap uX_ hrv a.x hre ga (oa + 1) wr W (HX.out.grow hg) (HC.out.grow hg).e hxv h
    have es2 : kY a st (zh x) = if (yu x.row a.x).k = 1 then st else ⟨st.n + x.w, st.s + x.w * (yu x.row a.x).n, true, if st.known = false \/ zO (yu x.row a.x) st.lo < 0 then yu x.row a.x else st.lo, if st.known = false \/ 0 < zO (yu x.row a.x) st.hi then yu x.row a.x else st.hi⟩ := by unfold kY; rw [if_neg h1]; rfl
    have ES2 := hh_ (ES.out.trans es2); obtain ⟨v, hv⟩ : ∃ v, yu x.row a.x = v := ⟨_, rfl⟩
    rw [hv] at vr vb co ES2; have VR := hh_ vr; clear es2 hre hrv hv vr hxv; go_upto_region 10 with fail
    apply wp_region_calm 7 uQ_ uQ_
    case h' =>
     intro Q0 hQ0; simp only [List.take_succ_cons, List.take_zero]
     repeat ((first | ((first | apply calm_p rfl | apply zu rfl rfl rfl); case h1 => (intro w1 hw1 hF K hK; obtain ⟨bz, fz⟩ := (BZ.out.grow hw1).rules; go_simp; first | exact hK _ (za.refl _) | (go_at_call 67; ((with_reducible refine (co w1 (Gz.trans hw1)).mono ?_); rintro e w' ⟨rfl, hg⟩; exact ⟨_, rfl, hK _ hg⟩)))) | apply zw rfl rfl rfl rfl); intro K hK; go_simp; apply hK; clear hK K)
     apply calm_fp (fun v W => ∃ g, v = .pointer (some ⟨g, 0, none⟩) /\ Z.heap.size <= g /\ zb W g 33 #[.int .i64 0, .int .i64 0, .string ⟨#[]⟩]) rfl
     case h1 =>
      intro w1 hw1 hF K hK; go_simp; exact hK _ _ ((za.refl _).al _) ⟨_, rfl, hw1.size, zb.new _ _ _⟩
     intro v12 K hK; go_simp; apply hK; clear hK K; refine calm_nil ?_; intro w1 hw1 hF; apply hQ0; clear hQ0; simp only [List.drop_succ_cons, List.drop_zero]; obtain ⟨g12, rfl, hg12, B12⟩ := hF _ (List.mem_cons_self ..); clear hF bz fz; have B12' := Jo B12 (.int .i64 v.k) (.int .i64 v.n) (.string v.s); have G12 := XT hw1 hg12 (.int .i64 v.k) (.int .i64 v.n) (.string v.s); obtain ⟨b12, f12⟩ := B12.rules; clear B12; go_upto_region 11 with fail
     refine zc (fun W => zb W g12 33 #[.int .i64 v.k, .int .i64 v.n, .string v.s] /\ za Z W) ⟨B12', G12⟩ ?_; clear B12' G12 b12 f12 hw1 w1; rintro X3 ⟨B12, G3⟩; have B12 := hh_ B12; obtain ⟨b12, f12⟩ := B12.out.rules
     by_cases hk1 : v.k = 1
     ·have d2 : (v.k == 1) = true := by simpa using hk1
      have e3 : yT a ((xs.take (k + 1)).map zh) = st := by rw [ES2.out, if_pos hk1]
      have E3 := hh_ e3; clear e3; go_wp2; go_roundw
      case rel => exact ⟨k + 1, by omega, by go_num, by rw [E3.out], by rw [E3.out], (by rw [E3.out]; exact ((St.out.grow (Gz.trans G3)).same rfl rfl rfl rfl)), B4.out.grow (Gz.trans G3), hg.trans (Gz.trans G3)⟩
      case measure => exact u1_
     ·have d2 : (v.k == 1) = false := by simpa using hk1
      obtain ⟨⟨h, l, B6, e6, i1, i2, i3, i4⟩, ⟨L, B7, e7⟩, ⟨M, B8, e8⟩⟩ := St.out.grow (Gz.trans G3); have EE := hh_ (And.intro e7 e8); clear e7 e8; have BZ3 := BZ.out.grow G3; have B43 := B4.out.grow (Gz.trans G3)
      obtain ⟨l4, l6, l7, l8, l11⟩ : g4 < Z.heap.size /\ g6 < Z.heap.size /\ g7 < Z.heap.size /\ g8 < Z.heap.size /\ g11 < Z.heap.size := by
       obtain ⟨⟨_, _, q6, _⟩, ⟨_, q7, _⟩, ⟨_, q8, _⟩⟩ := St.out.grow Gz; exact ⟨(B4.out.grow Gz).lt, q6.lt, q7.lt, q8.lt, BZ.out.lt⟩
      have o11 : g11 ≠ g6 /\ g11 ≠ g7 /\ g11 ≠ g8 /\ g11 ≠ g4 := N11.out; obtain ⟨m46, m67, m78⟩ := HG.out.2; have ct := Fp h l v.n x.w g6 X3 B6 uX_ uX_ vb hw; obtain ⟨h2, hh2⟩ : ∃ q, h + x.w * v.n.tdiv 100000000 = q := ⟨_, rfl⟩
      obtain ⟨l2, hl2⟩ : ∃ q, l + x.w * v.n.tmod 100000000 = q := ⟨_, rfl⟩
      have t1 := FF v.n 100000000; have t2 := Ry v.n 100000000 uW_; have t3 := FE (n := v.n) (P := 100000000) (K := 10000000) uW_ uX_; have t4 := Nx (a := x.w) (b := v.n.tdiv 100000000) (A := 1000000) (B := 10000000) hw t3; have t5 := Nx (a := x.w) (b := v.n.tmod 100000000) (A := 1000000) (B := 100000000) hw uX_
      have t6 : x.w * v.n = x.w * v.n.tdiv 100000000 * 100000000 + x.w * v.n.tmod 100000000 := by
       rw [Int.mul_assoc, <- Int.mul_add, Int.mul_comm (v.n.tdiv 100000000)]; congr 1; exact t1.symm
      have e62 : h2 * 100000000 + l2 = st.s + x.w * v.n := by omega
      rw [hh2, hl2] at ct; have S6 := hh_ (And.intro e62 (show (-(10000000000000 * ((k + 1 : Nat) : Int)) <= h2 /\ h2 <= 10000000000000 * ((k + 1 : Nat) : Int)) /\ -(100000000000000 * ((k + 1 : Nat) : Int)) <= l2 /\ l2 <= 100000000000000 * ((k + 1 : Nat) : Int) by omega)); clear t1 t2 t3 t4 t5 t6 e62 hh2 hl2 i1 i2 i3 i4 e6; obtain ⟨bz3, fz3⟩ := BZ3.rules; go_upto_region 14 with (go_at_call 218; ((with_reducible refine ct.mono ?_); rintro e X4 ⟨rfl, B64, gx4⟩)); have G4 : za w X4 := GX.base ((hg.trans Gz).trans G3) (by have := HG.out.1; omega) gx4; have C := hh_ (show zb X4 g6 226 #[.int .i64 h2, .int .i64 l2] /\ zb X4 g4 33 #[.int .i64 0, .int .i64 0, .string ⟨#[]⟩] from ⟨B64, gx4.blk uX_ B43⟩); have D := hh_ (show zb X4 g12 33 #[.int .i64 v.k, .int .i64 v.n, .string v.s] /\ zb X4 g7 33 #[.int .i64 L.k, .int .i64 L.n, .string L.s] /\ zb X4 g8 33 #[.int .i64 M.k, .int .i64 M.n, .string M.s] from ⟨gx4.blk uX_ B12.out, gx4.blk uX_ B7, gx4.blk uX_ B8⟩); have o7 : g12 ≠ g7 := by omega
      have o8 : g12 ≠ g8 := by omega
      have o4 : g4 ≠ g7 := by omega
      have o4' : g4 ≠ g8 := by omega
      have sz : w.heap.size <= g7 /\ w.heap.size <= g8 := by have := HG.out.1; omega
      have SZ := hh_ sz; clear gx4 B64 B6 B7 B8 BZ3 B43 ct bz3 fz3 b12 f12 sz l4 l6 l7 l8 l11 o11 m46 m67 m78; cases hkn : st.known with
      | false =>
       have e3 : yT a ((xs.take (k + 1)).map zh) = ⟨st.n + x.w, st.s + x.w * v.n, true, v, v⟩ := by rw [ES2.out, if_neg hk1, if_pos (.inl hkn), if_pos (.inl hkn)]
       have E3 := hh_ e3; clear e3; obtain ⟨⟨b12, f12⟩, ⟨b7, f7⟩, ⟨b8, f8⟩⟩ := And.intro D.out.1.rules (And.intro D.out.2.1.rules D.out.2.2.rules); go_upto_region 16 with fail
       refine zc (fun W => (zb W g6 226 #[.int .i64 h2, .int .i64 l2] /\ zb W g4 33 #[.int .i64 0, .int .i64 0, .string ⟨#[]⟩]) /\ zb W g12 33 #[.int .i64 v.k, .int .i64 v.n, .string v.s] /\ zb W g7 33 #[.int .i64 v.k, .int .i64 v.n, .string v.s] /\ zb W g8 33 #[.int .i64 M.k, .int .i64 M.n, .string M.s] /\ za w W) ⟨⟨(qF (C.out.1.grow (za.refl X4)) uX_ _ _ _), (qF (C.out.2.grow (za.refl X4)) uX_ _ _ _)⟩, (qF (D.out.1.grow (za.refl X4)) uX_ _ _ _), (Jo (D.out.2.1.grow (za.refl X4)) _ _ _), (qF (D.out.2.2.grow (za.refl X4)) uX_ _ _ _), (XT (G4.trans (za.refl X4)) SZ.out.1 _ _ _)⟩ ?_; clear b12 f12 b7 f7 b8 f8; rintro X6 ⟨C6, d61, d62, d63, G6⟩; have C6 := hh_ C6; have D6 := hh_ (And.intro d61 (And.intro d62 d63)); obtain ⟨⟨b12, f12⟩, ⟨b8, f8⟩⟩ := And.intro d61.rules d63.rules; clear d61 d62 d63; go_upto_region 18 with fail
       refine zc (fun W => (zb W g6 226 #[.int .i64 h2, .int .i64 l2] /\ zb W g4 33 #[.int .i64 0, .int .i64 0, .string ⟨#[]⟩]) /\ zb W g7 33 #[.int .i64 v.k, .int .i64 v.n, .string v.s] /\ zb W g8 33 #[.int .i64 v.k, .int .i64 v.n, .string v.s] /\ za w W) ⟨⟨(qF (C6.out.1.grow (za.refl X6)) uX_ _ _ _), (qF (C6.out.2.grow (za.refl X6)) uX_ _ _ _)⟩, (qF (D6.out.2.1.grow (za.refl X6)) uX_ _ _ _), (Jo (D6.out.2.2.grow (za.refl X6)) _ _ _), (XT (G6.trans (za.refl X6)) SZ.out.2 _ _ _)⟩ ?_; clear b12 f12 b8 f8; rintro X8 ⟨⟨c81, c82⟩, d87, d88, G8⟩; have F8 := hh_ (show WK X8 g6 g7 g8 (yT a ((xs.take (k + 1)).map zh)) (k + 1) 226 by rw [E3.out]; exact ⟨⟨h2, l2, c81, S6.out.1, S6.out.2.1.1, S6.out.2.1.2, S6.out.2.2.1, S6.out.2.2.2⟩, ⟨v, d87, fun _ => rfl⟩, ⟨v, d88, fun _ => rfl⟩⟩); have C82 := hh_ c82; clear c81 c82 d87 d88; go_wp2; go_roundw
       case rel => exact ws_
       case measure => exact u1_
      | true =>
       have vlo := VR.out; have cv1 := fun W => jF v L W
       have cv2 := fun W => jF v M W
       rw [M6 v L VR.out (by rw [EE.out.1 hkn]; exact HR2.out.1)] at cv1; rw [M6 v M VR.out (by rw [EE.out.2 hkn]; exact HR2.out.2)] at cv2
       skip
       unfold V.val at cv1 cv2; obtain ⟨r1, hr1⟩ : ∃ r, zO v L = r := ⟨_, rfl⟩
       obtain ⟨r2, hr2⟩ : ∃ r, zO v M = r := ⟨_, rfl⟩
       rw [hr1] at cv1; rw [hr2] at cv2; rw [EE.out.1 hkn] at hr1; rw [EE.out.2 hkn] at hr2; have Hr := hh_ (And.intro hr1 hr2); clear hr1 hr2 vlo
       by_cases w1 : r1 < 0
       ·have d3 : decide (r1 < 0) = true := decide_eq_true w1
        by_cases w2 : 0 < r2
        ·have d4 : decide (0 < r2) = true := decide_eq_true w2; have q1 : (zO v st.lo < 0) := by rw [Hr.out.1]; exact w1
         have q2 : (0 < zO v st.hi) := by rw [Hr.out.2]; exact w2
         have QQ := hh_ (And.intro q1 q2); have e3 : yT a ((xs.take (k + 1)).map zh) = ⟨st.n + x.w, st.s + x.w * v.n, true, v, v⟩ := by rw [ES2.out, if_neg hk1, if_pos (.inr q1), if_pos (.inr q2)]
         have E3 := hh_ e3; clear e3; obtain ⟨⟨b12, f12⟩, ⟨b7, f7⟩, ⟨b8, f8⟩⟩ := And.intro D.out.1.rules (And.intro D.out.2.1.rules D.out.2.2.rules); go_upto_region 16 with (go_at_call 69; (with_reducible refine (cv1 _).mono ?_); rintro e w5 ⟨rfl, hg5⟩; obtain ⟨⟨b12, f12⟩, ⟨b7, f7⟩⟩ := And.intro (D.out.1.grow hg5).rules (D.out.2.1.grow hg5).rules); refine zc (fun W => (zb W g6 226 #[.int .i64 h2, .int .i64 l2] /\ zb W g4 33 #[.int .i64 0, .int .i64 0, .string ⟨#[]⟩]) /\ zb W g12 33 #[.int .i64 v.k, .int .i64 v.n, .string v.s] /\ zb W g7 33 #[.int .i64 v.k, .int .i64 v.n, .string v.s] /\ zb W g8 33 #[.int .i64 M.k, .int .i64 M.n, .string M.s] /\ za w W) ⟨⟨(qF (C.out.1.grow hg5) uX_ _ _ _), (qF (C.out.2.grow hg5) uX_ _ _ _)⟩, (qF (D.out.1.grow hg5) uX_ _ _ _), (Jo (D.out.2.1.grow hg5) _ _ _), (qF (D.out.2.2.grow hg5) uX_ _ _ _), (XT (G4.trans hg5) SZ.out.1 _ _ _)⟩ ?_; clear b12 f12 b7 f7 b8 f8; rintro X6 ⟨C6, d61, d62, d63, G6⟩; have C6 := hh_ C6; have D6 := hh_ (And.intro d61 (And.intro d62 d63)); obtain ⟨⟨b12, f12⟩, ⟨b8, f8⟩⟩ := And.intro d61.rules d63.rules; clear d61 d62 d63; go_upto_region 18 with (go_at_call 69; (with_reducible refine (cv2 _).mono ?_); rintro e w7 ⟨rfl, hg7⟩; obtain ⟨⟨b12, f12⟩, ⟨b8, f8⟩⟩ := And.intro (D6.out.1.grow hg7).rules (D6.out.2.2.grow hg7).rules); refine zc (fun W => (zb W g6 226 #[.int .i64 h2, .int .i64 l2] /\ zb W g4 33 #[.int .i64 0, .int .i64 0, .string ⟨#[]⟩]) /\ zb W g7 33 #[.int .i64 v.k, .int .i64 v.n, .string v.s] /\ zb W g8 33 #[.int .i64 v.k, .int .i64 v.n, .string v.s] /\ za w W) ⟨⟨(qF (C6.out.1.grow hg7) uX_ _ _ _), (qF (C6.out.2.grow hg7) uX_ _ _ _)⟩, (qF (D6.out.2.1.grow hg7) uX_ _ _ _), (Jo (D6.out.2.2.grow hg7) _ _ _), (XT (G6.trans hg7) SZ.out.2 _ _ _)⟩ ?_; clear b12 f12 b8 f8; rintro X8 ⟨⟨c81, c82⟩, d87, d88, G8⟩; have F8 := hh_ (show WK X8 g6 g7 g8 (yT a ((xs.take (k + 1)).map zh)) (k + 1) 226 by rw [E3.out]; exact ⟨⟨h2, l2, c81, S6.out.1, S6.out.2.1.1, S6.out.2.1.2, S6.out.2.2.1, S6.out.2.2.2⟩, ⟨v, d87, fun _ => rfl⟩, ⟨v, d88, fun _ => rfl⟩⟩); have C82 := hh_ c82; clear c81 c82 d87 d88; go_wp2; go_roundw
         case rel => exact ws_
         case measure => exact u1_
        ·have d4 : decide (0 < r2) = false := decide_eq_false w2; have q1 : (zO v st.lo < 0) := by rw [Hr.out.1]; exact w1
         have q2 : ¬ (0 < zO v st.hi) := by rw [Hr.out.2]; exact w2
         have QQ := hh_ (And.intro q1 q2); have e3 : yT a ((xs.take (k + 1)).map zh) = ⟨st.n + x.w, st.s + x.w * v.n, true, v, st.hi⟩ := by rw [ES2.out, if_neg hk1, if_pos (.inr q1), if_neg (by rw [hkn]; simpa using q2)]
         have E3 := hh_ e3; clear e3; obtain ⟨⟨b12, f12⟩, ⟨b7, f7⟩, ⟨b8, f8⟩⟩ := And.intro D.out.1.rules (And.intro D.out.2.1.rules D.out.2.2.rules); go_upto_region 16 with (go_at_call 69; (with_reducible refine (cv1 _).mono ?_); rintro e w5 ⟨rfl, hg5⟩; obtain ⟨⟨b12, f12⟩, ⟨b7, f7⟩⟩ := And.intro (D.out.1.grow hg5).rules (D.out.2.1.grow hg5).rules); refine zc (fun W => (zb W g6 226 #[.int .i64 h2, .int .i64 l2] /\ zb W g4 33 #[.int .i64 0, .int .i64 0, .string ⟨#[]⟩]) /\ zb W g12 33 #[.int .i64 v.k, .int .i64 v.n, .string v.s] /\ zb W g7 33 #[.int .i64 v.k, .int .i64 v.n, .string v.s] /\ zb W g8 33 #[.int .i64 M.k, .int .i64 M.n, .string M.s] /\ za w W) ⟨⟨(qF (C.out.1.grow hg5) uX_ _ _ _), (qF (C.out.2.grow hg5) uX_ _ _ _)⟩, (qF (D.out.1.grow hg5) uX_ _ _ _), (Jo (D.out.2.1.grow hg5) _ _ _), (qF (D.out.2.2.grow hg5) uX_ _ _ _), (XT (G4.trans hg5) SZ.out.1 _ _ _)⟩ ?_; clear b12 f12 b7 f7 b8 f8; rintro X6 ⟨C6, d61, d62, d63, G6⟩; have C6 := hh_ C6; have D6 := hh_ (And.intro d61 (And.intro d62 d63)); obtain ⟨⟨b12, f12⟩, ⟨b8, f8⟩⟩ := And.intro d61.rules d63.rules; clear d61 d62 d63; go_upto_region 18 with (go_at_call 69; (with_reducible refine (cv2 _).mono ?_); rintro e w7 ⟨rfl, hg7⟩; obtain ⟨⟨b12, f12⟩, ⟨b8, f8⟩⟩ := And.intro (D6.out.1.grow hg7).rules (D6.out.2.2.grow hg7).rules); refine zc (fun W => (zb W g6 226 #[.int .i64 h2, .int .i64 l2] /\ zb W g4 33 #[.int .i64 0, .int .i64 0, .string ⟨#[]⟩]) /\ zb W g7 33 #[.int .i64 v.k, .int .i64 v.n, .string v.s] /\ zb W g8 33 #[.int .i64 M.k, .int .i64 M.n, .string M.s] /\ za w W) ⟨⟨(C6.out.1.grow hg7), (C6.out.2.grow hg7)⟩, (D6.out.2.1.grow hg7), (D6.out.2.2.grow hg7), (G6.trans hg7)⟩ ?_; clear b12 f12 b8 f8; rintro X8 ⟨⟨c81, c82⟩, d87, d88, G8⟩; have F8 := hh_ (show WK X8 g6 g7 g8 (yT a ((xs.take (k + 1)).map zh)) (k + 1) 226 by rw [E3.out]; exact ⟨⟨h2, l2, c81, S6.out.1, S6.out.2.1.1, S6.out.2.1.2, S6.out.2.2.1, S6.out.2.2.2⟩, ⟨v, d87, fun _ => rfl⟩, ⟨M, d88, fun _ => EE.out.2 hkn⟩⟩); have C82 := hh_ c82; clear c81 c82 d87 d88; go_wp2; go_roundw
         case rel => exact ws_
         case measure => exact u1_
       ·have d3 : decide (r1 < 0) = false := decide_eq_false w1
        by_cases w2 : 0 < r2
        ·have d4 : decide (0 < r2) = true := decide_eq_true w2; have q1 : ¬ (zO v st.lo < 0) := by rw [Hr.out.1]; exact w1
         have q2 : (0 < zO v st.hi) := by rw [Hr.out.2]; exact w2
         have QQ := hh_ (And.intro q1 q2); have e3 : yT a ((xs.take (k + 1)).map zh) = ⟨st.n + x.w, st.s + x.w * v.n, true, st.lo, v⟩ := by rw [ES2.out, if_neg hk1, if_neg (by rw [hkn]; simpa using q1), if_pos (.inr q2)]
         have E3 := hh_ e3; clear e3; obtain ⟨⟨b12, f12⟩, ⟨b7, f7⟩, ⟨b8, f8⟩⟩ := And.intro D.out.1.rules (And.intro D.out.2.1.rules D.out.2.2.rules); go_upto_region 16 with (go_at_call 69; (with_reducible refine (cv1 _).mono ?_); rintro e w5 ⟨rfl, hg5⟩; obtain ⟨⟨b12, f12⟩, ⟨b7, f7⟩⟩ := And.intro (D.out.1.grow hg5).rules (D.out.2.1.grow hg5).rules); refine zc (fun W => (zb W g6 226 #[.int .i64 h2, .int .i64 l2] /\ zb W g4 33 #[.int .i64 0, .int .i64 0, .string ⟨#[]⟩]) /\ zb W g12 33 #[.int .i64 v.k, .int .i64 v.n, .string v.s] /\ zb W g7 33 #[.int .i64 L.k, .int .i64 L.n, .string L.s] /\ zb W g8 33 #[.int .i64 M.k, .int .i64 M.n, .string M.s] /\ za w W) ⟨⟨(C.out.1.grow hg5), (C.out.2.grow hg5)⟩, (D.out.1.grow hg5), (D.out.2.1.grow hg5), (D.out.2.2.grow hg5), (G4.trans hg5)⟩ ?_; clear b12 f12 b7 f7 b8 f8; rintro X6 ⟨C6, d61, d62, d63, G6⟩; have C6 := hh_ C6; have D6 := hh_ (And.intro d61 (And.intro d62 d63)); obtain ⟨⟨b12, f12⟩, ⟨b8, f8⟩⟩ := And.intro d61.rules d63.rules; clear d61 d62 d63; go_upto_region 18 with (go_at_call 69; (with_reducible refine (cv2 _).mono ?_); rintro e w7 ⟨rfl, hg7⟩; obtain ⟨⟨b12, f12⟩, ⟨b8, f8⟩⟩ := And.intro (D6.out.1.grow hg7).rules (D6.out.2.2.grow hg7).rules); refine zc (fun W => (zb W g6 226 #[.int .i64 h2, .int .i64 l2] /\ zb W g4 33 #[.int .i64 0, .int .i64 0, .string ⟨#[]⟩]) /\ zb W g7 33 #[.int .i64 L.k, .int .i64 L.n, .string L.s] /\ zb W g8 33 #[.int .i64 v.k, .int .i64 v.n, .string v.s] /\ za w W) ⟨⟨(qF (C6.out.1.grow hg7) uX_ _ _ _), (qF (C6.out.2.grow hg7) uX_ _ _ _)⟩, (qF (D6.out.2.1.grow hg7) uX_ _ _ _), (Jo (D6.out.2.2.grow hg7) _ _ _), (XT (G6.trans hg7) SZ.out.2 _ _ _)⟩ ?_; clear b12 f12 b8 f8; rintro X8 ⟨⟨c81, c82⟩, d87, d88, G8⟩; have F8 := hh_ (show WK X8 g6 g7 g8 (yT a ((xs.take (k + 1)).map zh)) (k + 1) 226 by rw [E3.out]; exact ⟨⟨h2, l2, c81, S6.out.1, S6.out.2.1.1, S6.out.2.1.2, S6.out.2.2.1, S6.out.2.2.2⟩, ⟨L, d87, fun _ => EE.out.1 hkn⟩, ⟨v, d88, fun _ => rfl⟩⟩); have C82 := hh_ c82; clear c81 c82 d87 d88; go_wp2; go_roundw
         case rel => exact ws_
         case measure => exact u1_
        ·have d4 : decide (0 < r2) = false := decide_eq_false w2; have q1 : ¬ (zO v st.lo < 0) := by rw [Hr.out.1]; exact w1
         have q2 : ¬ (0 < zO v st.hi) := by rw [Hr.out.2]; exact w2
         have QQ := hh_ (And.intro q1 q2); have e3 : yT a ((xs.take (k + 1)).map zh) = ⟨st.n + x.w, st.s + x.w * v.n, true, st.lo, st.hi⟩ := by rw [ES2.out, if_neg hk1, if_neg (by rw [hkn]; simpa using q1), if_neg (by rw [hkn]; simpa using q2)]
         have E3 := hh_ e3; clear e3; obtain ⟨⟨b12, f12⟩, ⟨b7, f7⟩, ⟨b8, f8⟩⟩ := And.intro D.out.1.rules (And.intro D.out.2.1.rules D.out.2.2.rules); go_upto_region 16 with (go_at_call 69; (with_reducible refine (cv1 _).mono ?_); rintro e w5 ⟨rfl, hg5⟩; obtain ⟨⟨b12, f12⟩, ⟨b7, f7⟩⟩ := And.intro (D.out.1.grow hg5).rules (D.out.2.1.grow hg5).rules); refine zc (fun W => (zb W g6 226 #[.int .i64 h2, .int .i64 l2] /\ zb W g4 33 #[.int .i64 0, .int .i64 0, .string ⟨#[]⟩]) /\ zb W g12 33 #[.int .i64 v.k, .int .i64 v.n, .string v.s] /\ zb W g7 33 #[.int .i64 L.k, .int .i64 L.n, .string L.s] /\ zb W g8 33 #[.int .i64 M.k, .int .i64 M.n, .string M.s] /\ za w W) ⟨⟨(C.out.1.grow hg5), (C.out.2.grow hg5)⟩, (D.out.1.grow hg5), (D.out.2.1.grow hg5), (D.out.2.2.grow hg5), (G4.trans hg5)⟩ ?_; clear b12 f12 b7 f7 b8 f8; rintro X6 ⟨C6, d61, d62, d63, G6⟩; have C6 := hh_ C6; have D6 := hh_ (And.intro d61 (And.intro d62 d63)); obtain ⟨⟨b12, f12⟩, ⟨b8, f8⟩⟩ := And.intro d61.rules d63.rules; clear d61 d62 d63; go_upto_region 18 with (go_at_call 69; (with_reducible refine (cv2 _).mono ?_); rintro e w7 ⟨rfl, hg7⟩; obtain ⟨⟨b12, f12⟩, ⟨b8, f8⟩⟩ := And.intro (D6.out.1.grow hg7).rules (D6.out.2.2.grow hg7).rules); refine zc (fun W => (zb W g6 226 #[.int .i64 h2, .int .i64 l2] /\ zb W g4 33 #[.int .i64 0, .int .i64 0, .string ⟨#[]⟩]) /\ zb W g7 33 #[.int .i64 L.k, .int .i64 L.n, .string L.s] /\ zb W g8 33 #[.int .i64 M.k, .int .i64 M.n, .string M.s] /\ za w W) ⟨⟨(C6.out.1.grow hg7), (C6.out.2.grow hg7)⟩, (D6.out.2.1.grow hg7), (D6.out.2.2.grow hg7), (G6.trans hg7)⟩ ?_; clear b12 f12 b8 f8; rintro X8 ⟨⟨c81, c82⟩, d87, d88, G8⟩; have F8 := hh_ (show WK X8 g6 g7 g8 (yT a ((xs.take (k + 1)).map zh)) (k + 1) 226 by rw [E3.out]; exact ⟨⟨h2, l2, c81, S6.out.1, S6.out.2.1.1, S6.out.2.1.2, S6.out.2.2.1, S6.out.2.2.2⟩, ⟨L, d87, fun _ => EE.out.1 hkn⟩, ⟨M, d88, fun _ => EE.out.2 hkn⟩⟩); have C82 := hh_ c82; clear c81 c82 d87 d88; go_wp2; go_roundw
         case rel => exact ws_
         case measure => exact u1_
    case hp' => exact ⟨fun v w w' hg ⟨g, a, b, c⟩ => ⟨g, a, b, c.grow hg⟩, trivial⟩
  ·have et : (xs.take k).map zh = xs.map zh := by rw [show k = xs.length by omega, List.take_length]
   obtain ⟨st, hst⟩ : ∃ st, yT a (xs.map zh) = st := ⟨_, rfl⟩
   rw [et, hst] at St n1 n2 hkn HR2 ⊢; have eR : R = if a.k <= 2 then xT st.n else if st.known = false then yj else if a.k = 3 then xT st.s else if a.k = 4 then st.lo else st.hi := by rw [<- HR.out]; unfold Ze; rw [hst]
   have ER := hh_ eR; have ck := (HC.out.grow hg).k; obtain ⟨b4, f4⟩ := B4.out.rules; have sz : w.heap.size <= g4 := Nat.le_of_eq HG.out.1; have SZ := hh_ sz; clear eR hst et sz hkn
   by_cases h2 : a.k <= 2
   ·have d2 : decide (a.k <= 2) = true := decide_eq_true h2; have e : R = xT st.n := by rw [ER.out, if_pos h2]
    subst e
    go_wp2_with (go_at_call 72; ((with_reducible refine (XI _ _).mono ?_); rintro e w2 ⟨rfl, hg2⟩; obtain ⟨b4, f4⟩ := (B4.out.grow hg2).rules))
    refine qX_ ot_ rfl ?_; exact ⟨rfl, XT (hg.trans hg2) SZ.out _ _ _⟩
   ·have d2 : decide (a.k <= 2) = false := decide_eq_false h2; cases hkn : st.known with
    | false =>
     have e : R = yj := by rw [ER.out, if_neg h2, if_pos hkn]
     subst e
     go_wp2_with (go_at_call 73; ((with_reducible refine (Xj _).mono ?_); rintro e w2 ⟨rfl, hg2⟩; obtain ⟨b4, f4⟩ := (B4.out.grow hg2).rules))
     refine qX_ (by simp [results, Tryz.results214, go_sem, yj, b4, f4] <;> rfl) rfl ?_; exact ⟨rfl, XT (hg.trans hg2) SZ.out _ _ _⟩
    | true =>
     obtain ⟨⟨h, l, B6, e6, i1, i2, i3, i4⟩, ⟨L, B7, e7⟩, ⟨M, B8, e8⟩⟩ := St.out; have e7 := e7 hkn; have e8 := e8 hkn
     by_cases h3 : a.k = 3
     ·have d3 : (a.k == 3) = true := by simpa using h3
      have e : R = xT st.s := by rw [ER.out, if_neg h2, if_neg (by rw [hkn]; simp), if_pos h3]
      subst e; have ct := FG h l g6 wr B6 uX_ uX_; rw [e6] at ct; clear B6 B7 B8 e6 i1 i2 i3 i4 e7 e8
      go_wp2_with (go_at_call 219; ((with_reducible refine ct.mono ?_); rintro e w2 ⟨rfl, hg2⟩; obtain ⟨b4, f4⟩ := (B4.out.grow hg2).rules))
      refine qX_ ot_ rfl ?_; exact ⟨rfl, XT (hg.trans hg2) SZ.out _ _ _⟩
     ·have d3 : (a.k == 3) = false := by simpa using h3
      by_cases h4 : a.k = 4
      ·have d4 : (a.k == 4) = true := by simpa using h4
       have e : R = L := by rw [ER.out, if_neg h2, if_neg (by rw [hkn]; simp), if_neg h3, if_pos h4, e7]
       subst e; obtain ⟨b7, f7⟩ := B7.rules; clear B6 B7 B8 e6 i1 i2 i3 i4 e7 e8 St HR2; go_wp2; refine qX_ ot_ rfl ?_; exact ⟨rfl, XT hg SZ.out _ _ _⟩
      ·have d4 : (a.k == 4) = false := by simpa using h4
       have e : R = M := by rw [ER.out, if_neg h2, if_neg (by rw [hkn]; simp), if_neg h3, if_neg h4, e8]
       subst e; obtain ⟨b7, f7⟩ := B8.rules; clear B6 B7 B8 e6 i1 i2 i3 i4 e7 e8 St HR2; go_wp2; refine qX_ ot_ rfl ?_; exact ⟨rfl, XT hg SZ.out _ _ _⟩
end Go.Proofs.YtflggnopgnoeiaaGreat
namespace Go.Proofs.YtflggnopgnoeiaaGreat
open Go.ChangeShapes Go.WideShapes Go.ChangeAt Go.RowKit Go.Calm
set_option maxRecDepth 100000
section
variable {H : Type} {enc : TypeId × Value -> H} {w : World} {base : Nat} {spare : Nat -> Bool} {held : Bool}
theorem Uw {fuel : Nat} {cs : List Value} {x : DataW H × List MemPlace} (h : DataW.trod enc Tryz.prog w base spare held fuel 85 cs = some x) :
  ∃ a : Ag, cs = .int .i64 a.k :: a.x.cells /\ EX w a.x := by
 obtain ⟨xs, n, hfu, _, hlen, hxl, hf⟩ := DataW.trod_struct Tryz.underlying85 h; have h6 : cs.length = 7 := by rw [hlen]; kernel_rfl
 match cs, h6 with
 | [a, b, c, d, e, f, g'], _ =>
  have f0 := hf 0 _ rfl; have f1 := hf 1 _ rfl; have g : ∀ i, i < 2 -> ∃ y, xs[i]? = some y := fun i hi => ⟨xs[i]' uk_, qQ_ _⟩
  obtain ⟨y0, e0⟩ := g 0 uX_; obtain ⟨y1, e1⟩ := g 1 uX_; rw [e0] at f0; rw [e1] at f1; obtain ⟨k, hk, _, wk⟩ := DataW.trod_int Tryz.underlying3 f0; obtain ⟨x, hx, hX⟩ := JB _ f1; have c0 : Tryz.prog.cellsOf 3 = 1 := by kernel_rfl
  have c1 : Tryz.prog.cellsOf 35 = 6 := by kernel_rfl
  simp [c0] at hk; simp [c1] at hx; exact ⟨⟨k, x⟩, by rw [hk, <- hx], hX⟩
theorem RX {fuel : Nat} {cs : List Value} {x : DataW H × List MemPlace} (h : DataW.trod enc Tryz.prog w base spare held fuel 36 cs = some x) :
  ∃ (A : Option Addr) (xs : List Ag) (cap : Nat), cs = [.slice A xs.length cap] /\ XZ w A xs /\ xs.length <= maxLen /\ xs.length <= cap := by
 obtain ⟨A, len, cap, n, D, hcs, hl, hcap, hi⟩ := qX (c := 7) Tryz.underlying36 uQ_ uX_ h
 obtain ⟨xs, hxl, hx⟩ := Qm (α := Ag) (P := fun i x => ∃ g o, A = some ⟨g, o, none⟩ /\ kO w g (o + i * 7) x /\ EX w x.x) len (fun i hlt => by
  obtain ⟨g, o, ys, hA, hyl, hat, hd⟩ := hi i hlt; obtain ⟨x, hx, hv⟩ := Uw hd; subst hx
  exact ⟨x, g, o, hA, ⟨hat 0 _ rfl, hat 1 _ rfl, hat 2 _ rfl, hat 3 _ rfl, hat 4 _ rfl, hat 5 _ rfl, hat 6 _ rfl⟩, hv⟩)
 exact ⟨A, xs, cap, by rw [hcs, hxl], hx, by omega, by omega⟩
end
