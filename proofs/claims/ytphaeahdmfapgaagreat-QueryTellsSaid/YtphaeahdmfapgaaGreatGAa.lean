/- Parts of a proof. No condition. -/
import Derived.Test.YtphaeahdmfapgaaGreatGT
set_option maxRecDepth 100000
set_option maxHeartbeats 16000000
set_option maxRecDepth 100000
set_option linter.unusedSimpArgs false
set_option linter.unusedVariables false
namespace Go
variable {p : Prop}
theorem ob_ (h : p := by rw [At.out]; rw [if_neg n5, if_neg h1, if_neg (by simp), if_pos ⟨h3, t3, t1⟩]) : p := h
theorem oe_ (h : p := by rw [At.out, if_neg n5, if_neg h1, if_neg (by simp), if_neg (by omega)]) : p := h
theorem of_ (h : p := by rw [E3.out]; exact ((St.out.grow (Gz.trans G3)).same rfl rfl rfl rfl)) : p := h
theorem oj_ (h : p := by simp [results, Tryz.results161, go_sem, zR, b2r, f2r] <;> rfl) : p := h
theorem or_ (h : p := by simp [results, Tryz.results145, go_sem, b2r, f2r] <;> rfl) : p := h
theorem os_ (h : p := by rw [ES2.out]; exact (St.out.grow Gz).same rfl rfl rfl rfl) : p := h
theorem ov_ (h : p := by simp [results, Tryz.results138, go_sem, b4, f4] <;> rfl) : p := h
theorem oE_ (h : p := by rw [At.out]; rw [if_neg n5, if_neg h1, if_pos h0]) : p := h
theorem o2_ (h : p := by simp [results, Tryz.results35, go_sem] <;> rfl) : p := h
theorem vE_ (h : p := by simp [results, Tryz.results144, go_sem, hc]) : p := h
theorem v4_ (h : p := by rw [At.out]; rw [if_pos (.inl ha)]) : p := h
theorem v5_ (h : p := by rw [At.out]; rw [if_pos (.inr hb)]) : p := h
theorem v9_ (h : p := by rw [At.out, if_neg n5, if_pos h1]) : p := h
theorem ua_ (h : p := by rw [hl]; rw [kC] at hj; exact hj) : p := h
theorem ui_ (h : p := by have := G1.size; simp; omega) : p := h
theorem uj_ (h : p := by have := G2.size; simp; omega) : p := h
theorem uk_ (h : p := by first | decide | assumption) : p := h
theorem uS_ (h : p := by rw [hkn]; simp) : p := h
theorem wc_ (h : p := by
 exact ⟨k + 1, ts ++ [3], ⟨by simp [hts], by first | rw [zT _ Hxk.out, <- HTs.out, ATy.out, if_pos u4_] | rw [zT _ Hxk.out, <- HTs.out, ATy.out, if_neg u4_]⟩, by omega, by go_num, by simpa [hts] using Own7.out, xA.out oe_, hg7⟩) : p := h
theorem wP_ (h : p := by
 exact ⟨k + 1, by omega, by go_num, by rw [E3.out], by rw [E3.out], F8.out, C82.out, G8⟩) : p := h
theorem w4_ (h : p := by
 exact ⟨k + 1, ts ++ [3], ⟨by simp [hts], by first | rw [zT _ Hxk.out, <- HTs.out, ATy.out, if_pos u4_] | rw [zT _ Hxk.out, <- HTs.out, ATy.out, if_neg u4_]⟩, by omega, by go_num, by simpa [hts] using Own7.out, xA.out v9_, hg7⟩) : p := h
theorem w5_ (h : p := by
 exact ⟨k + 1, ts ++ [T], ⟨by simp [hts], by first | rw [zT _ Hxk.out, <- HTs.out, ATy.out, if_pos u4_] | rw [zT _ Hxk.out, <- HTs.out, ATy.out, if_neg u4_]⟩, by omega, by go_num, by simpa [hts] using Own7.out, xA.out oe_, hg7⟩) : p := h
theorem xa_ (h : p := by
 obtain ⟨h1, e1⟩ := qQ9.1 Hxk.out; rw [List.take_succ_eq_append_getElem h1, e1] at hy; rcases List.mem_append.1 hy with hy | hy
 ·exact Hz.out y hy
 ·simp at hy; subst hy; exact h) : p := h
theorem xM_ (h : p := by
 exact ⟨0, [], ⟨rfl, rfl⟩, Nat.zero_le _, rfl, World.ownsRow_nil _ _ _ _, fun x hx => by simp at hx, za.refl w⟩) : p := h
theorem yV_ (h : p := by
 have d3 : (x.k == 1) = true := by simpa using h1
 have d3' : (x.k != 1) = false := by simpa using h1
 have d4 : decide (4 <= x.k) = false := decide_eq_false u4_
 go_wp2_with (at_builtin; refine zq rfl _ _ rfl w.heap.size _ _ _ rfl (Own1.out.alloc _) _ [3] rfl (xw (zc.new _ _ _)) uV_ ui_ ?_; intro v7 w7 own7 gr7)
 have hg7 : za w w7 := zp (G1.al _) gr7 (Own1.out.alloc _); have Own7 := hh_ own7; clear own7 gr7; go_wp2; go_roundw
 case rel => exact w4_
 case measure => exact wa_) : p := h
end Go
namespace Go.Proofs.YtphaeahdmfapgaaGreat
open Go.RowKit Go.Calm
structure Ag where
 k : Int
 x : E
instance : Inhabited Ag := ⟨⟨0, .leaf⟩⟩
structure jZ (w : World) (g o : Nat) (a : Ag) : Prop where
 k : w.cell? ⟨g, o, none⟩ = some (.int .i64 a.k)
 c0 : w.cell? ⟨g, o + 1, none⟩ = some (.int .i64 a.x.kind)
 c1 : w.cell? ⟨g, o + 2, none⟩ = some (.int .i64 a.x.v.k)
 c2 : w.cell? ⟨g, o + 3, none⟩ = some (.int .i64 a.x.v.n)
 c3 : w.cell? ⟨g, o + 4, none⟩ = some (.string a.x.v.s)
 c4 : w.cell? ⟨g, o + 5, none⟩ = some (.int .i64 a.x.col)
 c5 : w.cell? ⟨g, o + 6, none⟩ = some (.slice a.x.A a.x.n a.x.cap)
theorem jZ.grow {w w' : World} (h : za w w') {g o : Nat} {a : Ag} (hc : jZ w g o a) : jZ w' g o a :=
 ⟨h.cell hc.k, h.cell hc.c0, h.cell hc.c1, h.cell hc.c2, h.cell hc.c3, h.cell hc.c4, h.cell hc.c5⟩
theorem jZ.e {w : World} {g o : Nat} {a : Ag} (h : jZ w g o a) : zK w g (o + 1) a.x := ⟨h.c0, h.c1, h.c2, h.c3, h.c4, h.c5⟩
abbrev Ag.val (a : Ag) : Value := .agg #[.int .i64 a.k, .int .i64 a.x.kind, .int .i64 a.x.v.k, .int .i64 a.x.v.n, .string a.x.v.s, .int .i64 a.x.col, .slice a.x.A a.x.n a.x.cap]
def qn (w : World) (A : Option Addr) (xs : List Ag) : Prop := ∀ i x, xs[i]? = some x -> ∃ g o, A = some ⟨g, o, none⟩ /\ jZ w g (o + i * 7) x /\ EX w x.x
theorem qn.grow {w w' : World} {A : Option Addr} {xs : List Ag} (h : qn w A xs) (hg : za w w') : qn w' A xs := fun i x hx => yr_
def Jj (cols : List Int) (a : Ag) : Int := if a.k < 1 \/ 5 < a.k then 1 else if a.k = 1 then 0 else if (zP cols a.x).2 ≠ 0 then (zP cols a.x).2 else if a.k = 3 /\ (zP cols a.x).1 ≠ 3 /\ (zP cols a.x).1 ≠ 1 then 9 else 0
def jy (cols : List Int) : List Ag -> Int
 | [] => 0
 | x :: l => if Jj cols x ≠ 0 then Jj cols x else jy cols l
theorem KU (cols : List Int) : ∀ xs : List Ag, (∀ x ∈ xs, Jj cols x = 0) -> jy cols xs = 0
 | [], _ => rfl
 | x :: l, h => by
  unfold jy; rw [if_neg vW_]; exact KU cols l (fun y hy => h y (List.mem_cons_of_mem _ hy))
theorem Q4 (cols : List Int) : ∀ (xs : List Ag) (k : Nat) (x : Ag), xs[k]? = some x -> (∀ y ∈ xs.take k, Jj cols y = 0) -> Jj cols x ≠ 0 -> jy cols xs = Jj cols x
 | [], k, x, h, _, _ => by simp at h
 | y :: l, 0, x, h, _, h2 => by
  simp at h; subst h; unfold jy; rw [if_pos h2]
 | y :: l, k + 1, x, h, h1, h2 => by
  unfold jy; rw [if_neg od_]; exact Q4 cols l k x uT_ (fun u hu => h1 u op_) h2
theorem Ye {cols : List Int} : ∀ {xs : List Ag}, jy cols xs = 0 -> ∀ x ∈ xs, Jj cols x = 0
 | [], _, x, hx => by simp at hx
 | y :: l, h, x, hx => by
  unfold jy at h; split at h
  ·exact xi_
  ·rename_i h1; rcases List.mem_cons.1 hx with rfl | hx
   ·simpa using h1
   ·exact Ye h x hx
def YA (cols : List Int) (a : Ag) : Int := if a.k <= 3 then 3 else (zP cols a.x).1
def Y7 (R : Int) (ts : List Int) (w w' : World) (en : Ending) : Prop := ∃ (B : Option Addr) (cap : Nat), en = .returned (.tuple #[.slice B (if R = 0 then ts else []).length cap, .int .i64 R]) /\ yD w' B (if R = 0 then ts else []) /\ XC w B /\ za w w'
theorem Y7.bad {R : Int} {ts : List Int} {w w' : World} (h : R ≠ 0) (hg : za w w') : Y7 R ts w w' (.returned (.tuple #[.slice none 0 0, .int .i64 R])) := ⟨none, 0, by rw [if_neg h]; rfl, by rw [if_neg h]; exact jC _ _, (fun a ha => by cases ha), hg⟩
theorem xw {w : World} {g : Nat} {x : Int} (h : zc w g 3 #[.int .i64 x]) : TW w (.slice (some ⟨g, 0, none⟩) 1 1) [x] := by
 refine .inr ⟨⟨g, 0, none⟩, 1, rfl, fun j u hj => ?_⟩; rw [zW, h.cell]
 match j, hj with
 | 0, hj => simp [yw] at hj; subst hj; rfl
theorem YC (cols : List Int) (Ac : Option Addr) (cc : Nat) (xs : List Ag) (A : Option Addr) (c : Nat) (w : World) (hlen : cols.length <= 9223372036854775807) (hl : xs.length <= 8) (hc : yD w Ac cols) (hx : qn w A xs) :
  Calls Tryz.prog 35 #[.slice Ac cols.length cc, .slice A xs.length c] w fun en w' => Y7 (jy cols xs) (xs.map (YA cols)) w w' en := by
 have Hx := hh_ hx; have Hc := hh_ hc; have Ti := hh_ x9; clear hx hc; obtain ⟨R, hR⟩ : ∃ R, jy cols xs = R := ⟨_, rfl⟩
 rw [hR]; have Re := hh_ hR; clear hR; go_enter Tryz.func35, Tryz.ntmps35; go_wp2
 go_loopw [6, 14] (fun t i wr => ∃ (k : Nat) (ts : List Int), (ts.length = k /\ ts = (xs.take k).map (YA cols)) /\ k <= xs.length /\ i = .int .i64 k /\ wr.ownsRow w.heap.size 3 1 t k (yw ts) /\ (∀ x ∈ xs.take k, Jj cols x = 0) /\ za w wr) (fun _ i _ => xs.length - (intOf i).toNat)
 case atStart => exact xM_
 case round =>
  obtain ⟨k, ts, ⟨hts, hTs⟩, hk, rfl, hown, hz, hg⟩ := hrel; have Own := hh_ hown; have HTs := hh_ hTs; clear hTs; have Hz := hh_ hz; clear hown hz
  by_cases hlt : k < xs.length
  ·obtain ⟨x, hxk⟩ : ∃ x, xs[k]? = some x := ⟨_, qQ_ hlt⟩
   obtain ⟨gx, ox, rfl, ⟨ck, c0, c1, c2, c3, c4, c5⟩, hex⟩ := (Hx.out.grow hg) k x hxk; obtain ⟨T, F, hTF⟩ : ∃ T F, zP cols x.x = (T, F) := ⟨_, _, rfl⟩
   have ct := fun W (h : za wr W) => ZD cols Ac cc x.x W hlen (Hc.out.grow (hg.trans h)) (hex.grow h)
   rw [hTF] at ct; simp only at ct; have Hxk := hh_ hxk; have bad : ∀ e : Int, e ≠ 0 -> Jj cols x = e -> R = e := fun e h1 h2 => by rw [<- Re.out, Q4 cols xs k x Hxk.out Hz.out (by rw [h2]; exact h1), h2]
   have good : Jj cols x = 0 -> ∀ y ∈ xs.take (k + 1), Jj cols y = 0 := fun h y hy => xa_
   have at0 : Jj cols x = if x.k < 1 \/ 5 < x.k then 1 else if x.k = 1 then 0 else if F ≠ 0 then F else if x.k = 3 /\ T ≠ 3 /\ T ≠ 1 then 9 else 0 := by unfold Jj; rw [hTF]
   have aty : YA cols x = if x.k <= 3 then 3 else T := by unfold YA; rw [hTF]
   have ATy := hh_ aty; clear aty; have hl2 := Own.out.lt; have HL2 := hh_ hl2; have Bad := hh_ bad; have xA := hh_ good; have At := hh_ at0; clear hxk hex hTF hl2 bad good at0; obtain ⟨ti, hti, hz0, hz1, hz2⟩ := Ti.out; go_upto_region 5 with fail
   refine zb (fun X => zc X wr.heap.size 75 #[.int .i64 x.k, .int .i64 x.x.kind, .int .i64 x.x.v.k, .int .i64 x.x.v.n, .string x.x.v.s, .int .i64 x.x.col, .slice x.x.A x.x.n x.x.cap] /\ za wr X) ⟨zc.new _ _ _, (za.refl wr).al _⟩ ?_; rintro X ⟨Bx, Gx⟩; have BX := hh_ Bx; obtain ⟨bx, fx⟩ := Bx.rules; have Own1 := hh_ (zh Own.out Gx); have G1 := hg.trans Gx; clear ck c0 c1 c2 c3 c4 c5 Bx; unfold E.val at ct
   by_cases ha : x.k < 1
   ·have d1 : decide (x.k < 1) = true := decide_eq_true ha; have e : R = 1 := Bad.out _ u3_ v4_; subst e; go_wp2; refine qX_ o2_ rfl ?_; exact Y7.bad uk_ G1
   ·have d1 : decide (x.k < 1) = false := decide_eq_false ha
    by_cases hb : 5 < x.k
    ·have d2 : decide (5 < x.k) = true := decide_eq_true hb; have e : R = 1 := Bad.out _ u3_ v5_; subst e; go_wp2; refine qX_ o2_ rfl ?_; exact Y7.bad uk_ G1
    ·have d2 : decide (5 < x.k) = false := decide_eq_false hb; have n5 : ¬ (x.k < 1 \/ 5 < x.k) := by omega
     by_cases h1 : x.k = 1
     ·exact yV_
     ·have d3 : (x.k == 1) = false := by simpa using h1
      have d3' : (x.k != 1) = true := by simpa using h1
      by_cases h0 : F = 0
      ·have d0 : (F != 0) = false := by simpa using h0
       subst h0
       by_cases h3 : x.k = 3
       ·have d5 : (x.k == 3) = true := by simpa using h3
        have d4 : decide (4 <= x.k) = false := decide_eq_false u4_; have d2' : (x.k == 2) = false := by simp; omega
        by_cases t3 : T = 3
        ·have e3 : (T != 3) = false := by simpa using t3
         have e1 : (T != 1) = true := by simp; omega
         go_wp2_with (first | (go_at_call 34; ((with_reducible refine (ct _ Gx).mono ?_); rintro e w2 ⟨rfl, hg2⟩; obtain ⟨bx2, fx2⟩ := (BX.out.grow hg2).rules; have Own2 := hh_ (zh Own1.out hg2); have G2 := G1.trans hg2; clear hg2)) | (at_builtin; refine zq rfl _ _ rfl w.heap.size _ _ _ rfl (Own2.out.alloc _) _ [3] rfl (xw (zc.new _ _ _)) uV_ uj_ ?_; intro v7 w7 own7 gr7))
         have hg7 : za w w7 := zp (G2.al _) gr7 (Own2.out.alloc _); have Own7 := hh_ own7; clear own7 gr7; go_wp2; go_roundw
         case rel => exact wc_
         case measure => exact wa_
        ·have e3 : (T != 3) = true := by simpa using t3
         by_cases t1 : T = 1
         ·have e1 : (T != 1) = false := by simpa using t1
          go_wp2_with (first | (go_at_call 34; ((with_reducible refine (ct _ Gx).mono ?_); rintro e w2 ⟨rfl, hg2⟩; obtain ⟨bx2, fx2⟩ := (BX.out.grow hg2).rules; have Own2 := hh_ (zh Own1.out hg2); have G2 := G1.trans hg2; clear hg2)) | (at_builtin; refine zq rfl _ _ rfl w.heap.size _ _ _ rfl (Own2.out.alloc _) _ [3] rfl (xw (zc.new _ _ _)) uV_ uj_ ?_; intro v7 w7 own7 gr7))
          have hg7 : za w w7 := zp (G2.al _) gr7 (Own2.out.alloc _); have Own7 := hh_ own7; clear own7 gr7; go_wp2; go_roundw
          case rel => exact wc_
          case measure => exact wa_
         ·have e1 : (T != 1) = true := by simpa using t1
          have e : R = 9 := Bad.out _ u3_ ob_; subst e
          go_wp2_with (go_at_call 34; ((with_reducible refine (ct _ Gx).mono ?_); rintro e w2 ⟨rfl, hg2⟩; obtain ⟨bx2, fx2⟩ := (BX.out.grow hg2).rules; have Own2 := hh_ (zh Own1.out hg2); have G2 := G1.trans hg2; clear hg2))
          refine qX_ o2_ rfl ?_; exact Y7.bad uk_ G2
       ·have d5 : (x.k == 3) = false := by simpa using h3
        by_cases h2 : x.k = 2
        ·have d4 : decide (4 <= x.k) = false := decide_eq_false u4_; have d2' : (x.k == 2) = true := by simpa using h2
         go_wp2_with (first | (go_at_call 34; ((with_reducible refine (ct _ Gx).mono ?_); rintro e w2 ⟨rfl, hg2⟩; obtain ⟨bx2, fx2⟩ := (BX.out.grow hg2).rules; have Own2 := hh_ (zh Own1.out hg2); have G2 := G1.trans hg2; clear hg2)) | (at_builtin; refine zq rfl _ _ rfl w.heap.size _ _ _ rfl (Own2.out.alloc _) _ [3] rfl (xw (zc.new _ _ _)) uV_ uj_ ?_; intro v7 w7 own7 gr7))
         have hg7 : za w w7 := zp (G2.al _) gr7 (Own2.out.alloc _); have Own7 := hh_ own7; clear own7 gr7; go_wp2; go_roundw
         case rel => exact wc_
         case measure => exact wa_
        ·have d4 : decide (4 <= x.k) = true := decide_eq_true u4_; have d2' : (x.k == 2) = false := by simpa using h2
         go_wp2_with (first | (go_at_call 34; ((with_reducible refine (ct _ Gx).mono ?_); rintro e w2 ⟨rfl, hg2⟩; obtain ⟨bx2, fx2⟩ := (BX.out.grow hg2).rules; have Own2 := hh_ (zh Own1.out hg2); have G2 := G1.trans hg2; clear hg2)) | (at_builtin; refine zq rfl _ _ rfl w.heap.size _ _ _ rfl (Own2.out.alloc _) _ [T] rfl (xw (zc.new _ _ _)) uV_ uj_ ?_; intro v7 w7 own7 gr7))
         have hg7 : za w w7 := zp (G2.al _) gr7 (Own2.out.alloc _); have Own7 := hh_ own7; clear own7 gr7; go_wp2; go_roundw
         case rel => exact w5_
         case measure => exact wa_
      ·have d0 : (F != 0) = true := by simpa using h0
       have e : R = F := Bad.out _ h0 oE_; subst e
       go_wp2_with (go_at_call 34; ((with_reducible refine (ct _ Gx).mono ?_); rintro e w2 ⟨rfl, hg2⟩; obtain ⟨bx2, fx2⟩ := (BX.out.grow hg2).rules; have Own2 := hh_ (zh Own1.out hg2); have G2 := G1.trans hg2; clear hg2))
       refine qX_ o2_ rfl ?_; exact Y7.bad uk_ G2
  ·obtain rfl : k = xs.length := by omega
   have e9 : ts = xs.map (YA cols) := by have := HTs.out; rwa [List.take_length] at this
   subst e9; obtain ⟨B9, cap9, rfl, hi9, _⟩ := Yq (ys := xs.map (YA cols)) (w := wr) Own.out; have Fin9 := hh_ (And.intro hi9 (xO Own.out)); clear hi9; have e : R = 0 := by rw [<- Re.out, KU cols xs oq_]
   subst e; go_wp2; refine qX_ o2_ rfl ?_; exact ⟨B9, cap9, by simp, by simpa using Fin9.out.1, Fin9.out.2, hg⟩
theorem KW (cols : List Int) (Ac : Option Addr) (cc : Nat) (xs : List Ag) (A : Option Addr) (c : Nat) (w : World) (hlen : cols.length <= 9223372036854775807) (hl : xs.length <= 8) (hc : yD w Ac cols) (hx : qn w A xs) :
  Calls Tryz.prog 35 #[.slice Ac cols.length cc, .slice A xs.length c] w fun en w' => ∃ v : Value, en = .returned (.tuple #[v, .int .i64 (jy cols xs)]) /\ za w w' := (YC cols Ac cc xs A c w hlen hl hc hx).mono fun e w' ⟨B, cap, h1, _, _, h2⟩ => ⟨_, h1, h2⟩
theorem Z4 {a b A B : Int} (ha : -A <= a /\ a <= A) (hb : -B <= b /\ b <= B) : -(A * B) <= a * b /\ a * b <= A * B := by
 have hA : 0 <= A := by omega
 have hB : 0 <= B := by omega
 have h1 : a.natAbs <= A.natAbs := by omega
 have h2 : b.natAbs <= B.natAbs := by omega
 have h3 : (a * b).natAbs <= (A * B).natAbs := by rw [Int.natAbs_mul, Int.natAbs_mul]; exact Nat.mul_le_mul h1 h2
 have h4 : 0 <= A * B := Int.mul_nonneg hA hB; omega
theorem Ns (n : Int) (P : Int) : P * n.tdiv P + n.tmod P = n := Int.mul_tdiv_add_tmod n P
theorem ZB (n P : Int) (hP : 0 < P) : -(P - 1) <= n.tmod P /\ n.tmod P <= P - 1 := by
 have h1 := Int.tmod_lt_of_pos n hP; have h2 := Int.lt_tmod_of_pos n hP; omega
theorem KF {n P K : Int} (hP : 0 < P) (hn : -(P * K) <= n /\ n <= P * K) : -K <= n.tdiv P /\ n.tdiv P <= K := by
 have h1 := Ns n P; have h2 := ZB n P hP
 constructor
 ·refine Int.not_lt.1 (fun h => ?_); have h3 : P * n.tdiv P <= P * (-K - 1) := Int.mul_le_mul_of_nonneg_left u4_ u4_; have h4 : P * (-K - 1) = -(P * K) - P := by rw [Int.mul_sub, Int.mul_neg, Int.mul_one]
  omega
 ·refine Int.not_lt.1 (fun h => ?_); have h3 : P * (K + 1) <= P * n.tdiv P := Int.mul_le_mul_of_nonneg_left u4_ u4_; have h4 : P * (K + 1) = P * K + P := by rw [Int.mul_add, Int.mul_one]
  omega
theorem DD (h l : Int) : (if h + l.tdiv 100000000 > 200000000 \/ h + l.tdiv 100000000 < -200000000 then zR else yp ((h + l.tdiv 100000000) * 100000000 + l.tmod 100000000)) = yp (h * 100000000 + l) := by
 have h1 := Ns l 100000000; have h2 := ZB l 100000000 u3_; have e : (h + l.tdiv 100000000) * 100000000 + l.tmod 100000000 = h * 100000000 + l := by omega
 split
 ·rename_i hh; unfold yp; rw [if_neg u4_]; rfl
 ·rw [e]
def xQ : List Int -> Int
 | [] => 0
 | d :: ds => d + 1000 * xQ ds
theorem Zy : ∀ (ds : List Int) (k : Nat) (x : Int) (hk : k < ds.length), xQ (ds.set k x) = xQ ds + (x - ds[k]) * 1000 ^ k
 | [], k, x, hk => by simp at hk
 | d :: ds, 0, x, hk => by simp [xQ]; omega
 | d :: ds, k + 1, x, hk => by
  have hk' : k < ds.length := by simpa using hk
  have := Zy ds k x hk'; simp only [List.set_cons_succ, xQ, this, List.getElem_cons_succ, Int.pow_succ]; rw [Int.mul_add, <- Int.add_assoc, Int.mul_comm ((1000 : Int) ^ k) 1000, <- Int.mul_assoc, <- Int.mul_assoc, Int.mul_comm 1000 (x - ds[k]'hk')]
def jW (n : Int) : Nat -> Int
 | 0 => n
 | k + 1 => (jW n k).tdiv 1000
def XS (ds : List Int) (n t : Int) : Nat -> List Int
 | 0 => ds
 | k + 1 => (XS ds n t k).set k (ds.getD k 0 + t * (jW n k).tmod 1000)
theorem Zo (ds : List Int) (n t : Int) : ∀ k, (XS ds n t k).length = ds.length
 | 0 => rfl
 | k + 1 => by simp [XS, Zo ds n t k]
theorem LA (ds : List Int) (n t : Int) : ∀ k j, k <= j -> (XS ds n t k)[j]? = ds[j]?
 | 0, j, h => rfl
 | k + 1, j, h => by rw [XS, List.getElem?_set_ne u4_]; exact LA ds n t k j u4_
theorem Na (ds : List Int) (n t : Int) : ∀ k, k <= ds.length -> xQ (XS ds n t k) + t * (jW n k * 1000 ^ k) = xQ ds + t * n
 | 0, _ => by simp [XS, jW]
 | k + 1, h => by
  have ih := Na ds n t k u4_; have hl := Zo ds n t k; have hg := LA ds n t k k (Nat.le_refl _); have hk : k < (XS ds n t k).length := by omega
  rw [XS, Zy _ _ _ hk]
  have e1 : (XS ds n t k)[k] = ds.getD k 0 := by
   rw [qQ_ hk] at hg; rw [List.getD_eq_getElem?_getD, <- hg]; rfl
  rw [e1]; have e2 := Ns (jW n k) 1000; have e3 : t * (jW n k * 1000 ^ k) = t * (1000 * (jW n k).tdiv 1000 + (jW n k).tmod 1000) * 1000 ^ k := by rw [e2, Int.mul_assoc]
  rw [show ds.getD k 0 + t * (jW n k).tmod 1000 - ds.getD k 0 = t * (jW n k).tmod 1000 by omega]; show _ + t * ((jW n k).tdiv 1000 * 1000 ^ (k + 1)) = _; rw [e3] at ih; rw [<- ih, Int.add_assoc]; congr 1; rw [Int.pow_succ, Int.mul_add, Int.add_mul, Int.add_comm]; congr 1; rw [Int.mul_assoc, Int.mul_assoc 1000, Int.mul_comm 1000, Int.mul_assoc ((jW n k).tdiv 1000)]
theorem UA (n : Int) (hn : -1000000000000000 <= n /\ n <= 1000000000000000) : (∀ k, -1000000000000000 <= jW n k /\ jW n k <= 1000000000000000) /\ jW n 9 = 0 := by
 have st : ∀ (x K : Int), 0 <= K -> -(1000 * K) <= x /\ x <= 1000 * K -> -K <= x.tdiv 1000 /\ x.tdiv 1000 <= K := fun x K hK h => KF u3_ h
 have all : ∀ k, -1000000000000000 <= jW n k /\ jW n k <= 1000000000000000 := fun k => by
  induction k with
  | zero => exact hn
  | succ k ih => have := st (jW n k) 1000000000000000 u4_ u4_; exact this
 refine ⟨all, ?_⟩; have a1 := st (jW n 0) 1000000000000 u4_ (by have := all 0; omega); have a2 := st (jW n 1) 1000000000 u4_ (by have : jW n 1 = (jW n 0).tdiv 1000 := rfl; omega); have a3 := st (jW n 2) 1000000 u4_ (by have : jW n 2 = (jW n 1).tdiv 1000 := rfl; omega); have a4 := st (jW n 3) 1000 u4_ (by have : jW n 3 = (jW n 2).tdiv 1000 := rfl; omega); have a5 := st (jW n 4) 1 u4_ (by have : jW n 4 = (jW n 3).tdiv 1000 := rfl; omega); have h5 : jW n 5 = (jW n 4).tdiv 1000 := rfl
 have z : ∀ x : Int, -1 <= x /\ x <= 1 -> x.tdiv 1000 = 0 := fun x h => by
  have h3 : x = -1 \/ x = 0 \/ x = 1 := by omega
  rcases h3 with rfl | rfl | rfl <;> decide
 have h6 : jW n 6 = 0 := z (jW n 5) u4_; show (((jW n 6).tdiv 1000).tdiv 1000).tdiv 1000 = 0; rw [h6]; decide
abbrev TM (K : Int) (ds : List Int) : Prop := ∀ d ∈ ds, -K <= d /\ d <= K
theorem TM.get {K : Int} {ds : List Int} (h : TM K ds) {k : Nat} {d : Int} (hd : ds[k]? = some d) : -K <= d /\ d <= K := h d (qZ_ hd)
theorem Rs {ds : List Int} {n t K : Int} (hK : 0 <= K) (h : TM K ds) (ht : -1000000 <= t /\ t <= 1000000) : ∀ k, TM (K + 999000000) (XS ds n t k)
 | 0 => fun d hd => by have := h d hd; omega
 | k + 1 => fun d hd => by
  rcases List.mem_or_eq_of_mem_set hd with hd | rfl
  ·exact Rs hK h ht k d hd
  ·have h1 := ZB (jW n k) 1000 u3_; have h2 := Z4 (A := 1000000) (B := 999) (a := t) (b := (jW n k).tmod 1000) ht u4_
   have h3 : -K <= ds.getD k 0 /\ ds.getD k 0 <= K := by
    rw [List.getD_eq_getElem?_getD]; cases e : ds[k]? with
    | none => simp; omega
    | some x => exact h.get e
   omega
def xj (ds : List Int) : Nat -> List Int
 | 0 => ds
 | k + 1 => ((xj ds k).set (k + 1) ((xj ds k).getD (k + 1) 0 + ((xj ds k).getD k 0).tdiv 1000)).set k (((xj ds k).getD k 0).tmod 1000)
theorem kC (ds : List Int) : ∀ k, (xj ds k).length = ds.length
 | 0 => rfl
 | k + 1 => by simp [xj, kC ds k]
theorem j6 {ds : List Int} {k : Nat} (h : k < ds.length) : ds.getD k 0 = ds[k] := by rw [List.getD_eq_getElem?_getD, qQ_ h]; rfl
theorem Mk (ds : List Int) : ∀ k, k < ds.length -> xQ (xj ds k) = xQ ds
 | 0, _ => rfl
 | k + 1, h => by
  have ih := Mk ds k u4_; have hl := kC ds k; rw [xj, Zy _ _ _ (by rw [List.length_set]; omega), Zy _ _ _ u4_, ih, List.getElem_set_ne u4_, j6 (by omega : k < (xj ds k).length), j6 (by omega : k + 1 < (xj ds k).length)]; have e := Ns ((xj ds k)[k]' u4_) 1000; generalize (xj ds k)[k]' u4_ = x at *; rw [show (xj ds k)[k + 1]' u4_ + x.tdiv 1000 - (xj ds k)[k + 1]' u4_ = x.tdiv 1000 by omega, Int.pow_succ]; have e2 : x.tmod 1000 - x = -(x.tdiv 1000 * 1000) := by omega
  rw [e2, Int.neg_mul, Int.mul_comm ((1000 : Int) ^ k) 1000, <- Int.mul_assoc]; omega
theorem Rd (ds : List Int) (K : Int) (hK : 0 <= K) (h : TM K ds) : ∀ k, k < ds.length -> ∀ j (hj : j < (xj ds k).length), (j < k -> -999 <= (xj ds k)[j] /\ (xj ds k)[j] <= 999) /\ (j = k -> -(2 * K) <= (xj ds k)[j] /\ (xj ds k)[j] <= 2 * K) /\ (k < j -> -K <= (xj ds k)[j] /\ (xj ds k)[j] <= K)
 | 0, _, j, hj => by
  have := h (xj ds 0)[j] (List.getElem_mem hj); refine ⟨fun h => by omega, fun h => by omega, fun h => by omega⟩
 | k + 1, h1, j, hj => by
  have hl := kC ds k; have ih := Rd ds K hK h k u4_; have ik := ih k u4_; have ik1 := ih (k + 1) u4_; have g0 := j6 (by omega : k < (xj ds k).length); have g1 := j6 (by omega : k + 1 < (xj ds k).length); refine ⟨fun h2 => ?_, fun h2 => ?_, fun h2 => ?_⟩
  ·by_cases h3 : j = k
   ·subst h3; simp only [xj, List.getElem_set_self]; exact ZB _ 1000 u3_
   ·simp only [xj]; rw [List.getElem_set_ne u4_, List.getElem_set_ne u4_]; exact (ih j ua_).1 u4_
  ·subst h2; simp only [xj]; rw [List.getElem_set_ne u4_, List.getElem_set_self, g0, g1]; have b1 := ik.2.1 rfl; have b2 := ik1.2.2 u4_; have b3 := KF (n := (xj ds k)[k]' u4_) (P := 1000) (K := K) u3_ u4_; omega
  ·simp only [xj]; rw [List.getElem_set_ne u4_, List.getElem_set_ne u4_]; exact (ih j ua_).2.2 u4_
theorem Tx {ds : List Int} {k : Nat} (h : k < ds.length) : xQ (ds.drop k) = ds[k] + 1000 * xQ (ds.drop (k + 1)) := by
 rw [List.drop_eq_getElem_cons h]; rfl
theorem WU : ∀ (ds : List Int) (k : Nat), k <= ds.length -> xQ ds = xQ (ds.take k) + 1000 ^ k * xQ (ds.drop k)
 | ds, 0, _ => by simp [xQ]
 | [], k + 1, h => by simp at h
 | d :: ds, k + 1, h => by
  have := WU ds k uT_; simp only [List.take_succ_cons, List.drop_succ_cons, xQ]; rw [this, Int.mul_add, Int.pow_succ, Int.mul_comm ((1000 : Int) ^ k) 1000, Int.mul_assoc, Int.add_assoc]
theorem WT : ∀ (ds : List Int), TM 999 ds -> -(1000 ^ ds.length - 1) <= xQ ds /\ xQ ds <= 1000 ^ ds.length - 1
 | [], _ => by simp [xQ]
 | d :: ds, h => by
  have h1 := WT ds (fun x hx => h x (List.mem_cons_of_mem _ hx)); have h2 := h d (List.mem_cons_self ..); simp only [xQ, List.length_cons, Int.pow_succ]; omega
theorem Tz (ds : List Int) (k : Nat) (hk : k <= ds.length) (h0 : 0 < k) (hs : TM 999 (ds.take k)) (hv : xQ (ds.drop k) > 2000000000000 \/ xQ (ds.drop k) < -2000000000000) : yp (xQ ds) = zR := by
 have h1 := WU ds k hk; have h2 := WT _ hs; rw [List.length_take, Nat.min_eq_left hk] at h2
 obtain ⟨p, hp, hP⟩ : ∃ p : Int, (1000 : Int) ^ k = p /\ 1000 <= p := ⟨_, rfl, by
  obtain ⟨j, rfl⟩ : ∃ j, k = j + 1 := ⟨k - 1, by omega⟩
  rw [Int.pow_succ]; have : (0 : Int) < 1000 ^ j := Int.pow_pos u3_
  omega⟩
 rw [hp] at h1 h2; unfold yp; rw [if_neg ?_]; rfl; rintro ⟨h3, h4⟩; rcases hv with hv | hv
 ·have h5 : p * 2000000000001 <= p * xQ (ds.drop k) := Int.mul_le_mul_of_nonneg_left u4_ u4_; omega
 ·have h5 : p * xQ (ds.drop k) <= p * (-2000000000001) := Int.mul_le_mul_of_nonneg_left u4_ u4_; omega
theorem KZ (ds : List Int) (k : Nat) (x : Int) : (ds.map (Value.int .i64)).toArray.setIfInBounds k (.int .i64 x) = ((ds.set k x).map (Value.int .i64)).toArray := by
 simp [List.map_set]
theorem V0 (h l n t : Int) (g : Nat) (w : World) (hb : zc w g 173 #[.int .i64 h, .int .i64 l]) (hh : -4000000000000000 <= h /\ h <= 4000000000000000) (hl : -40000000000000000 <= l /\ l <= 40000000000000000) (hn : -1000000000000000 <= n /\ n <= 1000000000000000) (ht : -1000000 <= t /\ t <= 1000000) :
  Calls Tryz.prog 160 #[.pointer (some ⟨g, 0, none⟩), .int .i64 n, .int .i64 t] w fun en w' => en = .returned (.tuple #[]) /\ zc w' g 173 #[.int .i64 (h + t * n.tdiv 100000000), .int .i64 (l + t * n.tmod 100000000)] /\ GX g w w' := by
 have b1 := KF (n := n) (P := 100000000) (K := 10000000) u3_ u4_; have b2 := ZB n 100000000 u3_; have m1 := Z4 (a := t) (b := n.tdiv 100000000) (A := 1000000) (B := 10000000) ht b1; have m2 := Z4 (a := t) (b := n.tmod 100000000) (A := 1000000) (B := 99999999) ht u4_; obtain ⟨q, hq⟩ : ∃ q, n.tdiv 100000000 = q := ⟨_, rfl⟩
 obtain ⟨m, hm⟩ : ∃ m, n.tmod 100000000 = m := ⟨_, rfl⟩
 rw [hq] at b1 m1 ⊢; rw [hm] at b2 m2 ⊢; have w1 : IntKind.i64.wrap q = q := by rw [IntKind.wrap_i64]; omega
 have w2 : IntKind.i64.wrap m = m := by rw [IntKind.wrap_i64]; omega
 have w3 : IntKind.i64.wrap (t * q) = t * q := by rw [IntKind.wrap_i64]; omega
 have w4 : IntKind.i64.wrap (t * m) = t * m := by rw [IntKind.wrap_i64]; omega
 have w5 : IntKind.i64.wrap (h + t * q) = h + t * q := by rw [IntKind.wrap_i64]; omega
 have w6 : IntKind.i64.wrap (l + t * m) = l + t * m := by rw [IntKind.wrap_i64]; omega
 have BB := hh_ hb; have GG := hh_ (GX.refl g w); obtain ⟨b0, f0⟩ := hb.rules; clear hb; go_enter Tryz.func160, Tryz.ntmps160; go_wp2; go_end0; refine ⟨rfl, ?_, ((GX.refl g w).set _ _).set _ _⟩; have := ((BB.out.set 0 (.int .i64 (h + t * q))).set 1 (.int .i64 (l + t * m)))
 simpa using this
theorem Bc (h l : Int) (g : Nat) (w : World) (hb : zc w g 173 #[.int .i64 h, .int .i64 l]) (hh : -4000000000000000 <= h /\ h <= 4000000000000000) (hl : -40000000000000000 <= l /\ l <= 40000000000000000) :
  Calls Tryz.prog 161 #[.pointer (some ⟨g, 0, none⟩)] w fun en w' => en = .returned (yp (h * 100000000 + l)).val /\ za w w' := by
 have e := DD h l; have b1 := KF (n := l) (P := 100000000) (K := 400000000) u3_ u4_; have b2 := ZB l 100000000 u3_; obtain ⟨q, hq⟩ : ∃ q, l.tdiv 100000000 = q := ⟨_, rfl⟩
 obtain ⟨m, hm⟩ : ∃ m, l.tmod 100000000 = m := ⟨_, rfl⟩
 rw [hq] at b1 e; rw [hm] at b2 e; have w1 : IntKind.i64.wrap q = q := by rw [IntKind.wrap_i64]; omega
 have w2 : IntKind.i64.wrap m = m := by rw [IntKind.wrap_i64]; omega
 have w3 : IntKind.i64.wrap (h + q) = h + q := by rw [IntKind.wrap_i64]; omega
 have ci := fun n W => Xh n W
 have cn := fun W => kJ W
 obtain ⟨R, hR⟩ : ∃ R, yp (h * 100000000 + l) = R := ⟨_, rfl⟩
 rw [hR] at e ⊢; have BB := hh_ hb; clear hb hR
 by_cases h1 : 200000000 < h + q
 ·have d1 : decide (200000000 < h + q) = true := decide_eq_true h1; rw [if_pos (.inl h1)] at e; subst e; go_enter Tryz.func161, Tryz.ntmps161; go_upto_region 1 with fail
  refine zb (fun X => zc X g 173 #[.int .i64 h, .int .i64 l] /\ zc X w.heap.size 24 #[.int .i64 0, .int .i64 0, .string ⟨#[]⟩] /\ za w X) ⟨BB.out.al _, zc.new _ _ _, (za.refl w).al _⟩ ?_; rintro X ⟨BX, BR, Gx⟩; obtain ⟨b0, f0⟩ := BX.rules; obtain ⟨b1r, f1r⟩ := BR.rules
  go_quiet (fail)
  go_wp2_with (go_at_call 122; ((with_reducible refine (kJ _).mono ?_); rintro e w' ⟨rfl, hg⟩; obtain ⟨b2r, f2r⟩ := (BR.grow (((za.refl X).drewN _).trans hg)).rules))
  exact qX_ oj_ rfl ⟨rfl, zd⟩
 ·have d1 : decide (200000000 < h + q) = false := decide_eq_false h1
  by_cases h2 : h + q < -200000000
  ·have d2 : decide (h + q < -200000000) = true := decide_eq_true h2; rw [if_pos (.inr h2)] at e; subst e; go_enter Tryz.func161, Tryz.ntmps161; go_upto_region 1 with fail
   refine zb (fun X => zc X g 173 #[.int .i64 h, .int .i64 l] /\ zc X w.heap.size 24 #[.int .i64 0, .int .i64 0, .string ⟨#[]⟩] /\ za w X) ⟨BB.out.al _, zc.new _ _ _, (za.refl w).al _⟩ ?_; rintro X ⟨BX, BR, Gx⟩; obtain ⟨b0, f0⟩ := BX.rules; obtain ⟨b1r, f1r⟩ := BR.rules
   go_quiet (fail)
   go_wp2_with (go_at_call 122; ((with_reducible refine (kJ _).mono ?_); rintro e w' ⟨rfl, hg⟩; obtain ⟨b2r, f2r⟩ := (BR.grow (((za.refl X).drewN _).trans hg)).rules))
   exact qX_ oj_ rfl ⟨rfl, zd⟩
  ·have d2 : decide (h + q < -200000000) = false := decide_eq_false h2; rw [if_neg u4_] at e; subst e; have w4 : IntKind.i64.wrap ((h + q) * 100000000) = (h + q) * 100000000 := by rw [IntKind.wrap_i64]; omega
   have w5 : IntKind.i64.wrap ((h + q) * 100000000 + m) = (h + q) * 100000000 + m := by rw [IntKind.wrap_i64]; omega
   go_enter Tryz.func161, Tryz.ntmps161; go_upto_region 1 with fail
   refine zb (fun X => zc X g 173 #[.int .i64 h, .int .i64 l] /\ zc X w.heap.size 24 #[.int .i64 0, .int .i64 0, .string ⟨#[]⟩] /\ za w X) ⟨BB.out.al _, zc.new _ _ _, (za.refl w).al _⟩ ?_; rintro X ⟨BX, BR, Gx⟩; obtain ⟨b0, f0⟩ := BX.rules; obtain ⟨b1r, f1r⟩ := BR.rules
   go_quiet (fail)
   go_wp2_with (go_at_call 155; ((with_reducible refine (Xh _ _).mono ?_); rintro e w' ⟨rfl, hg⟩; obtain ⟨b2r, f2r⟩ := (BR.grow (((za.refl X).drewN _).trans hg)).rules))
   exact qX_ oj_ rfl ⟨rfl, zd⟩
theorem YQ (n : Int) (w : World) : Calls Tryz.prog 144 #[.int .i64 n] w fun en w' => en = .returned (yp n).val /\ za w w' := by
 by_cases h1 : 1000000000000000 < n
 ·have e1 : yp n = ⟨1, 0, es⟩ := by unfold yp; rw [if_neg u4_]
  have d1 : decide (1000000000000000 < n) = true := decide_eq_true h1; rw [e1]; clear e1; go_enter Tryz.func144, Tryz.ntmps144
  go_wp2_with ((go_at_call 106; ((with_reducible refine (yt _).mono ?_); rintro e w' ⟨rfl, hg⟩; obtain ⟨hc, hf, hz⟩ := hg.rules)))
  exact qX_ vE_ rfl ⟨rfl, zd⟩
 ·have d1 : decide (1000000000000000 < n) = false := decide_eq_false h1
  by_cases h2 : n < -1000000000000000
  ·have e1 : yp n = ⟨1, 0, es⟩ := by unfold yp; rw [if_neg u4_]
   have d2 : decide (n < -1000000000000000) = true := decide_eq_true h2; rw [e1]; clear e1; go_enter Tryz.func144, Tryz.ntmps144
   go_wp2_with ((go_at_call 106; ((with_reducible refine (yt _).mono ?_); rintro e w' ⟨rfl, hg⟩; obtain ⟨hc, hf, hz⟩ := hg.rules)))
   exact qX_ vE_ rfl ⟨rfl, zd⟩
  ·have e1 : yp n = ⟨3, n, es⟩ := by unfold yp; rw [if_pos u4_]
   have d2 : decide (n < -1000000000000000) = false := decide_eq_false h2; rw [e1]; clear e1; go_enter Tryz.func144, Tryz.ntmps144; go_wp2; exact qX_ (by simp [results, Tryz.results144, go_sem]) rfl ⟨rfl, zd⟩
theorem VT (ds : List Int) (n t K : Int) (g : Nat) (w : World) (hlen : ds.length = 9) (hb : zc w g 158 (ds.map (Value.int .i64)).toArray) (hK : 0 <= K /\ K <= 1000000000000) (hds : TM K ds) (hn : -1000000000000000 <= n /\ n <= 1000000000000000) (ht : -1000000 <= t /\ t <= 1000000) :
  Calls Tryz.prog 143 #[.pointer (some ⟨g, 0, none⟩), .int .i64 n, .int .i64 t] w fun en w' => en = .returned (.tuple #[]) /\ zc w' g 158 ((XS ds n t 9).map (Value.int .i64)).toArray /\ GX g w w' := by
 have bn := (UA n hn).1; have BB := hh_ hb; clear hb; go_enter Tryz.func143, Tryz.ntmps143; go_wp2
 go_loopw [1, 7] (fun s i wr => ∃ k : Nat, k <= 9 /\ i = .int .i64 k /\ s = .int .i64 (jW n k) /\ zc wr g 158 ((XS ds n t k).map (Value.int .i64)).toArray /\ GX g w wr) (fun _ i _ => 9 - (intOf i).toNat)
 case atStart => exact ⟨0, by omega, rfl, rfl, BB.out, GX.refl _ _⟩
 case round =>
  obtain ⟨k, hk, rfl, rfl, hbk, hgx⟩ := hrel; have BK := hh_ hbk; obtain ⟨b0, f0⟩ := hbk.rules
  by_cases hlt : k < 9
  ·have hlk := Zo ds n t k; have hge := LA ds n t k k (Nat.le_refl _); have hkl : k < ds.length := by omega
   have hx : ((XS ds n t k).map (Value.int .i64)).toArray[k]? = some (.int .i64 (ds.getD k 0)) := by
    rw [List.getElem?_toArray, List.getElem?_map, hge, qQ_ hkl, j6 hkl]; rfl
   have bx := hds (ds.getD k 0) (by rw [j6 hkl]; exact List.getElem_mem hkl); have e1 : jW n (k + 1) = (jW n k).tdiv 1000 := rfl; have e2 : XS ds n t (k + 1) = (XS ds n t k).set k (ds.getD k 0 + t * (jW n k).tmod 1000) := rfl; have b1 := bn (k + 1); have b2 := ZB (jW n k) 1000 u3_; rw [e1] at b1; have m2 := Z4 (a := t) (b := (jW n k).tmod 1000) (A := 1000000) (B := 999) ht u4_; obtain ⟨q, hq⟩ : ∃ q, (jW n k).tdiv 1000 = q := ⟨_, rfl⟩
   obtain ⟨m, hm⟩ : ∃ m, (jW n k).tmod 1000 = m := ⟨_, rfl⟩
   rw [hq] at b1 e1; rw [hm] at b2 m2 e2; obtain ⟨x, hxx⟩ : ∃ x, ds.getD k 0 = x := ⟨_, rfl⟩
   rw [hxx] at hx bx e2; have w1 : IntKind.i64.wrap q = q := by rw [IntKind.wrap_i64]; omega
   have w2 : IntKind.i64.wrap m = m := by rw [IntKind.wrap_i64]; omega
   have w4 : IntKind.i64.wrap (t * m) = t * m := by rw [IntKind.wrap_i64]; omega
   have w6 : IntKind.i64.wrap (x + t * m) = x + t * m := by rw [IntKind.wrap_i64]; omega
   have c0 := (b0 k).trans hx; have cf := f0 k; have E1 := hh_ e1; have E2 := hh_ e2; have nk : (k : Int).toNat = k := by omega
   have p0 : (0 : Int) <= (k : Int) := by omega
   have p9 : (k : Int) < 9 := by omega
   clear b0 f0 hx e1 e2 bx b1 b2 m2 hxx hge hlk hbk; go_wp2
   go_region
   go_wp2; go_roundw
   case rel =>
    refine ⟨k + 1, by omega, by go_num, by rw [E1.out], ?_, (hgx.set _ _).drew⟩; rw [E2.out, <- KZ]; exact (BK.out.set _ _).drew
   case measure => exact wa_
  ·obtain rfl : k = 9 := by omega
   clear b0 f0; go_wp2; go_end0; exact ⟨rfl, BK.out, hgx⟩
theorem GX.far {g g2 : Nat} {a b : World} (h : GX g a b) (hg : a.heap.size <= g2) (o : Nat) (u : Value) : GX g a (b.setCell ⟨g2, o, none⟩ u) := GX.own h (GX.set (GX.refl g2 b) o u) (fun i hi => by cases hi; exact hg)
theorem VV (ds : List Int) (K : Int) (g : Nat) (w : World) (hlen : ds.length = 9) (hb : zc w g 158 (ds.map (Value.int .i64)).toArray) (hK : 0 <= K /\ K <= 1000000000000) (hds : TM K ds) :
  Calls Tryz.prog 145 #[.pointer (some ⟨g, 0, none⟩)] w fun en w' => en = .returned (yp (xQ ds)).val /\ GX g w w' := by
 have BB := hh_ hb; have HD := hh_ hds; clear hb hds; obtain ⟨R, hR⟩ : ∃ R, yp (xQ ds) = R := ⟨_, rfl⟩
 rw [hR]; have HR := hh_ hR; clear hR; have hgw := BB.out.lt; go_enter Tryz.func145, Tryz.ntmps145; go_wp2
 go_loopw [3] (fun i wr => ∃ k : Nat, k <= 8 /\ i = .int .i64 k /\ zc wr g 158 ((xj ds k).map (Value.int .i64)).toArray /\ zc wr w.heap.size 24 #[.int .i64 0, .int .i64 0, .string ⟨#[]⟩] /\ GX g w wr) (fun i _ => 8 - (intOf i).toNat)
 case atStart => exact ⟨0, by omega, rfl, BB.out.al _, zc.new _ _ _, (GX.refl _ _).al _⟩
 case round =>
  obtain ⟨k, hk, rfl, hbk, hbr, hgx⟩ := hrel; have BR := hh_ hbr; clear hbr; have BK := hh_ hbk; obtain ⟨b0, f0⟩ := hbk.rules; clear hbk; have hlk := kC ds k; have bd := Rd ds K hK.1 HD.out k u4_
  by_cases hlt : k < 8
  ·have k0 : k < (xj ds k).length := by omega
   have k1 : k + 1 < (xj ds k).length := by omega
   have e2 : xj ds (k + 1) = ((xj ds k).set (k + 1) ((xj ds k).getD (k + 1) 0 + ((xj ds k).getD k 0).tdiv 1000)).set k (((xj ds k).getD k 0).tmod 1000) := rfl; rw [j6 k0, j6 k1] at e2
   have hx : ((xj ds k).map (Value.int .i64)).toArray[k]? = some (.int .i64 (xj ds k)[k]) := by
    rw [List.getElem?_toArray, List.getElem?_map, qQ_ k0]; rfl
   have hy : ((xj ds k).map (Value.int .i64)).toArray[k + 1]? = some (.int .i64 (xj ds k)[k + 1]) := by
    rw [List.getElem?_toArray, List.getElem?_map, qQ_ k1]; rfl
   have bx := (bd k k0).2.1 rfl; have by1 := (bd (k + 1) k1).2.2 u4_; obtain ⟨x, hxx⟩ : ∃ x, (xj ds k)[k] = x := ⟨_, rfl⟩
   obtain ⟨y, hyy⟩ : ∃ y, (xj ds k)[k + 1] = y := ⟨_, rfl⟩
   rw [hxx] at hx bx e2; rw [hyy] at hy by1 e2; have b1 := KF (n := x) (P := 1000) (K := 2 * K) u3_ u4_; have b2 := ZB x 1000 u3_; obtain ⟨q, hq⟩ : ∃ q, x.tdiv 1000 = q := ⟨_, rfl⟩
   obtain ⟨m, hm⟩ : ∃ m, x.tmod 1000 = m := ⟨_, rfl⟩
   rw [hq] at b1 e2; rw [hm] at b2 e2; have w1 : IntKind.i64.wrap q = q := by rw [IntKind.wrap_i64]; omega
   have w2 : IntKind.i64.wrap m = m := by rw [IntKind.wrap_i64]; omega
   have w6 : IntKind.i64.wrap (y + q) = y + q := by rw [IntKind.wrap_i64]; omega
   have w7 : IntKind.i64.wrap ((k : Int) + 1) = ((k + 1 : Nat) : Int) := by rw [IntKind.wrap_i64]; omega
   have c0 := (b0 k).trans hx; have c1 := (b0 (k + 1)).trans hy; have cf := f0 k; have cf1 := f0 (k + 1); have E2 := hh_ e2; have dlt : decide ((k : Int) < 8) = true := decide_eq_true u4_; have p0 : (0 : Int) <= (k : Int) := by omega
   have p9 : (k : Int) < 9 := by omega
   have q0 : (0 : Int) <= ((k + 1 : Nat) : Int) := by omega
   have q9 : ((k + 1 : Nat) : Int) < 9 := by omega
   clear b0 f0 hx hy e2 bx by1 b1 b2 hxx hyy bd hlk; go_wp2
   go_region
   go_wp2
   go_region
   go_wp2; go_roundw
   case rel =>
    refine ⟨k + 1, by omega, by go_num, ?_, GX.blk (((GX.refl g wr).set _ _).set _ _).drew.drew u4_ BR.out, ((hgx.set _ _).set _ _).drew.drew⟩; rw [E2.out, <- KZ, <- KZ]; exact ((BK.out.set _ _).set _ _).drew.drew
   case measure => exact wa_
  ·obtain rfl : k = 8 := by omega
   obtain ⟨cs, hcs⟩ : ∃ cs, xj ds 8 = cs := ⟨_, rfl⟩
   have esum := Mk ds 8 u4_; rw [hcs] at esum hlk bd b0 BK; have lcs : cs.length = 9 := by omega
   have HR2 := hh_ (show yp (xQ cs) = R by rw [esum]; exact HR.out)
   have bdc : ∀ (j : Nat) (hj : j < 9), -2000000000000 <= cs[j]' u4_ /\ cs[j]' u4_ <= 2000000000000 := fun j hj => by
    have h := bd j u4_
    try simp only [hcs] at h
    rcases Nat.lt_trichotomy j 8 with h1 | h1 | h1
    ·have := h.1 h1; omega
    ·have := h.2.1 h1; omega
    ·omega
   have bds : TM 999 (cs.take 8) := fun d hd => by
    obtain ⟨j, hj, rfl⟩ := List.getElem_of_mem hd; have hj8 : j < 8 := by rw [List.length_take] at hj; omega
    rw [List.getElem_take]; have h := bd j u4_
    try simp only [hcs] at h
    exact h.1 hj8
   have Bdc := hh_ bdc; have Bds := hh_ bds; clear bd bdc bds hcs esum hlt; go_wp2
   go_loopw [4, 5] (fun s i wv => ∃ j : Nat, j <= 9 /\ i = .int .i64 ((j : Int) - 1) /\ s = .int .i64 (xQ (cs.drop j)) /\ -3000000000000000 <= xQ (cs.drop j) /\ xQ (cs.drop j) <= 3000000000000000 /\ wv = wr) (fun _ i _ => (intOf i + 1).toNat)
   case atStart => exact ⟨9, by omega, rfl, by rw [<- lcs, List.drop_length]; rfl, by rw [<- lcs, List.drop_length]; decide, by rw [<- lcs, List.drop_length]; decide, rfl⟩
   case round =>
    obtain ⟨j, hj, rfl, rfl, s1, s2, rfl⟩ := hrel
    by_cases hj0 : j = 0
    ·subst hj0; have d0 : decide ((0 : Int) <= ((0 : Nat) : Int) - 1) = false := by decide
     have cn := YQ (xQ cs); rw [HR2.out] at cn; rw [List.drop_zero] at *
     go_wp2_with (go_at_call 144; ((with_reducible refine (cn _).mono ?_); rintro e w' ⟨rfl, hg⟩; obtain ⟨b2r, f2r⟩ := (BR.out.grow hg).rules))
     refine qX_ or_ rfl ?_; exact ⟨rfl, ((((hgx.grow hg).far (Nat.le_refl _) _ _).far (Nat.le_refl _) _ _).far (Nat.le_refl _) _ _)⟩
    ·obtain ⟨i, rfl⟩ : ∃ i, j = i + 1 := ⟨j - 1, by omega⟩
     have hil : i < cs.length := by omega
     have ed := Tx hil; have d0 : decide ((0 : Int) <= ((i + 1 : Nat) : Int) - 1) = true := decide_eq_true u4_; have ei : ((i + 1 : Nat) : Int) - 1 = (i : Int) := by omega
     have bi := Bdc.out i u4_; obtain ⟨v, hv⟩ : ∃ v, xQ (cs.drop (i + 1)) = v := ⟨_, rfl⟩
     have hx : (cs.map (Value.int .i64)).toArray[i]? = some (.int .i64 cs[i]) := by
      rw [List.getElem?_toArray, List.getElem?_map, qQ_ hil]; rfl
     obtain ⟨x, hxx⟩ : ∃ x, cs[i] = x := ⟨_, rfl⟩
     rw [hv] at ed s1 s2 ⊢; rw [hxx] at hx bi ed; have c0 := (b0 i).trans hx
     have big : (v > 2000000000000 \/ v < -2000000000000) -> yp (xQ cs) = zR := fun h => by
      have : i + 1 ≠ 9 := by
       rintro rfl0; have : cs.drop (i + 1) = [] := by rw [List.drop_eq_nil_iff]; omega
       rw [this] at hv; simp [xQ] at hv; omega
      refine Tz cs (i + 1) u4_ u4_ ?_ (by rw [hv]; exact h); intro d hd; refine Bds.out d ?_; rw [show cs.take (i + 1) = (cs.take 8).take (i + 1) by rw [List.take_take]; congr 1; omega] at hd; exact List.mem_of_mem_take hd
     have Big := hh_ big; have ED := hh_ ed; clear hx big hv hxx ed b0; rw [ei] at d0 ⊢; have q0 : (0 : Int) <= (i : Int) := by omega
     have q9 : (i : Int) < 9 := by omega
     by_cases h1 : 2000000000000 < v
     ·have d1 : decide (2000000000000 < v) = true := decide_eq_true h1; have er : R = zR := by rw [<- HR2.out, Big.out (.inl h1)]
      subst er
      go_wp2_with (go_at_call 106; ((with_reducible refine (yt _).mono ?_); rintro e w' ⟨rfl, hg⟩; obtain ⟨b2r, f2r⟩ := (BR.out.grow hg).rules))
      refine qX_ or_ rfl ?_; exact ⟨rfl, ((((hgx.grow hg).far (Nat.le_refl _) _ _).far (Nat.le_refl _) _ _).far (Nat.le_refl _) _ _)⟩
     ·have d1 : decide (2000000000000 < v) = false := decide_eq_false h1
      by_cases h2 : v < -2000000000000
      ·have d2 : decide (v < -2000000000000) = true := decide_eq_true h2; have er : R = zR := by rw [<- HR2.out, Big.out (.inr h2)]
       subst er
       go_wp2_with (go_at_call 106; ((with_reducible refine (yt _).mono ?_); rintro e w' ⟨rfl, hg⟩; obtain ⟨b2r, f2r⟩ := (BR.out.grow hg).rules))
       refine qX_ or_ rfl ?_; exact ⟨rfl, ((((hgx.grow hg).far (Nat.le_refl _) _ _).far (Nat.le_refl _) _ _).far (Nat.le_refl _) _ _)⟩
      ·have d2 : decide (v < -2000000000000) = false := decide_eq_false h2; have w1 : IntKind.i64.wrap (1000 * v) = 1000 * v := by rw [IntKind.wrap_i64]; omega
       have w2 : IntKind.i64.wrap (1000 * v + x) = 1000 * v + x := by rw [IntKind.wrap_i64]; omega
       have w3 : IntKind.i64.wrap ((i : Int) - 1) = (i : Int) - 1 := by rw [IntKind.wrap_i64]; omega
       go_wp2; go_roundw
       case rel => exact ⟨i, by omega, rfl, by rw [ED.out, Int.add_comm], by rw [ED.out]; omega, by rw [ED.out]; omega, by trivial⟩
       case measure => simp [intOf] <;> omega
theorem Xc (b : Bool) : bare (yB b) = yB b := by cases b <;> decide
theorem Qv (n : Int) : bare (yP n) = yP n := by
 unfold yP; split
 ·decide
 ·exact Xc _
theorem RW (n : Int) : bare (yp n) = yp n := by
 unfold yp; split
 ·simp [bare]
 ·decide
theorem Za : bare (⟨1, 0, es⟩ : V) = ⟨1, 0, es⟩ := by decide
theorem T3 (a b : V) : bare (Wf a b) = Wf a b := by unfold Wf; split; exact Xc _; exact Za
theorem NL (a b : V) : bare (yT a b) = yT a b := by unfold yT; split; exact Xc _; exact Za
theorem JB (a : V) : bare (qr a) = qr a := Qv _
theorem RT (k : Int) (a b : V) : bare (zG k a b) = zG k a b := by
 unfold zG
 repeat' split
 all_goals first | exact T3 _ _ | exact NL _ _ | exact JB _
theorem Mh (s : Int) (a b : V) : bare (zJ s a b) = zJ s a b := by
 unfold zJ
 repeat' split
 all_goals first | exact RW _ | exact Za
theorem RY (a b : V) : bare (y6 a b) = y6 a b := by
 unfold y6; split
 ·simp [bare]
 ·exact Za
theorem Cc (k : Int) (a b d : V) (ha : bare a = a) (hb : bare b = b) (hd : bare d = d) : bare (QP k a b d) = QP k a b d := by
 unfold QP
 repeat' split
 all_goals first | assumption | exact JB _ | exact Qv _ | exact Mh _ _ _ | exact RY _ _ | exact Xc _ | exact RT _ _ _
theorem kK (row : List V) (e : E) : bare (yd row e) = yd row e := by
 induction e with
 | leaf => exact R0
 | mk k v c A n cap kid ih =>
  unfold yd; split
  ·exact Yh _
  ·split
   ·exact Yh _
   ·exact Cc _ _ _ _ (ih 0) (ih 1) (ih 2)
theorem UZ {v : V} (h : RV v) (hb : bare v = v) : -1000000000000000 <= v.n /\ v.n <= 1000000000000000 := by
 rcases h.kind with k | k | k | k
 ·have : v.n = 0 := by rw [<- hb]; simp [bare, k]
  omega
 ·have := h.bool k; omega
 ·exact h.int k
 ·have : v.n = 0 := by rw [<- hb]; simp [bare, k]
  omega
structure AS where
 n : Int
 s : Int
 known : Bool
 lo : V
 hi : V
def Ft : AS := ⟨0, 0, false, zR, zR⟩
def qH (a : Ag) (st : AS) (r : Z) : AS :=
 if a.k = 1 then { st with n := st.n + r.2 }
 else if (yd r.1 a.x).k = 1 then st
 else ⟨st.n + r.2, st.s + r.2 * (yd r.1 a.x).n, true, if st.known = false \/ zH (yd r.1 a.x) st.lo < 0 then yd r.1 a.x else st.lo, if st.known = false \/ 0 < zH (yd r.1 a.x) st.hi then yd r.1 a.x else st.hi⟩
def yE (a : Ag) (l : List Z) : AS := l.foldl (qH a) Ft
theorem Yg (a : Ag) (l : List Z) (r : Z) : yE a (l ++ [r]) = qH a (yE a l) r := by unfold yE; rw [List.foldl_append]; rfl
def ko (a : Ag) (l : List Z) : V :=
 if a.k <= 2 then yp (yE a l).n
 else if (yE a l).known = false then zR
 else if a.k = 3 then yp (yE a l).s
 else if a.k = 4 then (yE a l).lo else (yE a l).hi
structure Jk (a : Ag) (l : List Z) : Prop where
 k : 1 <= a.k /\ a.k <= 5
 rv : a.k ≠ 1 -> ∀ r ∈ l, RV (yd r.1 a.x)
 w : ∀ r ∈ l, -1000000 <= r.2 /\ r.2 <= 1000000
theorem Jk.take {a : Ag} {l m : List Z} (h : Jk a (l ++ m)) : Jk a l := ⟨h.k, fun h1 r hr => h.rv h1 r (by simp [hr]), fun r hr => h.w r (by simp [hr])⟩
theorem Ni {α : Type} {P : List α -> Prop} (h0 : P []) (hs : ∀ l x, P l -> P (l ++ [x])) (l : List α) : P l := by
 have : ∀ m : List α, P m.reverse := fun m => by
  induction m with
  | nil => exact h0
  | cons x m ih => rw [List.reverse_cons]; exact hs _ _ ih
 rw [<- List.reverse_reverse l]; exact this _
theorem Q5 (a : Ag) (l : List Z) : Jk a l -> (-(1000000 * (l.length : Int)) <= (yE a l).n /\ (yE a l).n <= 1000000 * (l.length : Int)) /\ RV (yE a l).lo /\ RV (yE a l).hi /\ ((yE a l).known = false -> (yE a l).lo = zR /\ (yE a l).hi = zR /\ (yE a l).s = 0) := by
 refine Ni (P := fun l => Jk a l -> (-(1000000 * (l.length : Int)) <= (yE a l).n /\ (yE a l).n <= 1000000 * (l.length : Int)) /\ RV (yE a l).lo /\ RV (yE a l).hi /\ ((yE a l).known = false -> (yE a l).lo = zR /\ (yE a l).hi = zR /\ (yE a l).s = 0)) (fun _ => ⟨by simp [yE, Ft], qw, qw, fun _ => ⟨rfl, rfl, rfl⟩⟩) (fun l r ih h => ?_) l; obtain ⟨⟨i1, i2⟩, i3, i4, i5⟩ := ih h.take; have hw := h.w r u5_; rw [Yg]; simp only [List.length_append, List.length_singleton]; unfold qH; split
 ·exact ⟨by simp only; omega, i3, i4, i5⟩
 ·rename_i h1; have hv := h.rv h1 r u5_; split
  ·exact ⟨by omega, i3, i4, i5⟩
  ·refine ⟨by simp only; omega, ?_, ?_, fun h => by simp at h⟩
   ·simp only; split
    ·exact hv
    ·exact i3
   ·simp only; split
    ·exact hv
    ·exact i4
theorem D7 {a : Ag} {l : List Z} (h : Jk a l) : RV (ko a l) := by
 obtain ⟨_, h1, h2, _⟩ := Q5 a l h; unfold ko
 repeat' split
 all_goals first | exact Rv _ | exact qw | assumption
theorem Nr {xs : List I} {k : Nat} {x : I} (h : xs[k]? = some x) : (xs.take (k + 1)).map zg = (xs.take k).map zg ++ [zg x] := zT zg h
abbrev E0 (w : World) (g : Nat) (u0 u1 u2 : Value) : World := ((w.setCell ⟨g, 0, none⟩ u0).setCell ⟨g, 1, none⟩ u1).setCell ⟨g, 2, none⟩ u2
theorem xd {w : World} {g : Nat} {t : TypeId} {cs : Array Value} (h : zc w g t cs) {q : Nat} (hne : g ≠ q) (u0 u1 u2 : Value) : zc (E0 w q u0 u1 u2) g t cs := ((h.far (p := ⟨q, 0, none⟩) hne _).far (p := ⟨q, 1, none⟩) hne _).far (p := ⟨q, 2, none⟩) hne _
theorem YD {w : World} {g : Nat} {t : TypeId} {a b c : Value} (h : zc w g t #[a, b, c]) (u0 u1 u2 : Value) : zc (E0 w g u0 u1 u2) g t #[u0, u1, u2] := by
 have := ((h.set 0 u0).set 1 u1).set 2 u2; simpa using this
theorem qp {a w : World} (h : za a w) {g : Nat} (hg : a.heap.size <= g) (u0 u1 u2 : Value) : za a (E0 w g u0 u1 u2) := ((h.set (p := ⟨g, 0, none⟩) hg _).set (p := ⟨g, 1, none⟩) hg _).set (p := ⟨g, 2, none⟩) hg _
structure Fj (a : Ag) (xs : List I) : Prop where
 k : 1 <= a.k /\ a.k <= 5
 len : xs.length <= 400
 rl : ∀ x ∈ xs, x.row.length <= 1000
 rv : ∀ x ∈ xs, ∀ v ∈ x.row, RV v
 re : a.k ≠ 1 -> ∀ x ∈ xs, RE x.row.length a.x
 w : ∀ x ∈ xs, -1000000 <= x.w /\ x.w <= 1000000
theorem Fj.ok {a : Ag} {xs : List I} (h : Fj a xs) (k : Nat) : Jk a ((xs.take k).map zg) := ⟨h.k, fun h1 r hr => by
 obtain ⟨x, hx, rfl⟩ := List.mem_map.1 hr; have hx := List.mem_of_mem_take hx
 exact XW x.row (h.rv x hx) _ (h.re h1 x hx), fun r hr => by
 obtain ⟨x, hx, rfl⟩ := List.mem_map.1 hr
 exact h.w x (List.mem_of_mem_take hx)⟩
structure QI (w : World) (gs gl gh : Nat) (st : AS) (k : Nat) (t : TypeId) : Prop where
 sum : ∃ h l : Int, zc w gs t #[.int .i64 h, .int .i64 l] /\ h * 100000000 + l = st.s /\ -(10000000000000 * (k : Int)) <= h /\ h <= 10000000000000 * (k : Int) /\ -(100000000000000 * (k : Int)) <= l /\ l <= 100000000000000 * (k : Int)
 lo : ∃ L : V, zc w gl 24 #[.int .i64 L.k, .int .i64 L.n, .string L.s] /\ (st.known = true -> L = st.lo)
 hi : ∃ L : V, zc w gh 24 #[.int .i64 L.k, .int .i64 L.n, .string L.s] /\ (st.known = true -> L = st.hi)
theorem QI.grow {w w' : World} {gs gl gh : Nat} {st : AS} {k : Nat} {t : TypeId} (h : QI w gs gl gh st k t) (hg : za w w') : QI w' gs gl gh st k t := by
 obtain ⟨⟨a, b, h1, h2⟩, ⟨L, h3, h4⟩, ⟨M, h5, h6⟩⟩ := h; exact ⟨⟨a, b, h1.grow hg, h2⟩, ⟨L, h3.grow hg, h4⟩, ⟨M, h5.grow hg, h6⟩⟩
theorem QI.same {w : World} {gs gl gh : Nat} {st st' : AS} {k : Nat} {t : TypeId} (h : QI w gs gl gh st k t) (e1 : st'.s = st.s) (e2 : st'.known = st.known) (e3 : st'.lo = st.lo) (e4 : st'.hi = st.hi) : QI w gs gl gh st' (k + 1) t := by
 obtain ⟨⟨a, b, h1, h2, h3⟩, ⟨L, h4, h5⟩, ⟨M, h6, h7⟩⟩ := h; exact ⟨⟨a, b, h1, by rw [e1]; exact h2, by omega⟩, ⟨L, h4, by rw [e2, e3]; exact h5⟩, ⟨M, h6, by rw [e2, e4]; exact h7⟩⟩
theorem Jm (a : Ag) (ga oa : Nat) (xs : List I) (B : Option Addr) (cap : Nat) (w : World) (hc : jZ w ga oa a) (hx : EX w a.x) (hz : xc w B xs) (ho : Fj a xs) :
  Calls Tryz.prog 138 #[.pointer (some ⟨ga, oa, none⟩), .slice B xs.length cap] w fun en w' => en = .returned (ko a (xs.map zg)).val /\ za w w' := by
 have HC := hh_ hc; have HX := hh_ hx; have HZ := hh_ hz; have HO := hh_ ho; have hlen := ho.len; obtain ⟨k1, k5⟩ := ho.k; obtain ⟨R, hR⟩ : ∃ R, ko a (xs.map zg) = R := ⟨_, rfl⟩
 rw [hR]; have HR := hh_ hR; clear hc hx hz ho hR; go_enter Tryz.func138, Tryz.ntmps138; go_upto_region 5 with fail
 refine zb (fun X => zc X w.heap.size 24 #[.int .i64 0, .int .i64 0, .string ⟨#[]⟩] /\ zc X (w.heap.size + 1) 173 #[.int .i64 0, .int .i64 0] /\ zc X (w.heap.size + 1 + 1) 24 #[.int .i64 0, .int .i64 0, .string ⟨#[]⟩] /\ zc X (w.heap.size + 1 + 1 + 1) 24 #[.int .i64 0, .int .i64 0, .string ⟨#[]⟩] /\ za w X) ⟨(((zc.new _ _ _).al _).al _).al _, ((zc.new' _ _ _ u5_).al _).al _, (zc.new' _ _ _ u5_).al _, zc.new' _ _ _ u5_, zd⟩ ?_; have hh : w.heap.size < w.heap.size + 1 /\ w.heap.size + 1 < w.heap.size + 1 + 1 /\ w.heap.size + 1 + 1 < w.heap.size + 1 + 1 + 1 := by omega
 generalize w.heap.size + 1 + 1 + 1 = g8 at *; generalize w.heap.size + 1 + 1 = g7 at *; generalize w.heap.size + 1 = g6 at *; generalize hg4 : w.heap.size = g4 at *; rintro X ⟨B4, B6, B7, B8, G⟩; have BX := hh_ (And.intro B4 (And.intro B6 (And.intro B7 B8))); have HG := hh_ (And.intro hg4 hh); have n67 : g6 ≠ g7 := by omega
 have n68 : g6 ≠ g8 := by omega
 have n78 : g7 ≠ g8 := by omega
 clear B4 B6 B7 B8 hg4 hh; go_wp2
 go_loopw [5, 9, 15] (fun n kn i wr => ∃ k : Nat, k <= xs.length /\ i = .int .i64 k /\ n = .int .i64 (yE a ((xs.take k).map zg)).n /\ kn = .bool (yE a ((xs.take k).map zg)).known /\ QI wr g6 g7 g8 (yE a ((xs.take k).map zg)) k 173 /\ zc wr g4 24 #[.int .i64 0, .int .i64 0, .string ⟨#[]⟩] /\ za w wr) (fun _ _ i _ => xs.length - (intOf i).toNat)
 case atStart =>
  obtain ⟨b4, b6, b7, b8⟩ := BX.out; exact ⟨0, Nat.zero_le _, rfl, rfl, rfl, ⟨⟨0, 0, b6, rfl, by omega, by omega, by omega, by omega⟩, ⟨⟨0, 0, es⟩, b7, fun h => by simp [yE, Ft] at h⟩, ⟨⟨0, 0, es⟩, b8, fun h => by simp [yE, Ft] at h⟩⟩, b4, G⟩
 case round =>
  obtain ⟨k, hk, rfl, rfl, rfl, hst, hb4, hg⟩ := hrel; have St := hh_ hst; have B4 := hh_ hb4; have ok := HO.out.ok k; obtain ⟨⟨n1, n2⟩, rlo, rhi, hkn⟩ := Q5 a _ ok; have HR2 := hh_ (And.intro rlo rhi); have lk : ((xs.take k).map zg).length = k := by simp; omega
  rw [lk] at n1 n2; clear hst hb4 ok lk rlo rhi
  by_cases hlt : k < xs.length
  ·obtain ⟨x, hxk⟩ : ∃ x, xs[k]? = some x := ⟨_, qQ_ hlt⟩
   obtain ⟨gx, ox, rfl, c1, c2, hxv⟩ := (HZ.out.grow hg) k x hxk; have hm := qZ_ hxk; have hw := HO.out.w x hm; have e1 := Nr hxk; have E1 := hh_ e1; obtain ⟨st, hst⟩ : ∃ st, yE a ((xs.take k).map zg) = st := ⟨_, rfl⟩
   have es1 : yE a ((xs.take (k + 1)).map zg) = qH a st (zg x) := by rw [e1, Yg, hst]
   have ES := hh_ es1; rw [hst] at St n1 n2 hkn HR2 ⊢; have Hkn := hh_ hkn; clear e1 es1 hst hkn hxk; go_upto_region 8 with fail
   refine zb (fun Z => zc Z wr.heap.size 59 #[.slice x.A x.row.length x.cap, .int .i64 x.w] /\ za wr Z) ⟨zc.new _ _ _, (za.refl wr).al _⟩ ?_; have HL := hh_ (show g4 < wr.heap.size from B4.out.lt)
   have hn11 : wr.heap.size ≠ g6 /\ wr.heap.size ≠ g7 /\ wr.heap.size ≠ g8 /\ wr.heap.size ≠ g4 := by
    obtain ⟨⟨_, _, q6, _⟩, ⟨_, q7, _⟩, ⟨_, q8, _⟩⟩ := St.out; have := q6.lt; have := q7.lt; have := q8.lt; have := B4.out.lt; omega
   generalize wr.heap.size = g11 at *; rintro Z ⟨Bz, Gz⟩; have N11 := hh_ hn11; clear hn11; have BZ := hh_ Bz; obtain ⟨bz, fz⟩ := Bz.rules; have ck := (HC.out.grow (hg.trans Gz)).k; have wn : IntKind.i64.wrap (st.n + x.w) = st.n + x.w := by rw [IntKind.wrap_i64]; omega
   clear c1 c2 Bz
   by_cases h1 : a.k = 1
   ·have d1 : (a.k == 1) = true := by simpa using h1
    have es2 : qH a st (zg x) = { st with n := st.n + x.w } := by unfold qH; rw [if_pos h1]; rfl
    have ES2 := hh_ (ES.out.trans es2); clear es2; go_wp2; go_roundw
    case rel => exact ⟨k + 1, by omega, by go_num, by rw [ES2.out], by rw [ES2.out], os_, B4.out.grow Gz, hg.trans Gz⟩
    case measure => exact wa_
   ·have d1 : (a.k == 1) = false := by simpa using h1
    have hre := HO.out.re h1 x hm; have hrv := HO.out.rv x hm; have hrl := HO.out.rl x hm; have vr := XW x.row hrv a.x hre; have vb := UZ vr (kK x.row a.x); have co := fun W (h : za wr W) => Lr x.row x.A x.cap u4_ hrv a.x hre ga (oa + 1) wr W (HX.out.grow hg) (HC.out.grow hg).e hxv h
    have es2 : qH a st (zg x) = if (yd x.row a.x).k = 1 then st else ⟨st.n + x.w, st.s + x.w * (yd x.row a.x).n, true, if st.known = false \/ zH (yd x.row a.x) st.lo < 0 then yd x.row a.x else st.lo, if st.known = false \/ 0 < zH (yd x.row a.x) st.hi then yd x.row a.x else st.hi⟩ := by unfold qH; rw [if_neg h1]; rfl
    have ES2 := hh_ (ES.out.trans es2); obtain ⟨v, hv⟩ : ∃ v, yd x.row a.x = v := ⟨_, rfl⟩
    rw [hv] at vr vb co ES2; have VR := hh_ vr; clear es2 hre hrv hv vr hxv; go_upto_region 10 with fail
    apply ze 7 uY_ uY_
    case h' =>
     intro Q0 hQ0; simp only [List.take_succ_cons, List.take_zero]
     repeat ((first | ((first | apply zu rfl | apply zw rfl rfl rfl); case h1 => (intro w1 hw1 hF K hK; obtain ⟨bz, fz⟩ := (BZ.out.grow hw1).rules; go_simp; first | exact hK _ (za.refl _) | (go_at_call 81; ((with_reducible refine (co w1 (Gz.trans hw1)).mono ?_); rintro e w' ⟨rfl, hg⟩; exact ⟨_, rfl, hK _ hg⟩)))) | apply zz rfl rfl rfl rfl); intro K hK; go_simp; apply hK; clear hK K)
     apply zN (fun v W => ∃ g, v = .pointer (some ⟨g, 0, none⟩) /\ Z.heap.size <= g /\ zc W g 24 #[.int .i64 0, .int .i64 0, .string ⟨#[]⟩]) rfl
     case h1 =>
      intro w1 hw1 hF K hK; go_simp; exact hK _ _ ((za.refl _).al _) ⟨_, rfl, hw1.size, zc.new _ _ _⟩
     intro v12 K hK; go_simp; apply hK; clear hK K; refine zo ?_; intro w1 hw1 hF; apply hQ0; clear hQ0; simp only [List.drop_succ_cons, List.drop_zero]; obtain ⟨g12, rfl, hg12, B12⟩ := hF _ (List.mem_cons_self ..); clear hF bz fz; have B12' := YD B12 (.int .i64 v.k) (.int .i64 v.n) (.string v.s); have G12 := qp hw1 hg12 (.int .i64 v.k) (.int .i64 v.n) (.string v.s); obtain ⟨b12, f12⟩ := B12.rules; clear B12; go_upto_region 11 with fail
     refine zb (fun W => zc W g12 24 #[.int .i64 v.k, .int .i64 v.n, .string v.s] /\ za Z W) ⟨B12', G12⟩ ?_; clear B12' G12 b12 f12 hw1 w1; rintro X3 ⟨B12, G3⟩; have B12 := hh_ B12; obtain ⟨b12, f12⟩ := B12.out.rules
     by_cases hk1 : v.k = 1
     ·have d2 : (v.k == 1) = true := by simpa using hk1
      have e3 : yE a ((xs.take (k + 1)).map zg) = st := by rw [ES2.out, if_pos hk1]
      have E3 := hh_ e3; clear e3; go_wp2; go_roundw
      case rel => exact ⟨k + 1, by omega, by go_num, by rw [E3.out], by rw [E3.out], of_, B4.out.grow (Gz.trans G3), hg.trans (Gz.trans G3)⟩
      case measure => exact wa_
     ·have d2 : (v.k == 1) = false := by simpa using hk1
      obtain ⟨⟨h, l, B6, e6, i1, i2, i3, i4⟩, ⟨L, B7, e7⟩, ⟨M, B8, e8⟩⟩ := St.out.grow (Gz.trans G3); have EE := hh_ (And.intro e7 e8); clear e7 e8; have BZ3 := BZ.out.grow G3; have B43 := B4.out.grow (Gz.trans G3)
      obtain ⟨l4, l6, l7, l8, l11⟩ : g4 < Z.heap.size /\ g6 < Z.heap.size /\ g7 < Z.heap.size /\ g8 < Z.heap.size /\ g11 < Z.heap.size := by
       obtain ⟨⟨_, _, q6, _⟩, ⟨_, q7, _⟩, ⟨_, q8, _⟩⟩ := St.out.grow Gz; exact ⟨(B4.out.grow Gz).lt, q6.lt, q7.lt, q8.lt, BZ.out.lt⟩
      have o11 : g11 ≠ g6 /\ g11 ≠ g7 /\ g11 ≠ g8 /\ g11 ≠ g4 := N11.out; obtain ⟨m46, m67, m78⟩ := HG.out.2; have ct := V0 h l v.n x.w g6 X3 B6 u4_ u4_ vb hw; obtain ⟨h2, hh2⟩ : ∃ q, h + x.w * v.n.tdiv 100000000 = q := ⟨_, rfl⟩
      obtain ⟨l2, hl2⟩ : ∃ q, l + x.w * v.n.tmod 100000000 = q := ⟨_, rfl⟩
      have t1 := Ns v.n 100000000; have t2 := ZB v.n 100000000 u3_; have t3 := KF (n := v.n) (P := 100000000) (K := 10000000) u3_ u4_; have t4 := Z4 (a := x.w) (b := v.n.tdiv 100000000) (A := 1000000) (B := 10000000) hw t3; have t5 := Z4 (a := x.w) (b := v.n.tmod 100000000) (A := 1000000) (B := 100000000) hw u4_
      have t6 : x.w * v.n = x.w * v.n.tdiv 100000000 * 100000000 + x.w * v.n.tmod 100000000 := by
       rw [Int.mul_assoc, <- Int.mul_add, Int.mul_comm (v.n.tdiv 100000000)]; congr 1; exact t1.symm
      have e62 : h2 * 100000000 + l2 = st.s + x.w * v.n := by omega
      rw [hh2, hl2] at ct; have S6 := hh_ (And.intro e62 (show (-(10000000000000 * ((k + 1 : Nat) : Int)) <= h2 /\ h2 <= 10000000000000 * ((k + 1 : Nat) : Int)) /\ -(100000000000000 * ((k + 1 : Nat) : Int)) <= l2 /\ l2 <= 100000000000000 * ((k + 1 : Nat) : Int) by omega)); clear t1 t2 t3 t4 t5 t6 e62 hh2 hl2 i1 i2 i3 i4 e6; obtain ⟨bz3, fz3⟩ := BZ3.rules; go_upto_region 14 with (go_at_call 160; ((with_reducible refine ct.mono ?_); rintro e X4 ⟨rfl, B64, gx4⟩)); have G4 : za w X4 := GX.base ((hg.trans Gz).trans G3) (by have := HG.out.1; omega) gx4; have C := hh_ (show zc X4 g6 173 #[.int .i64 h2, .int .i64 l2] /\ zc X4 g4 24 #[.int .i64 0, .int .i64 0, .string ⟨#[]⟩] from ⟨B64, gx4.blk u4_ B43⟩); have D := hh_ (show zc X4 g12 24 #[.int .i64 v.k, .int .i64 v.n, .string v.s] /\ zc X4 g7 24 #[.int .i64 L.k, .int .i64 L.n, .string L.s] /\ zc X4 g8 24 #[.int .i64 M.k, .int .i64 M.n, .string M.s] from ⟨gx4.blk u4_ B12.out, gx4.blk u4_ B7, gx4.blk u4_ B8⟩); have o7 : g12 ≠ g7 := by omega
      have o8 : g12 ≠ g8 := by omega
      have o4 : g4 ≠ g7 := by omega
      have o4' : g4 ≠ g8 := by omega
      have sz : w.heap.size <= g7 /\ w.heap.size <= g8 := by have := HG.out.1; omega
      have SZ := hh_ sz; clear gx4 B64 B6 B7 B8 BZ3 B43 ct bz3 fz3 b12 f12 sz l4 l6 l7 l8 l11 o11 m46 m67 m78; cases hkn : st.known with
      | false =>
       have e3 : yE a ((xs.take (k + 1)).map zg) = ⟨st.n + x.w, st.s + x.w * v.n, true, v, v⟩ := by rw [ES2.out, if_neg hk1, if_pos (.inl hkn), if_pos (.inl hkn)]
       have E3 := hh_ e3; clear e3; obtain ⟨⟨b12, f12⟩, ⟨b7, f7⟩, ⟨b8, f8⟩⟩ := And.intro D.out.1.rules (And.intro D.out.2.1.rules D.out.2.2.rules); go_upto_region 16 with fail
       refine zb (fun W => (zc W g6 173 #[.int .i64 h2, .int .i64 l2] /\ zc W g4 24 #[.int .i64 0, .int .i64 0, .string ⟨#[]⟩]) /\ zc W g12 24 #[.int .i64 v.k, .int .i64 v.n, .string v.s] /\ zc W g7 24 #[.int .i64 v.k, .int .i64 v.n, .string v.s] /\ zc W g8 24 #[.int .i64 M.k, .int .i64 M.n, .string M.s] /\ za w W) ⟨⟨(xd (C.out.1.grow (za.refl X4)) u4_ _ _ _), (xd (C.out.2.grow (za.refl X4)) u4_ _ _ _)⟩, (xd (D.out.1.grow (za.refl X4)) u4_ _ _ _), (YD (D.out.2.1.grow (za.refl X4)) _ _ _), (xd (D.out.2.2.grow (za.refl X4)) u4_ _ _ _), (qp (G4.trans (za.refl X4)) SZ.out.1 _ _ _)⟩ ?_; clear b12 f12 b7 f7 b8 f8; rintro X6 ⟨C6, d61, d62, d63, G6⟩; have C6 := hh_ C6; have D6 := hh_ (And.intro d61 (And.intro d62 d63)); obtain ⟨⟨b12, f12⟩, ⟨b8, f8⟩⟩ := And.intro d61.rules d63.rules; clear d61 d62 d63; go_upto_region 18 with fail
       refine zb (fun W => (zc W g6 173 #[.int .i64 h2, .int .i64 l2] /\ zc W g4 24 #[.int .i64 0, .int .i64 0, .string ⟨#[]⟩]) /\ zc W g7 24 #[.int .i64 v.k, .int .i64 v.n, .string v.s] /\ zc W g8 24 #[.int .i64 v.k, .int .i64 v.n, .string v.s] /\ za w W) ⟨⟨(xd (C6.out.1.grow (za.refl X6)) u4_ _ _ _), (xd (C6.out.2.grow (za.refl X6)) u4_ _ _ _)⟩, (xd (D6.out.2.1.grow (za.refl X6)) u4_ _ _ _), (YD (D6.out.2.2.grow (za.refl X6)) _ _ _), (qp (G6.trans (za.refl X6)) SZ.out.2 _ _ _)⟩ ?_; clear b12 f12 b8 f8; rintro X8 ⟨⟨c81, c82⟩, d87, d88, G8⟩; have F8 := hh_ (show QI X8 g6 g7 g8 (yE a ((xs.take (k + 1)).map zg)) (k + 1) 173 by rw [E3.out]; exact ⟨⟨h2, l2, c81, S6.out.1, S6.out.2.1.1, S6.out.2.1.2, S6.out.2.2.1, S6.out.2.2.2⟩, ⟨v, d87, fun _ => rfl⟩, ⟨v, d88, fun _ => rfl⟩⟩); have C82 := hh_ c82; clear c81 c82 d87 d88; go_wp2; go_roundw
       case rel => exact wP_
       case measure => exact wa_
      | true =>
       have vlo := VR.out; have cv1 := fun W => jf v L W
       have cv2 := fun W => jf v M W
       rw [Zc v L VR.out (by rw [EE.out.1 hkn]; exact HR2.out.1)] at cv1; rw [Zc v M VR.out (by rw [EE.out.2 hkn]; exact HR2.out.2)] at cv2
       skip
       unfold V.val at cv1 cv2; obtain ⟨r1, hr1⟩ : ∃ r, zH v L = r := ⟨_, rfl⟩
       obtain ⟨r2, hr2⟩ : ∃ r, zH v M = r := ⟨_, rfl⟩
       rw [hr1] at cv1; rw [hr2] at cv2; rw [EE.out.1 hkn] at hr1; rw [EE.out.2 hkn] at hr2; have Hr := hh_ (And.intro hr1 hr2); clear hr1 hr2 vlo
       by_cases w1 : r1 < 0
       ·have d3 : decide (r1 < 0) = true := decide_eq_true w1
        by_cases w2 : 0 < r2
        ·have d4 : decide (0 < r2) = true := decide_eq_true w2; have q1 : (zH v st.lo < 0) := by rw [Hr.out.1]; exact w1
         have q2 : (0 < zH v st.hi) := by rw [Hr.out.2]; exact w2
         have QQ := hh_ (And.intro q1 q2); have e3 : yE a ((xs.take (k + 1)).map zg) = ⟨st.n + x.w, st.s + x.w * v.n, true, v, v⟩ := by rw [ES2.out, if_neg hk1, if_pos (.inr q1), if_pos (.inr q2)]
         have E3 := hh_ e3; clear e3; obtain ⟨⟨b12, f12⟩, ⟨b7, f7⟩, ⟨b8, f8⟩⟩ := And.intro D.out.1.rules (And.intro D.out.2.1.rules D.out.2.2.rules); go_upto_region 16 with (go_at_call 115; (with_reducible refine (cv1 _).mono ?_); rintro e w5 ⟨rfl, hg5⟩; obtain ⟨⟨b12, f12⟩, ⟨b7, f7⟩⟩ := And.intro (D.out.1.grow hg5).rules (D.out.2.1.grow hg5).rules); refine zb (fun W => (zc W g6 173 #[.int .i64 h2, .int .i64 l2] /\ zc W g4 24 #[.int .i64 0, .int .i64 0, .string ⟨#[]⟩]) /\ zc W g12 24 #[.int .i64 v.k, .int .i64 v.n, .string v.s] /\ zc W g7 24 #[.int .i64 v.k, .int .i64 v.n, .string v.s] /\ zc W g8 24 #[.int .i64 M.k, .int .i64 M.n, .string M.s] /\ za w W) ⟨⟨(xd (C.out.1.grow hg5) u4_ _ _ _), (xd (C.out.2.grow hg5) u4_ _ _ _)⟩, (xd (D.out.1.grow hg5) u4_ _ _ _), (YD (D.out.2.1.grow hg5) _ _ _), (xd (D.out.2.2.grow hg5) u4_ _ _ _), (qp (G4.trans hg5) SZ.out.1 _ _ _)⟩ ?_; clear b12 f12 b7 f7 b8 f8; rintro X6 ⟨C6, d61, d62, d63, G6⟩; have C6 := hh_ C6; have D6 := hh_ (And.intro d61 (And.intro d62 d63)); obtain ⟨⟨b12, f12⟩, ⟨b8, f8⟩⟩ := And.intro d61.rules d63.rules; clear d61 d62 d63; go_upto_region 18 with (go_at_call 115; (with_reducible refine (cv2 _).mono ?_); rintro e w7 ⟨rfl, hg7⟩; obtain ⟨⟨b12, f12⟩, ⟨b8, f8⟩⟩ := And.intro (D6.out.1.grow hg7).rules (D6.out.2.2.grow hg7).rules); refine zb (fun W => (zc W g6 173 #[.int .i64 h2, .int .i64 l2] /\ zc W g4 24 #[.int .i64 0, .int .i64 0, .string ⟨#[]⟩]) /\ zc W g7 24 #[.int .i64 v.k, .int .i64 v.n, .string v.s] /\ zc W g8 24 #[.int .i64 v.k, .int .i64 v.n, .string v.s] /\ za w W) ⟨⟨(xd (C6.out.1.grow hg7) u4_ _ _ _), (xd (C6.out.2.grow hg7) u4_ _ _ _)⟩, (xd (D6.out.2.1.grow hg7) u4_ _ _ _), (YD (D6.out.2.2.grow hg7) _ _ _), (qp (G6.trans hg7) SZ.out.2 _ _ _)⟩ ?_; clear b12 f12 b8 f8; rintro X8 ⟨⟨c81, c82⟩, d87, d88, G8⟩; have F8 := hh_ (show QI X8 g6 g7 g8 (yE a ((xs.take (k + 1)).map zg)) (k + 1) 173 by rw [E3.out]; exact ⟨⟨h2, l2, c81, S6.out.1, S6.out.2.1.1, S6.out.2.1.2, S6.out.2.2.1, S6.out.2.2.2⟩, ⟨v, d87, fun _ => rfl⟩, ⟨v, d88, fun _ => rfl⟩⟩); have C82 := hh_ c82; clear c81 c82 d87 d88; go_wp2; go_roundw
         case rel => exact wP_
         case measure => exact wa_
        ·have d4 : decide (0 < r2) = false := decide_eq_false w2; have q1 : (zH v st.lo < 0) := by rw [Hr.out.1]; exact w1
         have q2 : ¬ (0 < zH v st.hi) := by rw [Hr.out.2]; exact w2
         have QQ := hh_ (And.intro q1 q2); have e3 : yE a ((xs.take (k + 1)).map zg) = ⟨st.n + x.w, st.s + x.w * v.n, true, v, st.hi⟩ := by rw [ES2.out, if_neg hk1, if_pos (.inr q1), if_neg (by rw [hkn]; simpa using q2)]
         have E3 := hh_ e3; clear e3; obtain ⟨⟨b12, f12⟩, ⟨b7, f7⟩, ⟨b8, f8⟩⟩ := And.intro D.out.1.rules (And.intro D.out.2.1.rules D.out.2.2.rules); go_upto_region 16 with (go_at_call 115; (with_reducible refine (cv1 _).mono ?_); rintro e w5 ⟨rfl, hg5⟩; obtain ⟨⟨b12, f12⟩, ⟨b7, f7⟩⟩ := And.intro (D.out.1.grow hg5).rules (D.out.2.1.grow hg5).rules); refine zb (fun W => (zc W g6 173 #[.int .i64 h2, .int .i64 l2] /\ zc W g4 24 #[.int .i64 0, .int .i64 0, .string ⟨#[]⟩]) /\ zc W g12 24 #[.int .i64 v.k, .int .i64 v.n, .string v.s] /\ zc W g7 24 #[.int .i64 v.k, .int .i64 v.n, .string v.s] /\ zc W g8 24 #[.int .i64 M.k, .int .i64 M.n, .string M.s] /\ za w W) ⟨⟨(xd (C.out.1.grow hg5) u4_ _ _ _), (xd (C.out.2.grow hg5) u4_ _ _ _)⟩, (xd (D.out.1.grow hg5) u4_ _ _ _), (YD (D.out.2.1.grow hg5) _ _ _), (xd (D.out.2.2.grow hg5) u4_ _ _ _), (qp (G4.trans hg5) SZ.out.1 _ _ _)⟩ ?_; clear b12 f12 b7 f7 b8 f8; rintro X6 ⟨C6, d61, d62, d63, G6⟩; have C6 := hh_ C6; have D6 := hh_ (And.intro d61 (And.intro d62 d63)); obtain ⟨⟨b12, f12⟩, ⟨b8, f8⟩⟩ := And.intro d61.rules d63.rules; clear d61 d62 d63; go_upto_region 18 with (go_at_call 115; (with_reducible refine (cv2 _).mono ?_); rintro e w7 ⟨rfl, hg7⟩; obtain ⟨⟨b12, f12⟩, ⟨b8, f8⟩⟩ := And.intro (D6.out.1.grow hg7).rules (D6.out.2.2.grow hg7).rules); refine zb (fun W => (zc W g6 173 #[.int .i64 h2, .int .i64 l2] /\ zc W g4 24 #[.int .i64 0, .int .i64 0, .string ⟨#[]⟩]) /\ zc W g7 24 #[.int .i64 v.k, .int .i64 v.n, .string v.s] /\ zc W g8 24 #[.int .i64 M.k, .int .i64 M.n, .string M.s] /\ za w W) ⟨⟨(C6.out.1.grow hg7), (C6.out.2.grow hg7)⟩, (D6.out.2.1.grow hg7), (D6.out.2.2.grow hg7), (G6.trans hg7)⟩ ?_; clear b12 f12 b8 f8; rintro X8 ⟨⟨c81, c82⟩, d87, d88, G8⟩; have F8 := hh_ (show QI X8 g6 g7 g8 (yE a ((xs.take (k + 1)).map zg)) (k + 1) 173 by rw [E3.out]; exact ⟨⟨h2, l2, c81, S6.out.1, S6.out.2.1.1, S6.out.2.1.2, S6.out.2.2.1, S6.out.2.2.2⟩, ⟨v, d87, fun _ => rfl⟩, ⟨M, d88, fun _ => EE.out.2 hkn⟩⟩); have C82 := hh_ c82; clear c81 c82 d87 d88; go_wp2; go_roundw
         case rel => exact wP_
         case measure => exact wa_
       ·have d3 : decide (r1 < 0) = false := decide_eq_false w1
        by_cases w2 : 0 < r2
        ·have d4 : decide (0 < r2) = true := decide_eq_true w2; have q1 : ¬ (zH v st.lo < 0) := by rw [Hr.out.1]; exact w1
         have q2 : (0 < zH v st.hi) := by rw [Hr.out.2]; exact w2
         have QQ := hh_ (And.intro q1 q2); have e3 : yE a ((xs.take (k + 1)).map zg) = ⟨st.n + x.w, st.s + x.w * v.n, true, st.lo, v⟩ := by rw [ES2.out, if_neg hk1, if_neg (by rw [hkn]; simpa using q1), if_pos (.inr q2)]
         have E3 := hh_ e3; clear e3; obtain ⟨⟨b12, f12⟩, ⟨b7, f7⟩, ⟨b8, f8⟩⟩ := And.intro D.out.1.rules (And.intro D.out.2.1.rules D.out.2.2.rules); go_upto_region 16 with (go_at_call 115; (with_reducible refine (cv1 _).mono ?_); rintro e w5 ⟨rfl, hg5⟩; obtain ⟨⟨b12, f12⟩, ⟨b7, f7⟩⟩ := And.intro (D.out.1.grow hg5).rules (D.out.2.1.grow hg5).rules); refine zb (fun W => (zc W g6 173 #[.int .i64 h2, .int .i64 l2] /\ zc W g4 24 #[.int .i64 0, .int .i64 0, .string ⟨#[]⟩]) /\ zc W g12 24 #[.int .i64 v.k, .int .i64 v.n, .string v.s] /\ zc W g7 24 #[.int .i64 L.k, .int .i64 L.n, .string L.s] /\ zc W g8 24 #[.int .i64 M.k, .int .i64 M.n, .string M.s] /\ za w W) ⟨⟨(C.out.1.grow hg5), (C.out.2.grow hg5)⟩, (D.out.1.grow hg5), (D.out.2.1.grow hg5), (D.out.2.2.grow hg5), (G4.trans hg5)⟩ ?_; clear b12 f12 b7 f7 b8 f8; rintro X6 ⟨C6, d61, d62, d63, G6⟩; have C6 := hh_ C6; have D6 := hh_ (And.intro d61 (And.intro d62 d63)); obtain ⟨⟨b12, f12⟩, ⟨b8, f8⟩⟩ := And.intro d61.rules d63.rules; clear d61 d62 d63; go_upto_region 18 with (go_at_call 115; (with_reducible refine (cv2 _).mono ?_); rintro e w7 ⟨rfl, hg7⟩; obtain ⟨⟨b12, f12⟩, ⟨b8, f8⟩⟩ := And.intro (D6.out.1.grow hg7).rules (D6.out.2.2.grow hg7).rules); refine zb (fun W => (zc W g6 173 #[.int .i64 h2, .int .i64 l2] /\ zc W g4 24 #[.int .i64 0, .int .i64 0, .string ⟨#[]⟩]) /\ zc W g7 24 #[.int .i64 L.k, .int .i64 L.n, .string L.s] /\ zc W g8 24 #[.int .i64 v.k, .int .i64 v.n, .string v.s] /\ za w W) ⟨⟨(xd (C6.out.1.grow hg7) u4_ _ _ _), (xd (C6.out.2.grow hg7) u4_ _ _ _)⟩, (xd (D6.out.2.1.grow hg7) u4_ _ _ _), (YD (D6.out.2.2.grow hg7) _ _ _), (qp (G6.trans hg7) SZ.out.2 _ _ _)⟩ ?_; clear b12 f12 b8 f8; rintro X8 ⟨⟨c81, c82⟩, d87, d88, G8⟩; have F8 := hh_ (show QI X8 g6 g7 g8 (yE a ((xs.take (k + 1)).map zg)) (k + 1) 173 by rw [E3.out]; exact ⟨⟨h2, l2, c81, S6.out.1, S6.out.2.1.1, S6.out.2.1.2, S6.out.2.2.1, S6.out.2.2.2⟩, ⟨L, d87, fun _ => EE.out.1 hkn⟩, ⟨v, d88, fun _ => rfl⟩⟩); have C82 := hh_ c82; clear c81 c82 d87 d88; go_wp2; go_roundw
         case rel => exact wP_
         case measure => exact wa_
        ·have d4 : decide (0 < r2) = false := decide_eq_false w2; have q1 : ¬ (zH v st.lo < 0) := by rw [Hr.out.1]; exact w1
         have q2 : ¬ (0 < zH v st.hi) := by rw [Hr.out.2]; exact w2
         have QQ := hh_ (And.intro q1 q2); have e3 : yE a ((xs.take (k + 1)).map zg) = ⟨st.n + x.w, st.s + x.w * v.n, true, st.lo, st.hi⟩ := by rw [ES2.out, if_neg hk1, if_neg (by rw [hkn]; simpa using q1), if_neg (by rw [hkn]; simpa using q2)]
         have E3 := hh_ e3; clear e3; obtain ⟨⟨b12, f12⟩, ⟨b7, f7⟩, ⟨b8, f8⟩⟩ := And.intro D.out.1.rules (And.intro D.out.2.1.rules D.out.2.2.rules); go_upto_region 16 with (go_at_call 115; (with_reducible refine (cv1 _).mono ?_); rintro e w5 ⟨rfl, hg5⟩; obtain ⟨⟨b12, f12⟩, ⟨b7, f7⟩⟩ := And.intro (D.out.1.grow hg5).rules (D.out.2.1.grow hg5).rules); refine zb (fun W => (zc W g6 173 #[.int .i64 h2, .int .i64 l2] /\ zc W g4 24 #[.int .i64 0, .int .i64 0, .string ⟨#[]⟩]) /\ zc W g12 24 #[.int .i64 v.k, .int .i64 v.n, .string v.s] /\ zc W g7 24 #[.int .i64 L.k, .int .i64 L.n, .string L.s] /\ zc W g8 24 #[.int .i64 M.k, .int .i64 M.n, .string M.s] /\ za w W) ⟨⟨(C.out.1.grow hg5), (C.out.2.grow hg5)⟩, (D.out.1.grow hg5), (D.out.2.1.grow hg5), (D.out.2.2.grow hg5), (G4.trans hg5)⟩ ?_; clear b12 f12 b7 f7 b8 f8; rintro X6 ⟨C6, d61, d62, d63, G6⟩; have C6 := hh_ C6; have D6 := hh_ (And.intro d61 (And.intro d62 d63)); obtain ⟨⟨b12, f12⟩, ⟨b8, f8⟩⟩ := And.intro d61.rules d63.rules; clear d61 d62 d63; go_upto_region 18 with (go_at_call 115; (with_reducible refine (cv2 _).mono ?_); rintro e w7 ⟨rfl, hg7⟩; obtain ⟨⟨b12, f12⟩, ⟨b8, f8⟩⟩ := And.intro (D6.out.1.grow hg7).rules (D6.out.2.2.grow hg7).rules); refine zb (fun W => (zc W g6 173 #[.int .i64 h2, .int .i64 l2] /\ zc W g4 24 #[.int .i64 0, .int .i64 0, .string ⟨#[]⟩]) /\ zc W g7 24 #[.int .i64 L.k, .int .i64 L.n, .string L.s] /\ zc W g8 24 #[.int .i64 M.k, .int .i64 M.n, .string M.s] /\ za w W) ⟨⟨(C6.out.1.grow hg7), (C6.out.2.grow hg7)⟩, (D6.out.2.1.grow hg7), (D6.out.2.2.grow hg7), (G6.trans hg7)⟩ ?_; clear b12 f12 b8 f8; rintro X8 ⟨⟨c81, c82⟩, d87, d88, G8⟩; have F8 := hh_ (show QI X8 g6 g7 g8 (yE a ((xs.take (k + 1)).map zg)) (k + 1) 173 by rw [E3.out]; exact ⟨⟨h2, l2, c81, S6.out.1, S6.out.2.1.1, S6.out.2.1.2, S6.out.2.2.1, S6.out.2.2.2⟩, ⟨L, d87, fun _ => EE.out.1 hkn⟩, ⟨M, d88, fun _ => EE.out.2 hkn⟩⟩); have C82 := hh_ c82; clear c81 c82 d87 d88; go_wp2; go_roundw
         case rel => exact wP_
         case measure => exact wa_
    case hp' => exact ⟨fun v w w' hg ⟨g, a, b, c⟩ => ⟨g, a, b, c.grow hg⟩, trivial⟩
  ·have et : (xs.take k).map zg = xs.map zg := by rw [show k = xs.length by omega, List.take_length]
   obtain ⟨st, hst⟩ : ∃ st, yE a (xs.map zg) = st := ⟨_, rfl⟩
   rw [et, hst] at St n1 n2 hkn HR2 ⊢; have eR : R = if a.k <= 2 then yp st.n else if st.known = false then zR else if a.k = 3 then yp st.s else if a.k = 4 then st.lo else st.hi := by rw [<- HR.out]; unfold ko; rw [hst]
   have ER := hh_ eR; have ck := (HC.out.grow hg).k; obtain ⟨b4, f4⟩ := B4.out.rules; have sz : w.heap.size <= g4 := Nat.le_of_eq HG.out.1; have SZ := hh_ sz; clear eR hst et sz hkn
   by_cases h2 : a.k <= 2
   ·have d2 : decide (a.k <= 2) = true := decide_eq_true h2; have e : R = yp st.n := by rw [ER.out, if_pos h2]
    subst e
    go_wp2_with (go_at_call 155; ((with_reducible refine (Xh _ _).mono ?_); rintro e w2 ⟨rfl, hg2⟩; obtain ⟨b4, f4⟩ := (B4.out.grow hg2).rules))
    refine qX_ ov_ rfl ?_; exact ⟨rfl, qp (hg.trans hg2) SZ.out _ _ _⟩
   ·have d2 : decide (a.k <= 2) = false := decide_eq_false h2; cases hkn : st.known with
    | false =>
     have e : R = zR := by rw [ER.out, if_neg h2, if_pos hkn]
     subst e
     go_wp2_with (go_at_call 122; ((with_reducible refine (kJ _).mono ?_); rintro e w2 ⟨rfl, hg2⟩; obtain ⟨b4, f4⟩ := (B4.out.grow hg2).rules))
     refine qX_ (by simp [results, Tryz.results138, go_sem, zR, b4, f4] <;> rfl) rfl ?_; exact ⟨rfl, qp (hg.trans hg2) SZ.out _ _ _⟩
    | true =>
     obtain ⟨⟨h, l, B6, e6, i1, i2, i3, i4⟩, ⟨L, B7, e7⟩, ⟨M, B8, e8⟩⟩ := St.out; have e7 := e7 hkn; have e8 := e8 hkn
     by_cases h3 : a.k = 3
     ·have d3 : (a.k == 3) = true := by simpa using h3
      have e : R = yp st.s := by rw [ER.out, if_neg h2, if_neg uS_, if_pos h3]
      subst e; have ct := Bc h l g6 wr B6 u4_ u4_; rw [e6] at ct; clear B6 B7 B8 e6 i1 i2 i3 i4 e7 e8
      go_wp2_with (go_at_call 161; ((with_reducible refine ct.mono ?_); rintro e w2 ⟨rfl, hg2⟩; obtain ⟨b4, f4⟩ := (B4.out.grow hg2).rules))
      refine qX_ ov_ rfl ?_; exact ⟨rfl, qp (hg.trans hg2) SZ.out _ _ _⟩
     ·have d3 : (a.k == 3) = false := by simpa using h3
      by_cases h4 : a.k = 4
      ·have d4 : (a.k == 4) = true := by simpa using h4
       have e : R = L := by rw [ER.out, if_neg h2, if_neg uS_, if_neg h3, if_pos h4, e7]
       subst e; obtain ⟨b7, f7⟩ := B7.rules; clear B6 B7 B8 e6 i1 i2 i3 i4 e7 e8 St HR2; go_wp2; refine qX_ ov_ rfl ?_; exact ⟨rfl, qp hg SZ.out _ _ _⟩
      ·have d4 : (a.k == 4) = false := by simpa using h4
       have e : R = M := by rw [ER.out, if_neg h2, if_neg uS_, if_neg h3, if_neg h4, e8]
       subst e; obtain ⟨b7, f7⟩ := B8.rules; clear B6 B7 B8 e6 i1 i2 i3 i4 e7 e8 St HR2; go_wp2; refine qX_ ov_ rfl ?_; exact ⟨rfl, qp hg SZ.out _ _ _⟩
end Go.Proofs.YtphaeahdmfapgaaGreat
namespace Go.Proofs.YtphaeahdmfapgaaGreat
open Go.ChangeShapes Go.WideShapes Go.ChangeAt Go.RowKit Go.Calm
set_option maxRecDepth 100000
section
variable {H : Type} {enc : TypeId × Value -> H} {w : World} {base : Nat} {spare : Nat -> Bool} {held : Bool}
theorem RR {fuel : Nat} {cs : List Value} {x : DataW H × List MemPlace} (h : DataW.trod enc Tryz.prog w base spare held fuel 75 cs = some x) :
  ∃ a : Ag, cs = .int .i64 a.k :: a.x.cells /\ EX w a.x := by
 obtain ⟨xs, n, hfu, _, hlen, hxl, hf⟩ := DataW.trod_struct Tryz.underlying75 h; have h6 : cs.length = 7 := by rw [hlen]; kernel_rfl
 match cs, h6 with
 | [a, b, c, d, e, f, g'], _ =>
  have f0 := hf 0 _ rfl; have f1 := hf 1 _ rfl; have g : ∀ i, i < 2 -> ∃ y, xs[i]? = some y := fun i hi => ⟨xs[i]' uv_, qQ_ _⟩
  obtain ⟨y0, e0⟩ := g 0 u4_; obtain ⟨y1, e1⟩ := g 1 u4_; rw [e0] at f0; rw [e1] at f1; obtain ⟨k, hk, _, wk⟩ := DataW.trod_int Tryz.underlying3 f0; obtain ⟨x, hx, hX⟩ := Wg _ f1; have c0 : Tryz.prog.cellsOf 3 = 1 := by kernel_rfl
  have c1 : Tryz.prog.cellsOf 27 = 6 := by kernel_rfl
  simp [c0] at hk; simp [c1] at hx; exact ⟨⟨k, x⟩, by rw [hk, <- hx], hX⟩
theorem NK {fuel : Nat} {cs : List Value} {x : DataW H × List MemPlace} (h : DataW.trod enc Tryz.prog w base spare held fuel 28 cs = some x) :
  ∃ (A : Option Addr) (xs : List Ag) (cap : Nat), cs = [.slice A xs.length cap] /\ qn w A xs /\ xs.length <= maxLen /\ xs.length <= cap := by
 obtain ⟨A, len, cap, n, D, hcs, hl, hcap, hi⟩ := qG (c := 7) Tryz.underlying28 uY_ u4_ h
 obtain ⟨xs, hxl, hx⟩ := Zn (α := Ag) (P := fun i x => ∃ g o, A = some ⟨g, o, none⟩ /\ jZ w g (o + i * 7) x /\ EX w x.x) len (fun i hlt => by
  obtain ⟨g, o, ys, hA, hyl, hat, hd⟩ := hi i hlt; obtain ⟨x, hx, hv⟩ := RR hd; subst hx
  exact ⟨x, g, o, hA, ⟨hat 0 _ rfl, hat 1 _ rfl, hat 2 _ rfl, hat 3 _ rfl, hat 4 _ rfl, hat 5 _ rfl, hat 6 _ rfl⟩, hv⟩)
 exact ⟨A, xs, cap, by rw [hcs, hxl], hx, by omega, by omega⟩
end
