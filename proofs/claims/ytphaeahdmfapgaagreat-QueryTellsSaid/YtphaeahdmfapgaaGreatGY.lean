/- Parts of a proof. No condition. -/
import Derived.Test.YtphaeahdmfapgaaGreatGG
set_option maxRecDepth 100000
set_option maxHeartbeats 40000000
set_option maxRecDepth 100000
set_option linter.unusedSimpArgs false
set_option linter.unusedVariables false
namespace Go
variable {p : Prop}
theorem vC_ (h : p := by simp [results, Tryz.results142, go_sem, hc]) : p := h
theorem vD_ (h : p := by simp [results, Tryz.results142, go_sem, x3]) : p := h
theorem wn_ (h : p := by
 have ek : QP k a b d = zG k a b := WB hk a b d; have m4 : (k == 4) = false := by simp; omega
 have m5 : (k == 5) = false := by simp; omega
 have m12 : (k == 12) = false := by simp; omega
 have m13 : (k == 13) = false := by simp; omega
 have m14 : (k == 14) = false := by simp; omega
 have m15 : (k == 15) = false := by simp; omega
 have hRR : R = zR := HR.out.symm.trans (ek.trans (Mr hz)); subst hRR; clear hz
 go_wp2_with ((go_at_call 106; ((with_reducible refine (Vu _).mono ?_); rintro en w4 ⟨rfl, hg4⟩; obtain ⟨x3, y3⟩ := (B3.grow hg4).rules)))
 exact qX_ vD_ rfl ⟨rfl, zd⟩) : p := h
theorem wp_ (h : p := by
 subst hk; have hRR : R = zJ 42 a b := HR.out.symm.trans (rfl); subst hRR
 go_wp2_with ((go_at_call 166; ((with_reducible refine (xm 42 a b ra rb _).mono ?_); rintro en w4 ⟨rfl, hg4⟩; obtain ⟨x3, y3⟩ := (B3.grow hg4).rules)))
 exact qX_ vD_ rfl ⟨rfl, zd⟩) : p := h
theorem wq_ (h : p := by
 subst hk; have hRR : R = zJ 43 a b := HR.out.symm.trans (rfl); subst hRR
 go_wp2_with ((go_at_call 166; ((with_reducible refine (xm 43 a b ra rb _).mono ?_); rintro en w4 ⟨rfl, hg4⟩; obtain ⟨x3, y3⟩ := (B3.grow hg4).rules)))
 exact qX_ vD_ rfl ⟨rfl, zd⟩) : p := h
theorem wr_ (h : p := by
 subst hk; have hRR : R = zJ 45 a b := HR.out.symm.trans (rfl); subst hRR
 go_wp2_with ((go_at_call 166; ((with_reducible refine (xm 45 a b ra rb _).mono ?_); rintro en w4 ⟨rfl, hg4⟩; obtain ⟨x3, y3⟩ := (B3.grow hg4).rules)))
 exact qX_ vD_ rfl ⟨rfl, zd⟩) : p := h
theorem wt_ (h : p := by
 subst hk; have hRR : R = WC a b := HR.out.symm.trans (rfl); subst hRR
 go_wp2_with ((go_at_call 165; ((with_reducible refine (LC a b ra rb _).mono ?_); rintro en w4 ⟨rfl, hg4⟩; obtain ⟨x3, y3⟩ := (B3.grow hg4).rules)))
 exact qX_ vD_ rfl ⟨rfl, zd⟩) : p := h
theorem wu_ (h : p := by
 subst hk; have hRR : R = jN a b := HR.out.symm.trans (rfl); subst hRR
 go_wp2_with ((go_at_call 164; ((with_reducible refine (WQ a b ra rb _).mono ?_); rintro en w4 ⟨rfl, hg4⟩; obtain ⟨x3, y3⟩ := (B3.grow hg4).rules)))
 exact qX_ vD_ rfl ⟨rfl, zd⟩) : p := h
theorem wv_ (h : p := by
 subst hk; have hRR : R = y6 a b := HR.out.symm.trans (rfl); subst hRR
 go_wp2_with ((go_at_call 167; ((with_reducible refine (Qd a b ra rb _).mono ?_); rintro en w4 ⟨rfl, hg4⟩; obtain ⟨x3, y3⟩ := (B3.grow hg4).rules)))
 exact qX_ vD_ rfl ⟨rfl, zd⟩) : p := h
end Go
namespace Go.Proofs.YtphaeahdmfapgaaGreat
open Go.RowKit Go.Calm
theorem Sb {a b : V} (ra : RV a) (rb : RV b) (h : a.k = b.k) (h1 : a.k ≠ 1) :
  zG 6 a b = yB (zH a b == 0) /\ zG 7 a b = yB (zH a b != 0) /\ zG 8 a b = yB (decide (zH a b < 0)) /\ zG 9 a b = yB (decide (zH a b <= 0)) /\ zG 10 a b = yB (decide (0 < zH a b)) /\ zG 11 a b = yB (decide (0 <= zH a b)) := by
 have al : yV a b = true := by simp [yV, h]; rw [<- h]; exact h1
 have al2 : yV b a = true := by simp [yV, h]; rw [<- h]; exact h1
 have e1 := Zc a b ra rb; have e2 := Zc b a rb ra; have e3 := yr a b; have e4 := qV a b; have q1 : Wf a b = yB (xT a b == 0) := by simp only [Wf, al, if_true]
 have q2 : yT a b = yB (decide (xT a b < 0)) := by simp only [yT, al, if_true]
 have q3 : yT b a = yB (decide (xT b a < 0)) := by simp only [yT, al2, if_true]
 refine ⟨?_, ?_, ?_, ?_, ?_, ?_⟩
 ·rw [show zG 6 a b = Wf a b from rfl, q1, e1]
 ·rw [show zG 7 a b = qr (Wf a b) from rfl, q1, e1]; rcases e4 with e | e | e <;> rw [e] <;> rfl
 ·rw [show zG 8 a b = yT a b from rfl, q2, e1]
 ·rw [show zG 9 a b = qr (yT b a) from rfl, q3, e2, e3]; rcases e4 with e | e | e <;> rw [e] <;> rfl
 ·rw [show zG 10 a b = yT b a from rfl, q3, e2, e3]; rcases e4 with e | e | e <;> rw [e] <;> rfl
 ·rw [show zG 11 a b = qr (yT a b) from rfl, q2, e1]; rcases e4 with e | e | e <;> rw [e] <;> rfl
theorem Mf (a b : V) : yV a b = yV b a := by
 unfold yV
 by_cases h : a.k = b.k
 ·rw [h]
 ·have h' : ¬ b.k = a.k := fun e => h e.symm
  simp [h, h']
theorem Mr {k : Int} {a b : V} (h : a.k = 1 \/ b.k = 1) : zG k a b = zR := by
 have al : yV a b = false := by
  rcases h with h | h
  ·exact BS h b
  ·exact BU h a
 have al2 : yV b a = false := by rw [Mf]; exact al
 have q1 : Wf a b = zR := by simp only [Wf, al]; rfl
 have q2 : yT a b = zR := by simp only [yT, al]; rfl
 have q3 : yT b a = zR := by simp only [yT, al2]; rfl
 have q4 : qr zR = zR := rfl; unfold zG; rw [q1, q2, q3, q4]
 repeat' split
 all_goals rfl
theorem UL {k : Int} (h : 1 <= zl k) : k = 3 \/ k = 4 \/ k = 5 \/ (6 <= k /\ k <= 11) \/ k = 12 \/ k = 13 \/ k = 14 \/ k = 15 \/ k = 16 \/ k = 17 \/ k = 18 := xx_
theorem Vu (w : World) : Calls Tryz.prog 106 #[] w fun e w' => e = .returned zR.val /\ za w w' := yt w
theorem Dg (S : Value) (k : Int) (v : V) (c : Int) (Ak : Option Addr) (n cap : Nat) (kid : Nat -> E) (w : World) (hk : k = 1) (hv : RV v) :
  Calls Tryz.prog 142 #[(E.mk k v c Ak n cap kid).val, S] w fun en w' => en = .returned (bare v).val /\ za w w' := by
 subst hk; unfold E.val; simp only [E.kind, E.v, E.col, E.A, E.n, E.cap]; go_enter Tryz.func142, Tryz.ntmps142
 go_wp2_with ((go_at_call 140; ((with_reducible refine (Qa v hv _).mono ?_); rintro e w' ⟨rfl, hg⟩; obtain ⟨hc, hf, hz⟩ := hg.rules)))
 exact qX_ vC_ rfl ⟨rfl, zd⟩
theorem Df (row : List V) (A : Option Addr) (cr : Nat) (hlen : row.length <= 9223372036854775807) (k : Int) (v : V) (c : Int) (Ak : Option Addr) (n cap : Nat) (kid : Nat -> E) (w : World) (hrow : yS w A row) (hk : k = 2) (j : Nat) (hj : c = j) (x : V) (hx : row[j]? = some x) (rx : RV x) :
  Calls Tryz.prog 142 #[(E.mk k v c Ak n cap kid).val, .slice A row.length cr] w fun en w' => en = .returned (bare x).val /\ za w w' := by
 subst hk hj; have hjl : j < row.length := (qQ9.1 hx).1; obtain ⟨ga, oa, rfl, v1, v2, v3⟩ := hrow j x hx; have hga : ga < w.heap.size := za.lt v1; unfold E.val; simp only [E.kind, E.v, E.col, E.A, E.n, E.cap]; clear hx hrow; go_enter Tryz.func142, Tryz.ntmps142
 go_wp2_with ((go_at_call 140; ((with_reducible refine (Qa x rx _).mono ?_); rintro e w' ⟨rfl, hg⟩; obtain ⟨hc, hf, hz⟩ := hg.rules)))
 exact qX_ vC_ rfl ⟨rfl, zd⟩
theorem Vv (row : List V) (A : Option Addr) (cr : Nat) (k : Int) (v : V) (c : Int) (Ak : Option Addr) (n cap : Nat) (kid : Nat -> E) (w0 w : World) (hE : EX w0 (.mk k v c Ak n cap kid)) (hg : za w0 w) (h1 : 1 <= zl k) (hn : (n : Int) = zl k) (a b d : V) (ra : RV a) (rb : 2 <= zl k -> RV b)
  (K0 : ∀ W, za w0 W -> Calls Tryz.prog 142 #[(kid 0).val, .slice A row.length cr] W fun en w' => en = .returned a.val /\ za W w')
  (K1 : 2 <= zl k -> ∀ W, za w0 W -> Calls Tryz.prog 142 #[(kid 1).val, .slice A row.length cr] W fun en w' => en = .returned b.val /\ za W w')
  (K2 : 3 <= zl k -> ∀ W, za w0 W -> Calls Tryz.prog 142 #[(kid 2).val, .slice A row.length cr] W fun en w' => en = .returned d.val /\ za W w')
  (hab : 6 <= k /\ k <= 11 -> a.k ≠ 1 -> b.k ≠ 1 -> a.k = b.k) (R : V) (hR : QP k a b d = R) :
  Calls Tryz.prog 142 #[(E.mk k v c Ak n cap kid).val, .slice A row.length cr] w fun en w' => en = .returned R.val /\ za w w' := by
 have hn0 : 0 < n := by omega
 have hn3 : n <= 3 := by have := Zl k; omega
 obtain ⟨gk, ok, hA, hc0, hc1, hc2⟩ : ∃ gk ok, Ak = some ⟨gk, ok, none⟩ /\ zK w0 gk ok (kid 0) /\ (1 < n -> zK w0 gk (ok + 6) (kid 1)) /\ (2 < n -> zK w0 gk (ok + 12) (kid 2)) := by
  cases hE with
  | mk hn' hc hk hv hi =>
   obtain ⟨gk, ok, h2, h3⟩ := hc 0 hn0; refine ⟨gk, ok, h2, by simpa using h3, fun h => ?_, fun h => ?_⟩
   ·obtain ⟨gk', ok', h4, h5⟩ := hc 1 h; rw [h2] at h4; cases h4; simpa using h5
   ·obtain ⟨gk', ok', h4, h5⟩ := hc 2 h; rw [h2] at h4; cases h4; simpa using h5
 subst hA; have n1 : (k == 1) = false := by simp; rintro rfl; revert h1; decide
 have n2 : (k == 2) = false := by simp; rintro rfl; revert h1; decide
 have Hn := hh_ hn; have H1 := hh_ h1; have HE := hh_ hE; have HR := hh_ hR; clear hn h1 hE hR; unfold E.val; simp only [E.kind, E.v, E.col, E.A, E.n, E.cap]; go_enter Tryz.func142, Tryz.ntmps142; obtain ⟨k0, k1, k2, k3, k4, k5⟩ := hc0.grow hg; have lgk : gk < w.heap.size := za.lt k0; have kk : ∀ o, (w.cell? ⟨gk, o, none⟩).isSome -> True := fun _ _ => trivial
 clear kk; go_upto_region 6 with (go_at_call 142; ((with_reducible refine (K0 _ (hg.trans zd)).mono ?_); rintro en w2 ⟨rfl, hg2⟩)); refine zb (fun W => zc W w.heap.size 27 #[.int .i64 k, .int .i64 v.k, .int .i64 v.n, .string v.s, .int .i64 c, .slice (some ⟨gk, ok, none⟩) n cap] /\ zc W (w.heap.size + 1) 24 #[.int .i64 0, .int .i64 0, .string es] /\ za w W /\ zc W w2.heap.size 24 #[.int .i64 a.k, .int .i64 a.n, .string a.s]) ⟨?f1, ?f2, ?f3, ?f4⟩ ?_
 case f1 => exact zc.grow (((zc.new _ _ _).al _).grow hg2) zd
 case f2 => exact zc.grow ((zc.new' _ _ _ u5_).grow hg2) zd
 case f3 => exact za.trans (zd : za w w2) zd
 case f4 => exact zc.new _ _ _
 have hne0 : w.heap.size ≠ w2.heap.size := by have := hg2.size; simp at this; omega
 have hne1 : w.heap.size + 1 ≠ w2.heap.size := by have := hg2.size; simp at this; omega
 generalize w2.heap.size = ga at *; clear hg2 k0 k1 k2 k3 k4 k5; rintro W ⟨B1, B3, G, Ba⟩; obtain ⟨x1, y1⟩ := B1.rules; obtain ⟨x3, y3⟩ := B3.rules; obtain ⟨xa, ya⟩ := Ba.rules; have l1 := B1.lt; have l3 := B3.lt; have la := Ba.lt
 by_cases hk2 : zl k = 2 /\ k ≠ 18
 ·obtain ⟨hk2, h18⟩ := hk2; have n3 : (k == 3) = false := by simp; rintro rfl; revert hk2; decide
  have n16 : (k == 16) = false := by simp; rintro rfl; revert hk2; decide
  have n17 : (k == 17) = false := by simp; rintro rfl; revert hk2; decide
  have n18 : (k == 18) = false := by simpa using h18
  have hn1 : 1 < n := by have := Hn.out; omega
  have kc : k = 4 \/ k = 5 \/ (6 <= k /\ k <= 11) \/ k = 12 \/ k = 13 \/ k = 14 \/ k = 15 := by
   have := UL H1.out; have e3 : k ≠ 3 := by simpa using n3
   have e16 : k ≠ 16 := by simpa using n16
   have e17 : k ≠ 17 := by simpa using n17
   omega
  have Kc := hh_ kc; replace rb := rb u4_; replace K1 := K1 u4_; have Hab := hh_ hab; have H18 := hh_ h18; have Hk2 := hh_ hk2; clear K2 hc2 kc hab h18 hk2; obtain ⟨k0, k1, k2, k3, k4, k5⟩ := (hc1 hn1).grow (hg.trans G); have lgk2 : gk < W.heap.size := za.lt k0; go_upto_region 19 with (go_at_call 142; ((with_reducible refine (K1 _ (hg.trans G)).mono ?_); rintro en w2 ⟨rfl, hg2⟩)); refine zb (fun X => zc X w.heap.size 27 #[.int .i64 k, .int .i64 v.k, .int .i64 v.n, .string v.s, .int .i64 c, .slice (some ⟨gk, ok, none⟩) n cap] /\ zc X (w.heap.size + 1) 24 #[.int .i64 0, .int .i64 0, .string es] /\ za w X /\ zc X ga 24 #[.int .i64 a.k, .int .i64 a.n, .string a.s] /\ zc X w2.heap.size 24 #[.int .i64 b.k, .int .i64 b.n, .string b.s]) ⟨?f1, ?f2, ?f3, ?f4, ?f5⟩ ?_
  case f1 => exact zc.grow (B1.grow hg2) zd
  case f2 => exact zc.grow (B3.grow hg2) zd
  case f3 => exact za.trans (G.trans hg2) zd
  case f4 => exact zc.grow (Ba.grow hg2) zd
  case f5 => exact zc.new _ _ _
  generalize w2.heap.size = gb at *; clear hg2 k0 k1 k2 k3 k4 k5 x1 y1 x3 y3 xa ya l1 l3 la B1 B3 Ba G lgk2; rintro X ⟨B1, B3, G, Ba, Bb⟩; obtain ⟨x1, y1⟩ := B1.rules; obtain ⟨x3, y3⟩ := B3.rules; obtain ⟨xa, ya⟩ := Ba.rules; obtain ⟨xb, yb⟩ := Bb.rules
  by_cases hz1 : a.k = 1
  ·have hz : a.k = 1 \/ b.k = 1 := .inl hz1; have z1 : (a.k != 1) = false := by simpa using hz1
   clear hz1; go_upto_region 21 with (go_at_call 139; ((with_reducible refine (kO a b _).mono ?_); rintro en w3 ⟨rfl, hg3⟩)); replace B1 := B1.grow hg3; replace B3 := B3.grow hg3; replace Ba := Ba.grow hg3; replace Bb := Bb.grow hg3; replace G := G.trans hg3; clear x1 y1 x3 y3 xa ya xb yb hg3; obtain ⟨x1, y1⟩ := B1.rules; obtain ⟨x3, y3⟩ := B3.rules; obtain ⟨xa, ya⟩ := Ba.rules; obtain ⟨xb, yb⟩ := Bb.rules; have l3 := B3.lt; have l1 := B1.lt; rcases Kc.out with hk | hk | hk | hk | hk | hk | hk
   ·exact wu_
   ·exact wt_
   ·exact wn_
   ·exact wq_
   ·exact wr_
   ·exact wp_
   ·exact wv_
  ·have z1 : (a.k != 1) = true := by simpa using hz1
   by_cases hz2 : b.k = 1
   ·have hz : a.k = 1 \/ b.k = 1 := .inr hz2; have z2 : (b.k != 1) = false := by simpa using hz2
    clear hz1 hz2; go_upto_region 21 with (go_at_call 139; ((with_reducible refine (kO a b _).mono ?_); rintro en w3 ⟨rfl, hg3⟩)); replace B1 := B1.grow hg3; replace B3 := B3.grow hg3; replace Ba := Ba.grow hg3; replace Bb := Bb.grow hg3; replace G := G.trans hg3; clear x1 y1 x3 y3 xa ya xb yb hg3; obtain ⟨x1, y1⟩ := B1.rules; obtain ⟨x3, y3⟩ := B3.rules; obtain ⟨xa, ya⟩ := Ba.rules; obtain ⟨xb, yb⟩ := Bb.rules; have l3 := B3.lt; have l1 := B1.lt; rcases Kc.out with hk | hk | hk | hk | hk | hk | hk
    ·exact wu_
    ·exact wt_
    ·exact wn_
    ·exact wq_
    ·exact wr_
    ·exact wp_
    ·exact wv_
   ·have z2 : (b.k != 1) = true := by simpa using hz2
    go_upto_region 21 with (go_at_call 139; ((with_reducible refine (kO a b _).mono ?_); rintro en w3 ⟨rfl, hg3⟩)); replace B1 := B1.grow hg3; replace B3 := B3.grow hg3; replace Ba := Ba.grow hg3; replace Bb := Bb.grow hg3; replace G := G.trans hg3; clear x1 y1 x3 y3 xa ya xb yb hg3; obtain ⟨x1, y1⟩ := B1.rules; obtain ⟨x3, y3⟩ := B3.rules; obtain ⟨xa, ya⟩ := Ba.rules; obtain ⟨xb, yb⟩ := Bb.rules; have l3 := B3.lt; have l1 := B1.lt; rcases Kc.out with hk | hk | hk | hk | hk | hk | hk
    ·exact wu_
    ·exact wt_
    ·have ek : QP k a b d = zG k a b := WB hk a b d; have m4 : (k == 4) = false := by simp; omega
     have m5 : (k == 5) = false := by simp; omega
     have m12 : (k == 12) = false := by simp; omega
     have m13 : (k == 13) = false := by simp; omega
     have m14 : (k == 14) = false := by simp; omega
     have m15 : (k == 15) = false := by simp; omega
     obtain ⟨q1, q2, q3, q4, q5, q6⟩ := Sb ra rb (Hab.out hk hz1 hz2) hz1; have hk' : k = 6 \/ k = 7 \/ k = 8 \/ k = 9 \/ k = 10 \/ k = 11 := by omega
     clear hk Hab hz1 hz2; rcases hk' with hk | hk | hk | hk | hk | hk
     ·subst hk; have hRR : R = yB (zH a b == 0) := HR.out.symm.trans (ek.trans q1); subst hRR; clear q1 q2 q3 q4 q5 q6 ek
      go_wp2_with ((go_at_call 163; ((with_reducible refine (xK _ _).mono ?_); rintro en w4 ⟨rfl, hg4⟩; obtain ⟨x3, y3⟩ := ((B3.al _).grow hg4).rules)))
      exact qX_ vD_ rfl ⟨rfl, zd⟩
     ·subst hk; have hRR : R = yB (zH a b != 0) := HR.out.symm.trans (ek.trans q2); subst hRR; clear q1 q2 q3 q4 q5 q6 ek
      go_wp2_with ((go_at_call 163; ((with_reducible refine (xK _ _).mono ?_); rintro en w4 ⟨rfl, hg4⟩; obtain ⟨x3, y3⟩ := ((B3.al _).grow hg4).rules)))
      exact qX_ vD_ rfl ⟨rfl, zd⟩
     ·subst hk; have hRR : R = yB (decide (zH a b < 0)) := HR.out.symm.trans (ek.trans q3); subst hRR; clear q1 q2 q3 q4 q5 q6 ek
      go_wp2_with ((go_at_call 163; ((with_reducible refine (xK _ _).mono ?_); rintro en w4 ⟨rfl, hg4⟩; obtain ⟨x3, y3⟩ := ((B3.al _).grow hg4).rules)))
      exact qX_ vD_ rfl ⟨rfl, zd⟩
     ·subst hk; have hRR : R = yB (decide (zH a b <= 0)) := HR.out.symm.trans (ek.trans q4); subst hRR; clear q1 q2 q3 q4 q5 q6 ek
      go_wp2_with ((go_at_call 163; ((with_reducible refine (xK _ _).mono ?_); rintro en w4 ⟨rfl, hg4⟩; obtain ⟨x3, y3⟩ := ((B3.al _).grow hg4).rules)))
      exact qX_ vD_ rfl ⟨rfl, zd⟩
     ·subst hk; have hRR : R = yB (decide (0 < zH a b)) := HR.out.symm.trans (ek.trans q5); subst hRR; clear q1 q2 q3 q4 q5 q6 ek
      go_wp2_with ((go_at_call 163; ((with_reducible refine (xK _ _).mono ?_); rintro en w4 ⟨rfl, hg4⟩; obtain ⟨x3, y3⟩ := ((B3.al _).grow hg4).rules)))
      exact qX_ vD_ rfl ⟨rfl, zd⟩
     ·subst hk; have hRR : R = yB (decide (0 <= zH a b)) := HR.out.symm.trans (ek.trans q6); subst hRR; clear q1 q2 q3 q4 q5 q6 ek
      go_wp2_with ((go_at_call 163; ((with_reducible refine (xK _ _).mono ?_); rintro en w4 ⟨rfl, hg4⟩; obtain ⟨x3, y3⟩ := ((B3.al _).grow hg4).rules)))
      exact qX_ vD_ rfl ⟨rfl, zd⟩
    ·exact wq_
    ·exact wr_
    ·exact wp_
    ·exact wv_
 ·have kc : k = 3 \/ k = 16 \/ k = 17 \/ k = 18 := by
   have h := UL H1.out
   have e : ∀ q, (4 <= q /\ q <= 15) -> zl q = 2 := fun q hq => by
    unfold zl; rw [if_neg u4_, if_neg u4_, if_pos u4_]
   by_cases hq : 4 <= k /\ k <= 15
   ·exact absurd ⟨e k hq, by omega⟩ hk2
   ·omega
  clear hk2; have arm : True := trivial; rcases kc with hk | hk | hk | hk
  ·subst hk; have hRR : R = qr a := HR.out.symm.trans (rfl); subst hRR
   go_wp2_with ((go_at_call 162; ((with_reducible refine (Vt a ra _).mono ?_); rintro en w4 ⟨rfl, hg4⟩; obtain ⟨x3, y3⟩ := (B3.grow hg4).rules)))
   exact qX_ vD_ rfl ⟨rfl, zd⟩
  ·subst hk; have hRR : R = yB (a.k == 1) := HR.out.symm.trans (rfl); subst hRR
   go_wp2_with ((go_at_call 163; ((with_reducible refine (xK _ _).mono ?_); rintro en w4 ⟨rfl, hg4⟩; obtain ⟨x3, y3⟩ := (B3.grow hg4).rules)))
   exact qX_ vD_ rfl ⟨rfl, zd⟩
  ·subst hk; have hn17 : n = 3 := by have := Hn.out; have e : zl 17 = 3 := rfl; omega
   replace K1 := K1 u3_; replace K2 := K2 u3_; replace hc1 := hc1 u4_; replace hc2 := hc2 u4_; subst hn17; have hRR : (if yq a = 2 then b else d) = R := HR.out; have hi := qX a ra
   by_cases h2 : yq a = 2
   ·rw [if_pos h2] at hRR; subst hRR; have hs : L4 a true = true := by rcases hi with ⟨r1, _, r2⟩ | ⟨r1, _, r2⟩ | ⟨r1, _, r2⟩ <;> first | exact r2 | (exfalso; omega)
    have ct := fun X => ju a true X
    rw [hs] at ct; clear hi h2 hs; go_upto_region 8 with (go_at_call 141; ((with_reducible refine (ct _).mono ?_); rintro en w4 ⟨rfl, hg4⟩)); replace B1 := B1.grow hg4; replace B3 := B3.grow hg4; replace G := G.trans hg4; clear x1 y1 x3 y3 xa ya hg4 l1 l3 la; obtain ⟨x1, y1⟩ := B1.rules; obtain ⟨x3, y3⟩ := B3.rules; have l3 := B3.lt; obtain ⟨k0, k1, k2, k3, k4, k5⟩ := hc1.grow (hg.trans G)
    go_wp2_with ((go_at_call 142; ((with_reducible refine (K1 _ (hg.trans G)).mono ?_); rintro en w5 ⟨rfl, hg5⟩; obtain ⟨x3, y3⟩ := (B3.grow hg5).rules)))
    exact qX_ vD_ rfl ⟨rfl, zd⟩
   ·rw [if_neg h2] at hRR; subst hRR; have hs : L4 a true = false := by rcases hi with ⟨r1, _, r2⟩ | ⟨r1, _, r2⟩ | ⟨r1, _, r2⟩ <;> first | exact r2 | (exfalso; omega)
    have ct := fun X => ju a true X
    rw [hs] at ct; clear hi h2 hs; go_upto_region 9 with (go_at_call 141; ((with_reducible refine (ct _).mono ?_); rintro en w4 ⟨rfl, hg4⟩)); replace B1 := B1.grow hg4; replace B3 := B3.grow hg4; replace G := G.trans hg4; clear x1 y1 x3 y3 xa ya hg4 l1 l3 la; obtain ⟨x1, y1⟩ := B1.rules; obtain ⟨x3, y3⟩ := B3.rules; have l3 := B3.lt; obtain ⟨k0, k1, k2, k3, k4, k5⟩ := hc2.grow (hg.trans G)
    go_wp2_with ((go_at_call 142; ((with_reducible refine (K2 _ (hg.trans G)).mono ?_); rintro en w5 ⟨rfl, hg5⟩; obtain ⟨x3, y3⟩ := (B3.grow hg5).rules)))
    exact qX_ vD_ rfl ⟨rfl, zd⟩
  ·subst hk; have hn18 : n = 2 := by have := Hn.out; have e : zl 18 = 2 := rfl; omega
   replace K1 := K1 u3_; replace hc1 := hc1 u4_; subst hn18; have hRR : (if a.k = 1 then b else a) = R := HR.out
   by_cases h2 : a.k = 1
   ·rw [if_pos h2] at hRR; subst hRR; have z : (a.k != 1) = false := by simpa using h2
    clear h2; obtain ⟨k0, k1, k2, k3, k4, k5⟩ := hc1.grow (hg.trans G)
    go_wp2_with ((go_at_call 142; ((with_reducible refine (K1 _ (hg.trans G)).mono ?_); rintro en w5 ⟨rfl, hg5⟩; obtain ⟨x3, y3⟩ := (B3.grow hg5).rules)))
    exact qX_ vD_ rfl ⟨rfl, zd⟩
   ·rw [if_neg h2] at hRR; subst hRR; have z : (a.k != 1) = true := by simpa using h2
    clear h2; go_wp2; exact qX_ vD_ rfl ⟨rfl, zd⟩
