/- Parts of a proof. No condition. -/
import Derived.Test.YthhbiemnbkfobaaGreatGDb
import Derived.Test.YthhbiemnbkfobaaGreatGSd
import Derived.Test.YthhbiemnbkfobaaGreatGDa
set_option maxRecDepth 100000
set_option maxHeartbeats 8000000
set_option linter.unusedSimpArgs false
set_option linter.unusedVariables false
namespace Go.Proofs.YthhbiemnbkfobaaGreat
open Go.RowKit Go.Calm
theorem MH : ∀ l : List Z, yV 0 l = []
  | [] => rfl
  | x :: l => by unfold yV; rw [if_neg vU_]; exact MH l
theorem SH (K : KD) (ys : List I) (B : Option Addr) (cap : Nat) (w3 w4 : World) (hg : za w3 w4) (own : (B = none /\ ys = [] /\ cap = 0) \/ ∃ g, B = some ⟨g, 0, none⟩ /\ w3.heap.size <= g /\ kN w4 g ys) (hv : ∀ y ∈ ys, xd w3 y.A y.row) (hl : ys.length <= 1000) (ht : ys.Pairwise tg) (hr8 : ∀ y ∈ ys, y.row.length <= 1000) (hrv : ∀ y ∈ ys, ∀ v ∈ y.row, RV v) (hre : ∀ y ∈ ys, ∀ e ∈ K.k.es, RE y.row.length e) (hkl : K.k.es.length <= 1000) (hk : zc w3 K.k.gk 60 #[.pointer (some ⟨K.gx, K.ox, none⟩)]) (hc : w3.cell? ⟨K.gx, K.ox + 8, none⟩ = some (.slice K.k.A K.k.es.length K.k.c)) (hes : Y6 w3 K.k.A K.k.es) :
    Calls Tryz.prog 72 #[.slice B ys.length cap, (Cr K)] w4 fun en w' => en = .returned (.tuple #[]) /\ (∃ M : List I, M.Perm ys /\ FG K.k M /\ yI w' B M) /\ za w3 w' := by
  rcases own with ⟨rfl, rfl, rfl⟩ | ⟨g, rfl, hB, db⟩
  · refine (Wk (.d K.k.gk) w4).mono ?_
    rintro en w' ⟨rfl, hg'⟩; exact ⟨rfl, ⟨[], List.Perm.refl _, List.Pairwise.nil, zu _ _⟩, hg.trans hg'⟩
  · have base : ∀ W, GX g w4 W -> za w3 W := fun W h => GX.base hg hB h
    have good : ∀ y ∈ ys, Yr K g w4 y := fun y hy => ⟨fun W h => (hv y hy).grow (base W h), fun W h => ⟨hk.grow (base W h), (base W h).cell hc, hes.grow (base W h)⟩, by have := hr8 y hy; omega, hkl, hrv y hy, hre y hy⟩
    refine (KR (K := K) ys ys.length cap g w4 w4 rfl vU_ ht good (GX.refl _ _) db).mono ?_; rintro en w' ⟨rfl, ⟨M, p, u, db'⟩, hgx⟩; exact ⟨rfl, ⟨M, p, u, db'.zin (fun x hx => (good x (p.mem_iff.1 hx)).sl _ hgx)⟩, base _ hgx⟩
structure Lb (es : List E) (n : Int) (xs : List I) : Prop where
  len : xs.length <= 1000
  up : xs.Pairwise tg
  row : ∀ y ∈ xs, y.row.length <= 1000
  rv : ∀ y ∈ xs, ∀ v ∈ y.row, RV v
  w : ∀ y ∈ xs, -1000000000 <= y.w /\ y.w <= 1000000000
  re : ∀ y ∈ xs, ∀ e ∈ es, RE y.row.length e
  kl : es.length <= 1000
  n0 : 0 <= n /\ n <= 50
def Qp (es : List E) (n : Int) (xs : List I) (w w' : World) (en : Ending) : Prop := ∃ (B : Option Addr) (ys : List I) (cap : Nat), en = .returned (.slice B ys.length cap) /\ yI w' B ys /\ zN B ys.length cap /\ ys.map zp = xx es n (xs.map zp) /\ yP ys /\ ys.length <= 1000 /\ za w w'
theorem Jd (p : PL) (gx ox : Nat) (xs : List I) (A : Option Addr) (c : Nat) (w : World) (hx : zJ w gx ox p) (hE : Y6 w p.xs.A p.xs.l) (hz : yI w A xs) (hk : zN A xs.length c) (ok : Lb p.xs.l p.n xs) :
    Calls Tryz.prog 103 #[.pointer (some ⟨gx, ox, none⟩), .slice A xs.length c] w fun en w' => Qp p.xs.l p.n xs w w' en := by
  have HX := hh_ (And.intro hx.c8 hx.c1); have HE := hh_ hE; have HZ := hh_ hz; have OK := hh_ ok; have lx := ok.len; have n0 := ok.n0; obtain ⟨n, hn⟩ : ∃ n, p.n = n := ⟨_, rfl⟩
  rw [hn] at n0 HX OK ⊢; obtain ⟨R, hR⟩ : ∃ R, xx p.xs.l n (xs.map zp) = R := ⟨_, rfl⟩
  have HR := hh_ hR; clear hx hE hz ok hn hR; go_enter Tryz.func103, Tryz.ntmps103; go_upto_region 1 with fail
  refine zd (fun X => zc X w.heap.size 60 #[.pointer (some ⟨gx, ox, none⟩)] /\ za w X) ⟨zc.new _ _ _, (za.refl w).al _⟩ ?_; generalize w.heap.size = gk; rintro X ⟨Bk, G⟩; have BK := hh_ Bk; have ccl := Nd xs A c X vU_ (HZ.out.grow G) hk; clear Bk; have cdel := fun (B : Option Addr) (cap : Nat) W (own : W.ownsRow X.heap.size 54 2 (.slice B xs.length cap) xs.length (zq xs)) (h : za X W) => LP xs B cap W vU_ (V7 own) (Wa own (fun y hy => (HZ.out.vsl y hy).grow (G.trans h))) (fun hne => Ba own hne)
  go_upto_region 2 with (first
    | (go_at_call 137; ((with_reducible refine ccl.mono ?_); rintro e w2 ⟨B1, cap1, rfl, own1, hg2⟩; have Own1 := hh_ own1; clear own1))
    | (go_at_call 136; ((with_reducible refine (cdel B1 cap1 w2 Own1.out hg2).mono ?_); rintro e w3 ⟨rfl, h3⟩; have H3 := hh_ h3; clear h3)))
  clear ccl cdel; obtain ⟨ys, hys⟩ : ∃ ys, xs.filter xa = ys := ⟨_, rfl⟩
  have sub : ∀ y ∈ ys, y ∈ xs /\ 0 < y.w := fun y hy => by
    rw [<- hys] at hy; obtain ⟨h1, h2⟩ := List.mem_filter.1 hy; exact ⟨h1, by simpa [xa] using h2⟩
  have st : za X w3 /\ ((B1 = none /\ ys = [] /\ cap1 = 0) \/ ∃ g, B1 = some ⟨g, 0, none⟩ /\ X.heap.size <= g /\ kN w3 g ys) := by
    rcases JG Own1.out with ⟨rfl, e0, rfl⟩ | ⟨g, rfl, hB⟩
    · rcases H3.out with ⟨_, hg3⟩ | ⟨g, e, _⟩
      · exact ⟨hg2.trans hg3, .inl ⟨rfl, by rw [<- hys, List.length_eq_zero_iff.1 e0]; rfl, rfl⟩⟩
      · cases e
    · rcases H3.out with ⟨e0, hg3⟩ | ⟨g', e, db, hgx⟩
      · subst e0
        exact ⟨hg2.trans hg3, .inr ⟨g, rfl, hB, by rw [<- hys]; exact ((NV Own1.out).1.grow hg3)⟩⟩
      · simp at e
        subst e; exact ⟨GX.base hg2 hB hgx, .inr ⟨g, rfl, hB, by rw [<- hys]; exact db⟩⟩
  have ly : ys.length <= 1000 := by rw [<- hys]; have := List.length_filter_le xa xs; omega
  have cs := SH ⟨⟨p.xs.l, p.xs.A, p.xs.c, gk⟩, gx, ox⟩ ys B1 cap1 X w3 st.1 st.2 (fun y hy => (HZ.out.vsl y (sub y hy).1).grow G) ly (by rw [<- hys]; exact OK.out.up.filter _) (fun y hy => OK.out.row y (sub y hy).1) (fun y hy => OK.out.rv y (sub y hy).1) (fun y hy => OK.out.re y (sub y hy).1) OK.out.kl BK.out (G.cell HX.out.1) (HE.out.grow G); have HYS := hh_ hys; have SUB := hh_ sub; rw [hys]; clear st H3 hys sub Own1; go_upto_region 3 with (go_at_call 72; ((with_reducible refine cs.mono ?_); rintro e w5 ⟨rfl, ⟨M, pM, uM, zM⟩, hg5⟩)); clear cs; have lM : M.length = ys.length := pM.length_eq
  have eM : M.map zp = ql p.xs.l ((xs.map zp).filter (fun x => decide (0 < x.2))) := by
    have e1 : (xs.map zp).filter (fun x => decide (0 < x.2)) = ys.map zp := by rw [<- HYS.out, List.filter_map]; rfl
    rw [e1]; refine Wj ?_ (pM.map zp) (by rw [List.pairwise_map]; exact uM); rw [List.pairwise_map, <- HYS.out]; exact OK.out.up.filter _
  have fin : R = yV n (M.map zp) := by rw [eM, <- HR.out]; rfl
  have FIN := hh_ fin; have mem : ∀ u ∈ M, u ∈ xs /\ 0 < u.w := fun u hu => SUB.out u (pM.mem_iff.1 hu)
  have Mem := hh_ mem; have ZM := hh_ zM; have G5 := G.trans hg5; obtain ⟨bk, fk⟩ := (BK.out.grow hg5).rules; have cn := G5.cell HX.out.2; clear eM fin mem zM pM uM; go_upto_region 4 with fail
  go_wp2
  go_loopw [6, 7, 22] (fun lf t i wr => ∃ (j : Nat) (out : List I) (left : Int), j <= ys.length /\ i = .int .i64 j /\ lf = .int .i64 left /\ 0 <= left /\ left <= 50 /\ wr.ownsRow w5.heap.size 54 2 t out.length (zq out) /\ out.length <= j /\ out.map zp ++ yV left ((M.drop j).map zp) = R /\ (∀ u ∈ out, (∃ y ∈ M, u.A = y.A /\ u.row = y.row) /\ 0 < u.w /\ u.w <= 50) /\ za w5 wr) (fun _ _ i _ => ys.length - (intOf i).toNat)
  case atStart => exact ⟨0, [], n, Nat.zero_le _, rfl, rfl, n0.1, n0.2, World.ownsRow_nil _ _ _ _, Nat.le_refl _, FIN.out.symm, fun u hu => by simp at hu, za.refl _⟩
  case round =>
    rename World => wr
    obtain ⟨j, out, left, hj, rfl, rfl, hl0, hl50, own, lo, hgo, hall, hg⟩ := hrel; obtain ⟨Bo, capo, rfl⟩ := yH own; have Own := hh_ own; have Go := hh_ hgo; have All := hh_ hall; clear own hgo hall
    have done_ : ∀ W, za wr W -> out.map zp = R -> Qp p.xs.l n xs w W (.returned (.slice Bo out.length capo)) := fun W h e => by
      obtain ⟨B9, cap9, e9, hz9, hk9⟩ := qN (zr Own.out h) (fun u hu => by
        obtain ⟨⟨y, hy, eA, er⟩, _⟩ := All.out u hu; rw [eA, er]
        exact (ZM.out.vsl y hy).grow (hg.trans h))
      simp only [Value.slice.injEq] at e9; obtain ⟨rfl, _, rfl⟩ := e9; exact ⟨Bo, out, capo, rfl, hz9, hk9, by rw [e, <- HR.out], ⟨by omega, fun u hu => by obtain ⟨⟨y, hy, _, er⟩, _⟩ := All.out u hu; rw [er]; exact OK.out.row y (Mem.out y hy).1, fun u hu => by obtain ⟨⟨y, hy, _, er⟩, _⟩ := All.out u hu; rw [er]; exact OK.out.rv y (Mem.out y hy).1, fun u hu => by have := (All.out u hu).2; omega⟩, by omega, G5.trans (hg.trans h)⟩
    have Done := hh_ done_; clear done_
    by_cases hlt : j < ys.length
    · obtain ⟨y, hyk⟩ : ∃ y, M[j]? = some y := ⟨_, qQ_ vU_⟩
      obtain ⟨g9, o9, eB1, c1, c2, hyv⟩ := (ZM.out.grow hg) j y hyk; subst eB1; have hm := qZ_ hyk; have wyy := (Mem.out y hm).2; have wy2 := OK.out.w y (Mem.out y hm).1; have st := MG left hyk; have Hm := hh_ hm; have St := hh_ st; clear hyk hyv hm st; go_upto_region 8 with fail
      refine zd (fun Z => zc Z wr.heap.size 54 #[.slice y.A y.row.length y.cap, .int .i64 y.w] /\ za wr Z) ⟨zc.new _ _ _, (za.refl wr).al _⟩ ?_; rintro Z ⟨Bz, Gz⟩; have BZ := hh_ Bz; obtain ⟨bz, fz⟩ := Bz.rules; clear c1 c2 Bz
      by_cases hl : left = 0
      · subst hl
        have e0 : out.map zp = R := by have h := Go.out; rw [MH, List.append_nil] at h; exact h
        have E0 := hh_ e0; clear e0; go_wp2; go_ret; exact Done.out _ Gz E0.out
      · have dl : (left == 0) = false := by simpa using hl
        have hl1 : 0 < left := by omega
        go_upto_region 10 with fail
        refine zd (fun Z2 => zc Z2 wr.heap.size 54 #[.slice y.A y.row.length y.cap, .int .i64 (min y.w left)] /\ za wr Z2) ⟨by simpa using zc.set BZ.out 1 (.int .i64 (min y.w left)), za.set Gz (Nat.le_refl _) _⟩ ?_; rintro Z2 ⟨Bz2, Gz2⟩; obtain ⟨m, hmin⟩ : ∃ m, min y.w left = m := ⟨_, rfl⟩
        rw [hmin] at Bz2; have hm1 : 0 < m /\ m <= y.w /\ m <= left := by rw [<- hmin]; omega
        have hmin2 : (if y.w <= left then y.w else left) = m := by rw [<- hmin]; split <;> omega
        have Hmin := hh_ hmin2; obtain ⟨bz2, fz2⟩ := Bz2.rules; have hwp : IntKind.i64.wrap (left - m) = left - m := by rw [IntKind.wrap_i64]; omega
        have Own2 := hh_ (zr Own.out Gz2); have sz2 := (hg.trans Gz2).size; clear hmin2 bz fz Bz2 hmin
        go_wp2_with (at_builtin; refine zZ rfl _ _ rfl w5.heap.size _ _ _ rfl (Own2.out.alloc _) _ [I.mk y.A y.row y.cap m] rfl (jD rfl (zc.new _ _ _)) vN_ vN_ ?_; intro v7 w7 own7 gr7)
        have G7 : za w5 w7 := yg ((hg.trans Gz2).al _) gr7 (Own2.out.alloc _); have Own7 := hh_ own7; clear own7 gr7; go_roundw
        case rel =>
          refine ⟨j + 1, out ++ [I.mk y.A y.row y.cap m], left - m, by omega, by go_num, rfl, by omega, by omega, by simpa using Own7.out, by simp; omega, ?_, fun u hu => ?_, G7⟩
          · have h1 := Go.out
            rw [St.out, if_pos hl1, Hmin.out] at h1; rw [List.map_append, List.append_assoc]; exact h1
          · rcases List.mem_append.1 hu with hu | hu
            · exact All.out u hu
            · simp at hu
              subst hu; exact ⟨⟨y, Hm.out, rfl, rfl⟩, by show 0 < m; omega, by show m <= 50; omega⟩
        case measure => exact vZ_
    · obtain rfl : j = ys.length := by omega
      have e0 : out.map zp = R := by
        have h1 := Go.out; rw [<- lM, List.drop_length] at h1; simpa [yV] using h1
      have E0 := hh_ e0; clear e0; go_wp2; go_ret; exact Done.out _ (za.refl _) E0.out
theorem UR (p : PL) (gx ox : Nat) (xs ns : List I) (A An : Option Addr) (c cn : Nat) (w : World) (hx : zJ w gx ox p) (hE : Y6 w p.xs.A p.xs.l) (hz : yI w A xs) (hk : zN A xs.length c) (ok : Lb p.xs.l p.n xs) (hzn : yI w An ns) (hkn : zN An ns.length cn) (okn : Lb p.xs.l p.n ns) :
    Calls Tryz.prog 67 #[.pointer (some ⟨gx, ox, none⟩), .slice A xs.length c, .slice An ns.length cn] w fun en w' => zK w w' en (zW (xx p.xs.l p.n (ns.map zp) ++ zP (-1) (xx p.xs.l p.n (xs.map zp)))) := by
  have c1 := fun W (h : za w W) => Jd p gx ox ns An cn W (hx.grow h) (hE.grow h) (hzn.grow h) hkn okn
  have c2 := fun W (h : za w W) => Jd p gx ox xs A c W (hx.grow h) (hE.grow h) (hz.grow h) hk ok
  obtain ⟨R1, hR1⟩ : ∃ R, xx p.xs.l p.n (ns.map zp) = R := ⟨_, rfl⟩
  obtain ⟨R2, hR2⟩ : ∃ R, xx p.xs.l p.n (xs.map zp) = R := ⟨_, rfl⟩
  unfold Qp at c1 c2; rw [hR1] at c1; rw [hR2] at c2; rw [hR1, hR2]; have C1 := hh_ c1; have C2 := hh_ c2; clear hx hE hz ok hzn okn hR1 hR2 c1 c2; go_enter Tryz.func67, Tryz.ntmps67
  go_wp2_with (first
    | (go_at_call 103; ((with_reducible refine (C1.out _ (za.refl _)).mono ?_); rintro e w2 ⟨B1, ys1, cap1, rfl, z1, k1, m1, s1, l1, hg2⟩; have O1 := hh_ (And.intro z1 (And.intro k1 (And.intro m1 (And.intro s1 l1)))); clear z1 k1 m1 s1 l1))
    | (go_at_call 103; ((with_reducible refine (C2.out _ hg2).mono ?_); rintro e w3 ⟨B2, ys2, cap2, rfl, z2, k2, m2, s2, l2, hg3⟩; have O2 := hh_ (And.intro z2 (And.intro k2 (And.intro m2 (And.intro s2 l2)))); clear z2 k2 m2 s2 l2))
    | (go_at_call 62; ((with_reducible refine (KF ys2 B2 cap2 _ (by have := O2.out.2.2.2.2; omega) O2.out.1 O2.out.2.2.2.1.w).mono ?_); rintro e w4 ⟨B3, zs, cap3, rfl, e3, z3, k3, hg4⟩; have O3 := hh_ (And.intro e3 (And.intro z3 k3)); clear e3 z3 k3))
    | (go_at_call 60; ((with_reducible refine (qL ⟨B1, ys1, cap1⟩ ⟨B3, zs, cap3⟩ _ _ _ (zc.new _ _ _) (O1.out.1.grow ((hg3.trans hg4).al _)) (O3.out.2.1.grow ((za.refl _).al _)) O1.out.2.1 O3.out.2.2 (O1.out.2.2.2.1.app (O2.out.2.2.2.1.neg O3.out.1) (by have h1 := O1.out.2.2.2.2; have h2 := O2.out.2.2.2.2; have h3 := congrArg List.length O3.out.1; simp at h3; show ys1.length + zs.length <= 10000; omega))).mono ?_); rintro e w5 ⟨B, ys, cap, rfl, hz, hm, hk5, hg5⟩; have O5 := hh_ (And.intro hz (And.intro hm hk5)); clear hz hm hk5)))
  go_ret; refine ⟨B, ys, cap, rfl, O5.out.1, ?_, O5.out.2.2, hg2.trans (hg3.trans ((hg4.al _).trans hg5))⟩; rw [O5.out.2.1]; show zW (ys1.map zp ++ zs.map zp) = _; rw [O1.out.2.2.1, O3.out.1, Cy, O2.out.2.2.1]
