/- Parts of a proof. No condition. -/
import Derived.Test.YthhbiemnbkfobaaGreatGH
set_option maxRecDepth 100000
set_option maxHeartbeats 8000000
set_option maxRecDepth 100000
set_option linter.unusedSimpArgs false
set_option linter.unusedVariables false
namespace Go
variable {p : Prop}
theorem ot_ (h : p := by simp [results, Tryz.results34, go_sem] <;> rfl) : p := h
theorem vy_ (h : p := by rw [Hb.out]; simp) : p := h
theorem vJ_ (h : p := by simpa using h4) : p := h
theorem un_ (h : p := by
 obtain rfl : k = xs.length := by omega
 have fin : R = 0 := by have := kL.out; rw [List.drop_length] at this; exact this.symm
 go_wp2; go_ret; exact zx fin.symm hg) : p := h
end Go
namespace Go.Proofs.YthhbiemnbkfobaaGreat
open Go.RowKit Go.Calm
theorem Ww (xs : List I) (A : Option Addr) (c : Nat) (w : World) (hlen : xs.length <= 9223372036854775807) (hz : yI w A xs) (hl : ∀ x ∈ xs, x.row.length <= 9223372036854775807) (R : Int) (hR : zw (xs.map zp) = R) :
    Calls Tryz.prog 46 #[.slice A xs.length c] w fun en w' => en = .returned (.int .i64 R) /\ za w w' := by
  have HR := hh_ hR; have Hz := hh_ hz; have Hl := hh_ hl; clear hz hR hl; go_enter Tryz.func46, Tryz.ntmps46
  by_cases h8 : 400 < xs.length
  · have d8 : decide ((400 : Int) < (xs.length : Int)) = true := by simp; omega
    go_wp2; go_ret; exact zx (by rw [<- HR.out]; unfold zw; rw [if_pos (by simpa using h8)]) (za.refl _)
  · have d8 : decide ((400 : Int) < (xs.length : Int)) = false := by simp; omega
    have inv0 : U9 (Xa xs 0) ((xs.drop 0).map zp) = R := by rw [<- HR.out]; unfold zw; rw [if_neg (by simpa using h8), List.drop_zero]; rfl
    have Inv0 := hh_ inv0; clear inv0; go_wp2
    go_loopw [11] (fun i wr => ∃ k : Nat, k <= xs.length /\ i = .int .i64 k /\ U9 (Xa xs k) ((xs.drop k).map zp) = R /\ za w wr) (fun i _ => xs.length - (intOf i).toNat)
    case atStart => exact u9_
    case round =>
      obtain ⟨k, hk, rfl, hinv, hg⟩ := hrel; have kL := hh_ hinv; clear hinv
      by_cases hlt : k < xs.length
      · obtain ⟨x, hxk⟩ : ∃ x, xs[k]? = some x := ⟨_, qQ_ hlt⟩
        obtain ⟨gx, ox, rfl, c1, c2, hxv⟩ := (Hz.out.grow hg) k x hxk; have hlx := Hl.out x (qZ_ hxk); have inv2 := (Ei hxk).symm.trans kL.out; have Inv2 := hh_ inv2; have Hxk := hh_ hxk; have Hxv := hh_ hxv; have cb := fun W (h : za wr W) (R : Int) (hR : XH x.row = R) => BE x.row x.A x.cap W hlx (Hxv.out.grow h) R hR
        obtain ⟨rx, hrx⟩ : ∃ r, XH x.row = r := ⟨_, rfl⟩
        rw [hrx] at inv2; have Inv2 := hh_ inv2; clear inv2 hxk hxv; go_upto_region 6 with fail
        refine zd (fun X => zc X wr.heap.size 54 #[.slice x.A x.row.length x.cap, .int .i64 x.w] /\ za wr X) ⟨zc.new _ _ _, (za.refl wr).al _⟩ ?_; rintro X ⟨Bx, G⟩; obtain ⟨bx, fx⟩ := Bx.rules
        by_cases hw : rx = 0
        · have dw : (rx != 0) = false := by simpa using hw
          rw [if_neg vI_] at Inv2; go_upto_region 9 with (go_at_call 82; ((with_reducible refine (cb _ G rx hrx).mono ?_); rintro e w2 ⟨rfl, hg2⟩; have Bx2 := hh_ (Bx.grow hg2))); obtain ⟨bx2, fx2⟩ := Bx2.out.rules; have G2 := G.trans hg2
          by_cases h0 : x.w = 0
          · have d0 : (x.w == 0) = true := by simpa using h0
            go_wp2; go_ret; exact zx (by have := Inv2.out; rw [if_pos (.inl h0)] at this; exact this) (hg.trans G2)
          · have d0 : (x.w == 0) = false := by simpa using h0
            by_cases h1 : qt x.w = true
            · go_wp2_with (go_at_call 71; ((with_reducible refine (Yp _ _).mono ?_); rintro e w3 ⟨rfl, rfl⟩; rw [h1]))
              go_ret; exact zx (by have := Inv2.out; rw [if_pos (.inr h1)] at this; exact this) (hg.trans G2)
            · have h1' : qt x.w = false := by simpa using h1
              have inv3 := Inv2.out; rw [if_neg (by simp [h0, h1'])] at inv3; have Inv3 := hh_ inv3; clear inv3 Inv2; go_upto_region 11 with (go_at_call 71; ((with_reducible refine (Yp _ _).mono ?_); rintro e w3 ⟨rfl, rfl⟩; rw [h1'])); cases k with
              | zero =>
                have e : R = U9 (Xa xs 1) ((xs.drop 1).map zp) := by have := Inv3.out; simpa [Xa, Lr] using this.symm
                have E := hh_ e; clear e; apply zb 15 vP_ vP_
                case h' =>
                  intro Q0 hQ0; simp only [List.take_succ_cons, List.take_zero]
                  repeat ((first | ((first | apply zh rfl | apply zo rfl rfl rfl); case h1 => (intro w1 hw1 hF K hK; obtain ⟨bx, fx⟩ := (zc.grow Bx2.out hw1).rules; go_simp; first | exact hK _ (za.refl _))) | apply zm rfl rfl rfl rfl); intro K hK; go_simp; apply hK; clear hK K)
                  refine zk ?_; intro w1 hw1 hF; apply hQ0; clear hQ0; simp only [List.drop_succ_cons, List.drop_zero]; clear hF; go_wp2; go_roundw
                  case rel => exact ⟨1, by omega, rfl, E.out.symm, hg.trans (G2.trans hw1)⟩
                  case measure => exact vZ_
                case hp' => trivial
              | succ j =>
                obtain ⟨y, hyk⟩ : ∃ y, xs[j]? = some y := ⟨_, qQ_ vU_⟩
                obtain ⟨gy, oy, ey, cy1, cy2, hyv⟩ := (Hz.out.grow hg) j y hyk; cases ey; have hly := Hl.out y (qZ_ hyk); obtain ⟨cr, hcr⟩ : ∃ r, zB xP y.row x.row = r := ⟨_, rfl⟩
                have cc := fun W (h : za wr W) => qd y.row x.row y.A x.A y.cap x.cap W hly hlx (hyv.grow h) (Hxv.out.grow h)
                rw [hcr] at cc; have inv4 := Inv3.out; rw [show Lr (Xa xs (j + 1)) x.row = decide (0 <= cr) by unfold Xa; rw [if_neg vU_, Nat.add_sub_cancel, hyk, <- hcr]; first | done | rfl] at inv4; have Inv4 := hh_ inv4; have Hy := hh_ (show wr.cell? ⟨gx, ox + j * 2, none⟩ = some (.slice y.A y.row.length y.cap) from cy1); have p0 : (0 : Int) < (j : Int) + 1 := by omega
                have dj : decide ((0 : Int) < (j : Int) + 1) = true := decide_eq_true vU_; have hwp : IntKind.i64.wrap (j : Int) = (j : Int) := by rw [IntKind.wrap_i64]; omega
                have jz1 : (j : Int) < (xs.length : Int) := by omega
                have jz3 : j < xs.length := by omega
                clear inv4 Inv3 hyk cy1 cy2 hyv hcr c1 c2; apply zb 15 vP_ vP_
                case h' =>
                  intro Q0 hQ0; simp only [List.take_succ_cons, List.take_zero]
                  repeat ((first | ((first | apply zh rfl | apply zo rfl rfl rfl); case h1 => (intro w1 hw1 hF K hK; obtain ⟨bx, fx⟩ := (zc.grow Bx2.out hw1).rules; have cy1 := (G2.trans hw1).cell Hy.out; go_simp; first | exact hK _ (za.refl _) | (go_at_call 74; ((with_reducible refine (cc _ (G2.trans hw1)).mono ?_); rintro e w' ⟨rfl, hg⟩; exact ⟨_, rfl, hK _ hg⟩)))) | apply zm rfl rfl rfl rfl); intro K hK; go_simp; apply hK; clear hK K)
                  refine zk ?_; intro w1 hw1 hF; apply hQ0; clear hQ0; simp only [List.drop_succ_cons, List.drop_zero]; clear hF
                  by_cases hc : 0 <= cr
                  · have dc : decide (0 <= cr) = true := by simpa using hc
                    simp only [dc]; go_wp2; go_ret; exact zx (by have := Inv4.out; rw [if_pos dc] at this; exact this) (hg.trans (G2.trans hw1))
                  · have dc : decide (0 <= cr) = false := by simpa using hc
                    simp only [dc]; go_wp2; go_roundw
                    case rel => exact ⟨j + 2, by omega, by go_num, by have := Inv4.out; rw [if_neg (by simp [dc])] at this; exact this, hg.trans (G2.trans hw1)⟩
                    case measure => exact vZ_
                case hp' => trivial
        · have dw : (rx != 0) = true := by simpa using hw
          go_wp2_with (go_at_call 82; ((with_reducible refine (cb _ G rx hrx).mono ?_); rintro e w2 ⟨rfl, hg2⟩))
          go_ret; exact zx op_ (hg.trans (G.trans hg2))
      · exact un_
abbrev E6 : Value := .func (.func 70) #[] #[]
theorem Dt (x : I) (w : World) : Calls Tryz.prog 70 #[x.val] w fun e w' => e = .returned (.bool (qt x.w)) /\ za w w' := by
  unfold I.val; go_enter Tryz.func70, Tryz.ntmps70
  go_wp2_with (go_at_call 71; ((with_reducible refine (Yp _ _).mono ?_); rintro e w3 ⟨rfl, rfl⟩))
  go_ret; exact jq vV_ zi
theorem R5 (xs : List I) (A : Option Addr) (c : Nat) (w : World) (hlen : xs.length <= 9223372036854775807) (hz : yI w A xs) :
    Calls Tryz.prog 107 #[.slice A xs.length c, E6] w fun en w' => (∃ i : Int, en = .returned (.int .i64 i) /\ decide (0 <= i) = (xs.map zp).any (fun x => qt x.2)) /\ za w w' := by
  have Hz := hh_ hz; clear hz; go_enter Tryz.func107, Tryz.ntmps107; go_wp2
  go_loopw [8] (fun i wr => ∃ k : Nat, k <= xs.length /\ i = .int .i64 k /\ ((xs.drop k).map zp).any (fun x => qt x.2) = (xs.map zp).any (fun x => qt x.2) /\ za w wr) (fun i _ => xs.length - (intOf i).toNat)
  case atStart => exact ⟨0, Nat.zero_le _, rfl, rfl, za.refl _⟩
  case round =>
    obtain ⟨k, hk, rfl, hinv, hg⟩ := hrel; have kL := hh_ hinv; clear hinv
    by_cases hlt : k < xs.length
    · obtain ⟨x, hxk⟩ : ∃ x, xs[k]? = some x := ⟨_, qQ_ hlt⟩
      obtain ⟨gx, ox, rfl, c1, c2, hxv⟩ := (Hz.out.grow hg) k x hxk; have inv2 := (Dn hxk).symm.trans kL.out; have Inv2 := hh_ inv2; obtain ⟨b, hb⟩ : ∃ b, qt x.w = b := ⟨_, rfl⟩
      have cc := fun W => Dt x W
      rw [hb] at cc; have Hb := hh_ hb; clear inv2 hxk hxv hb; cases b with
      | true =>
        go_wp2_with (go_at_call 70; ((with_reducible refine (cc _).mono ?_); rintro e w3 ⟨rfl, hg3⟩))
        go_ret; exact ⟨⟨_, rfl, by have := Inv2.out; rw [Hb.out, Bool.true_or] at this; rw [<- this]; simp⟩, hg.trans hg3⟩
      | false =>
        go_wp2_with (go_at_call 70; ((with_reducible refine (cc _).mono ?_); rintro e w3 ⟨rfl, hg3⟩))
        go_roundw
        case rel => exact ⟨k + 1, by omega, by go_num, by have := Inv2.out; rw [Hb.out, Bool.false_or] at this; exact this, hg.trans hg3⟩
        case measure => exact vZ_
    · obtain rfl : k = xs.length := by omega
      go_wp2; go_ret; exact ⟨⟨_, rfl, by have := kL.out; rw [List.drop_length] at this; rw [<- this]; rfl⟩, hg⟩
theorem Kj (xs : List I) (A : Option Addr) (c : Nat) (w : World) (hlen : xs.length <= 9223372036854775807) (hz : yI w A xs) :
    Calls Tryz.prog 69 #[.slice A xs.length c, E6] w fun en w' => en = .returned (.bool ((xs.map zp).any (fun x => qt x.2))) /\ za w w' := by
  have cs := R5 xs A c w hlen hz; have Hz := hh_ hz; clear hz; go_enter Tryz.func69, Tryz.ntmps69
  go_wp2_with (go_at_call 107; ((with_reducible refine cs.mono ?_); rintro en w2 ⟨⟨i, rfl, hi⟩, hg2⟩; have Hi := hh_ hi; clear hi))
  go_ret; exact jq Hi.out hg2
abbrev FI (x : I) : Prop := x.row.length <= x.cap
def J9 (P : I -> Prop) (w w' : World) (e : Ending) (r : List Z × Int) : Prop := ∃ (B : Option Addr) (ys : List I) (cap : Nat), e = .returned (.tuple #[.slice B ys.length cap, .int .i64 r.2]) /\ yI w' B ys /\ ys.map zp = r.1 /\ zN B ys.length cap /\ (∀ y ∈ ys, P y) /\ za w w'
theorem J9.gives {P : I -> Prop} {w w' : World} {e : Ending} {r : List Z × Int} (h : J9 P w w' e r) : yK w w' e r := by
  obtain ⟨B, ys, cap, h1, h2, h3, h4, _, h5⟩ := h; exact ⟨B, ys, cap, h1, h2, h3, h4, h5⟩
theorem E7 (xs : List I) (A : Option Addr) (c : Nat) (w : World) (hlen : xs.length <= 9223372036854775807) (hz : yI w A xs) (hok : zN A xs.length c) (P : I -> Prop) (hP : ∀ x ∈ xs, P x) :
    Calls Tryz.prog 34 #[.slice A xs.length c] w fun en w' => J9 P w w' en (YE (xs.map zp)) := by
  have cs := Kj xs A c w hlen hz; have Hz := hh_ hz; obtain ⟨b, hb⟩ : ∃ b, (xs.map zp).any (fun x => qt x.2) = b := ⟨_, rfl⟩
  rw [hb] at cs; have Hb := hh_ hb; clear hz hb; go_enter Tryz.func34, Tryz.ntmps34; cases b with
  | true =>
    go_wp2_with (go_at_call 69; ((with_reducible refine cs.mono ?_); rintro en w2 ⟨rfl, hg2⟩))
    refine qX_ ot_ rfl ?_; exact ⟨none, [], 0, by unfold YE; rw [if_pos Hb.out]; rfl, zu _ _, by unfold YE; rw [if_pos Hb.out]; rfl, zN.nil, fun y hy => by simp at hy, hg2⟩
  | false =>
    by_cases h4 : 400 < xs.length
    · have d4 : decide ((400 : Int) < (xs.length : Int)) = true := decide_eq_true vU_
      go_wp2_with (go_at_call 69; ((with_reducible refine cs.mono ?_); rintro en w2 ⟨rfl, hg2⟩))
      refine qX_ ot_ rfl ?_; exact ⟨none, [], 0, by unfold YE; rw [if_neg vy_, if_pos vJ_]; rfl, zu _ _, by unfold YE; rw [if_neg vy_, if_pos vJ_]; rfl, zN.nil, fun y hy => by simp at hy, hg2⟩
    · have d4 : decide ((400 : Int) < (xs.length : Int)) = false := decide_eq_false vU_
      go_wp2_with (go_at_call 69; ((with_reducible refine cs.mono ?_); rintro en w2 ⟨rfl, hg2⟩))
      refine qX_ ot_ rfl ?_; exact ⟨A, xs, c, by unfold YE; rw [if_neg vy_, if_neg vJ_], Hz.out.grow hg2, by unfold YE; rw [if_neg vy_, if_neg vJ_], hok, hP, hg2⟩
theorem Fm (xs : List I) (A : Option Addr) (c : Nat) (w : World) (hlen : xs.length <= 200000) (hz : yI w A xs) (hrow : ∀ x ∈ xs, x.row.length <= 1000) (hrv : ∀ x ∈ xs, ∀ v ∈ x.row, RV v) (hw : ∀ x ∈ xs, -1000000000000 <= x.w /\ x.w <= 1000000000000) :
    Calls Tryz.prog 20 #[.slice A xs.length c] w fun en w' => J9 FI w w' en (yF (xs.map zp)) := by
  have cs := JY xs A c w hlen hz hrow hrv hw; have Hrv := hh_ hrv; have Hlen := hh_ hlen; clear hz hrow hrv hw; go_enter Tryz.func20, Tryz.ntmps20
  go_wp2_with (first
    | (go_at_call 35; ((with_reducible refine cs.mono ?_); rintro en w2 ⟨B, ys, cap, rfl, hz2, hcan, hwt, hsok, hcp, hg2⟩; have E := hh_ (PK (l := xs.map zp) (fun x hx => by obtain ⟨y, hy, rfl⟩ := List.mem_map.1 hx; exact Hrv.out y hy) hcan hwt); have Hz2 := hh_ hz2; have Hsok := hh_ hsok; have Hcp := hh_ hcp; clear hcan hwt hz2 hsok hcp))
    | (go_at_call 34; ((with_reducible refine (E7 ys B cap _ ?lenB Hz2.out Hsok.out _ Hcp.out).mono ?_); rotate_left; rintro en w3 ⟨C, zs, cap2, rfl, hz3, hm, hk3, hp3, hg3⟩; have Fin := hh_ (And.intro hz3 (And.intro hm (And.intro hk3 hp3))); clear hz3 hm hk3 hp3)))
  · refine qX_ (by simp [results, Tryz.results20, go_sem] <;> rfl) rfl ?_
    refine ⟨C, zs, cap2, ?_, Fin.out.1, ?_, Fin.out.2.2.1, Fin.out.2.2.2, hg2.trans hg3⟩
    · unfold yF; rw [<- E.out]
    · unfold yF; rw [<- E.out]; exact Fin.out.2.1
  case lenB =>
    have h1 := congrArg List.length E.out; have h2 := Xd (xs.map zp); have h3 := Hlen.out; simp at h1 h2; omega
theorem Qj (xs : List I) (A : Option Addr) (c : Nat) (w : World) (hlen : xs.length <= 200000) (hz : yI w A xs) (hrow : ∀ x ∈ xs, x.row.length <= 1000) (hrv : ∀ x ∈ xs, ∀ v ∈ x.row, RV v) (hw : ∀ x ∈ xs, -1000000000000 <= x.w /\ x.w <= 1000000000000) :
    Calls Tryz.prog 20 #[.slice A xs.length c] w fun en w' => yK w w' en (yF (xs.map zp)) := (Fm xs A c w hlen hz hrow hrv hw).mono fun _ _ h => h.gives
theorem jF (xs : List I) (A : Option Addr) (c : Nat) (w : World) (hlen : xs.length <= 5000) (hz : yI w A xs) (hrow : ∀ x ∈ xs, x.row.length <= 1000) (hrv : ∀ x ∈ xs, ∀ v ∈ x.row, RV v) (hw : ∀ x ∈ xs, -1000000 <= x.w /\ x.w <= 1000000) :
    Calls Tryz.prog 20 #[.slice A xs.length c] w fun en w' => yK w w' en (yF (xs.map zp)) :=
  Qj xs A c w vU_ hz hrow hrv (fun x hx => by have := hw x hx; omega)
def zP (t : Int) (l : List Z) : List Z := l.map (fun x => (x.1, t * x.2))
theorem xG (t : Int) : ∀ (l : List Z) (q : List V), zE (zP t l) q = t * zE l q
  | [], q => by simp [zP, xn]
  | x :: l, q => by
    have ih := xG t l q; show zE ((x.1, t * x.2) :: zP t l) q = _; rw [zl, zl, ih, Int.mul_add]; split <;> simp
theorem SF (l : List Z) : zP 1 l = l := by simp [zP]
def yL (a b : List Z) (t : Int) : List Z × Int := if zw a ≠ 0 then ([], zw a) else if zw b ≠ 0 then ([], zw b) else yF (a ++ zP t b)
def yo (f : Int -> Int) (z : List Z) : List Z := (z.map (fun x => (zg x.1, f x.2))).filter (fun x => decide (x.2 ≠ 0))
def yO (f : Int -> Int) (z : List Z) : List Z × Int := if zw z ≠ 0 then ([], zw z) else (yo f z, 0)
theorem xH {f : Int -> Int} {z : List Z} {y : Z} (h : y ∈ yo f z) : (∃ x ∈ z, y = (zg x.1, f x.2)) /\ y.2 ≠ 0 := by
  obtain ⟨h1, h2⟩ := List.mem_filter.1 h; obtain ⟨x, hx, rfl⟩ := List.mem_map.1 h1; exact ⟨⟨x, hx, rfl⟩, by simpa using h2⟩
theorem Zz {f : Int -> Int} {z : List Z} (hr : ∀ x ∈ z, ∀ v ∈ x.1, RV v) (hu : z.Pairwise (fun x y => zv x.1 y.1 < 0)) : yJ (yo f z) := by
  refine ⟨?_, fun y hy => ?_, fun y hy => ?_, fun y hy => (xH hy).2⟩
  · unfold yo
    refine List.Pairwise.filter _ (List.pairwise_map.2 (hu.imp_of_mem fun {x y} hx hy hxy => ?_)); exact jm (Yc (Yb (hr x hx)) hxy) (jZ (hr y hy))
  · obtain ⟨⟨x, hx, rfl⟩, _⟩ := xH hy
    exact yy (hr x hx)
  · obtain ⟨⟨x, hx, rfl⟩, _⟩ := xH hy
    exact zU _
theorem Rf : ∀ (l : List Z) (q : List V), zE (l.filter (fun x => decide (x.2 ≠ 0))) q = zE l q
  | [], q => rfl
  | x :: l, q => by
    have ih := Rf l q; rw [List.filter_cons, zl]; split
    · rw [zl, ih]
    · rename_i h
      have h : x.2 = 0 := by simpa using h
      rw [ih, h]; simp
theorem MM (f : Int -> Int) : ∀ (l : List Z) (q : List V), zE (l.map (fun x => (zg x.1, f x.2))) q = zE (l.map (fun x => (x.1, f x.2))) q
  | [], q => rfl
  | x :: l, q => by
    rw [List.map_cons, List.map_cons, zl, zl, MM f l q]; simp only [zU]
theorem Rd (f : Int -> Int) (l : List Z) (q : List V) : zE (yo f l) q = zE (l.map (fun x => (x.1, f x.2))) q := by
  unfold yo; rw [Rf, MM]
theorem Qn : ∀ {z : List Z} {x : Z} (hx : ∀ v ∈ x.1, RV v) (hz : ∀ y ∈ z, ∀ v ∈ y.1, RV v) (h : ∀ y ∈ z, zv x.1 y.1 < 0) {q : List V} (hq : zg x.1 = zg q), zE z q = 0
  | [], x, _, _, _, q, _ => rfl
  | y :: z, x, hx, hz, h, q, hq => by
    rw [zl, Qn hx (fun y hy => hz y vR_) (fun y hy => h y vR_) hq, if_neg]
    · rfl
    · intro e
      have h1 := h y vV_; have h2 := (yq x.1 y.1 hx (hz y vV_)).2 (hq.trans e.symm); omega
theorem Fz {f : Int -> Int} (f0 : f 0 = 0) : ∀ {z : List Z} (hz : ∀ y ∈ z, ∀ v ∈ y.1, RV v) (hu : z.Pairwise (fun x y => zv x.1 y.1 < 0)) (q : List V), zE (z.map (fun x => (x.1, f x.2))) q = f (zE z q)
  | [], _, _, q => by simp [xn, f0]
  | x :: z, hz, hu, q => by
    have ih := Fz f0 (fun y hy => hz y vR_) (List.pairwise_cons.1 hu).2 q; rw [List.map_cons, zl, zl, ih]; split
    · rename_i h
      rw [Qn (hz x vV_) (fun y hy => hz y vR_) (List.pairwise_cons.1 hu).1 h, f0]; simp
    · simp
theorem C4 : ∀ {z : List Z} (hz : ∀ y ∈ z, ∀ v ∈ y.1, RV v) (hu : z.Pairwise (fun x y => zv x.1 y.1 < 0)) (q : List V), zE z q = 0 \/ ∃ x ∈ z, zE z q = x.2
  | [], _, _, q => .inl rfl
  | x :: z, hz, hu, q => by
    have ih := C4 (fun y hy => hz y vR_) (List.pairwise_cons.1 hu).2 q; rw [zl]; split
    · rename_i h
      rw [Qn (hz x vV_) (fun y hy => hz y vR_) (List.pairwise_cons.1 hu).1 h]; exact .inr ⟨x, by simp, by simp⟩
    · rw [Int.zero_add]
      rcases ih with h | ⟨y, hy, h⟩
      · exact .inl h
      · exact .inr ⟨y, by simp [hy], h⟩
theorem C7 {M : Int} (hM : 0 <= M) {z : List Z} (hz : ∀ y ∈ z, ∀ v ∈ y.1, RV v) (hu : z.Pairwise (fun x y => zv x.1 y.1 < 0)) (hb : Lt M z) (q : List V) : -M <= zE z q /\ zE z q <= M := by
  rcases C4 hz hu q with h | ⟨x, hx, h⟩
  · omega
  · rw [h]; exact hb x hx
theorem WX : ∀ {z : List Z}, yJ z -> ∀ y ∈ z, zE z y.1 = y.2
  | x :: z, h, y, hy => by
    rcases List.mem_cons.1 hy with rfl | hy
    · exact ji h
    · rw [zl, WX h.tail y hy, if_neg]
      · simp
      · intro e
        have h1 := (List.pairwise_cons.1 h.up).1 y hy; have h2 := (yq x.1 y.1 (h.rv x vV_) (h.rv y vR_)).2 e; omega
theorem Lj : ∀ (l z : List Z), ∀ y ∈ Qr z l, (∃ x ∈ z, y.1 = x.1) \/ ∃ x ∈ l, y.1 = zg x.1
  | [], z, y, hy => .inl ⟨y, hy, rfl⟩
  | x :: l, z, y, hy => by
    rw [Xm] at hy; rcases Lj l _ y hy with ⟨u, hu, e⟩ | ⟨u, hu, e⟩
    · rcases Wd _ _ _ u hu with h | ⟨h, _⟩
      · exact .inl ⟨u, h, e⟩
      · exact .inr ⟨x, by simp, by rw [e, h]⟩
    · exact .inr ⟨u, by simp [hu], e⟩
theorem Xe {l : List Z} {y : Z} (h : y ∈ zW l) : ∃ x ∈ l, y.1 = zg x.1 := by
  rcases Lj l [] y h with ⟨u, hu, _⟩ | h
  · simp at hu
  · exact h
theorem Wg {a b : List Z} (ha : ∀ x ∈ a, ∀ v ∈ x.1, RV v) (hb : ∀ x ∈ b, ∀ v ∈ x.1, RV v) (h : ∀ q, zE a q = zE b q) : zW a = zW b :=
  PK hb (yB a ha).1 (fun q => by rw [(yB a ha).2, h])
theorem Qu (n : Int) : qt n = true ↔ ¬ (-1000000 <= n /\ n <= 1000000) := by simp [qt]; omega
theorem XX (z : List Z) : (YE z = (z, 0) /\ z.length <= 400 /\ Lt 1000000 z) \/ (∃ e, e ≠ 0 /\ YE z = ([], e)) := by
  unfold YE; split
  · exact .inr ⟨3, by omega, rfl⟩
  · rename_i h
    split
    · exact .inr ⟨5, by omega, rfl⟩
    · refine .inl ⟨rfl, by omega, fun x hx => ?_⟩
      have h2 : ¬ qt x.2 = true := fun e => h (List.any_eq_true.2 ⟨x, hx, e⟩)
      rw [Qu] at h2; omega
theorem VJ {z : List Z} (h1 : z.length <= 400) (h2 : Lt 1000000 z) : YE z = (z, 0) := by
  unfold YE; rw [if_neg, if_neg vU_]; intro e; obtain ⟨x, hx, hb⟩ := List.any_eq_true.1 e; have := h2 x hx; rw [Qu] at hb; omega
def Y7 (z : List Z) : Prop := ∀ x ∈ z, x.1.length <= 8 /\ ∀ v ∈ x.1, RV v
theorem Kz {l : List Z} (h : Y7 l) : Y7 (zW l) := fun y hy => by
  obtain ⟨x, hx, e⟩ := Xe hy; rw [e]; exact ⟨by simpa [zg] using (h x hx).1, yy (h x hx).2⟩
theorem kq {a b : List Z} (ha : Y7 a) (hb : Y7 b) : Y7 (a ++ b) := fun x hx => by
  rcases List.mem_append.1 hx with h | h
  · exact ha x h
  · exact hb x h
theorem JB {a : List Z} (ha : Y7 a) (t : Int) : Y7 (zP t a) := fun x hx => by
  obtain ⟨y, hy, rfl⟩ := List.mem_map.1 hx; exact ha y hy
theorem YN {a : List Z} (ha : Y7 a) (f : Int -> Int) : Y7 (yo f a) := fun x hx => by
  obtain ⟨⟨y, hy, rfl⟩, _⟩ := xH hx; exact ⟨by simpa [zg] using (ha y hy).1, yy (ha y hy).2⟩
structure SM (M : Int) (N : Nat) (z : List Z) : Prop where
  ok : Y7 z
  up : z.Pairwise (fun x y => zv x.1 y.1 < 0)
  ne : ∀ x ∈ z, x.2 ≠ 0
  bd : Lt M z
  len : z.length <= N
theorem SM.rv {M : Int} {N : Nat} {z : List Z} (h : SM M N z) : ∀ x ∈ z, ∀ v ∈ x.1, RV v := fun x hx => (h.ok x hx).2
theorem SM.rz {M : Int} {N : Nat} {z : List Z} (h : SM M N z) (hM : M <= 1000000) (hN : N <= 400) : zw z = 0 := (qQ z).2 ⟨by have := h.len; omega, h.ok, fun x hx => ⟨h.ne x hx, by have := h.bd x hx; omega, by have := h.bd x hx; omega⟩, h.up⟩
theorem SM.of {z : List Z} (h : zw z = 0) : SM 1000000 400 z := by
  have h := (qQ z).1 h; exact ⟨h.row, h.up, fun x hx => (h.w x hx).1, fun x hx => (h.w x hx).2, h.len⟩
theorem SM.canon {M : Int} {N : Nat} {z : List Z} (h : yJ z) (ok : Y7 z) (bd : Lt M z) (len : z.length <= N) : SM M N z := ⟨ok, h.up, h.w, bd, len⟩
theorem UF {l : List Z} {M : Int} {N : Nat} (hl : Y7 l) (hb : ∀ q, -M <= zE l q /\ zE l q <= M) (hn : l.length <= N) (hM : M <= 1000000) (hN : N <= 400) : yF l = (zW l, 0) /\ yJ (zW l) /\ SM M N (zW l) /\ ∀ q, zE (zW l) q = zE l q := by
  have h := yB l (fun x hx => (hl x hx).2)
  have hb2 : Lt M (zW l) := fun y hy => by
    have := WX h.1 y hy; rw [h.2] at this; have := hb y.1; omega
  have hlen := Xd l; exact ⟨VJ vU_ (fun y hy => by have := hb2 y hy; omega), h.1, SM.canon h.1 (Kz hl) hb2 vU_, h.2⟩
theorem Kk {a : List Z} {M : Int} {N : Nat} (ha : SM M N a) {f : Int -> Int} (f0 : f 0 = 0) (fb : ∀ n, -M <= n -> n <= M -> -M <= f n /\ f n <= M) (hM : M <= 1000000) (hN : N <= 400) :
    ∃ s, yO f a = (s, 0) /\ yJ s /\ SM M N s /\ ∀ q, zE s q = f (zE a q) := by
  have hc := Zz (f := f) ha.rv ha.up; refine ⟨yo f a, ?_, hc, SM.canon hc (YN ha.ok f) (fun y hy => ?_) ?_, fun q => ?_⟩
  · unfold yO; rw [if_neg (by rw [ha.rz hM hN]; simp)]
  · obtain ⟨⟨x, hx, rfl⟩, _⟩ := xH hy
    have := ha.bd x hx; exact fb _ this.1 this.2
  · have h1 : (yo f a).length <= (a.map (fun x => (zg x.1, f x.2))).length := List.length_filter_le _ _
    have := ha.len; simp at h1; omega
  · rw [Rd, Fz f0 ha.rv ha.up]
def F0 (at' : Int) (i : Nat) (x : I) : List I := if (i : Int) = at' /\ 1 < x.w then [⟨x.A, x.row, x.cap, x.w - 1⟩, ⟨x.A, x.row, x.cap, 1⟩] else [x]
def bk (at' : Int) : Nat -> List I -> List I
  | _, [] => []
  | i, x :: l => bk at' (i + 1) l ++ F0 at' i x
def yQ (n : Int) : Int := if n < 0 then 0 else n
def YB (n : Int) : Int := if 0 < n then 1 else 0
theorem DG {a : List Z} {M : Int} {N : Nat} (ha : SM M N a) (hM : M <= 1000000) (hN : N <= 400) : ∃ s, yO (fun n => -n) a = (s, 0) /\ yJ s /\ SM M N s /\ ∀ q, zE s q = -(zE a q) :=
  Kk ha rfl (fun n h1 h2 => by omega) hM hN
