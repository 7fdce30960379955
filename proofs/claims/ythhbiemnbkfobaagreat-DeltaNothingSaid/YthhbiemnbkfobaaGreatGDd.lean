/- Parts of a proof. No condition. -/
import Derived.Test.YthhbiemnbkfobaaGreatGDb
import Derived.Test.YthhbiemnbkfobaaGreatGDa
set_option maxRecDepth 100000
set_option maxHeartbeats 16000000
set_option maxRecDepth 100000
set_option linter.unusedSimpArgs false
set_option linter.unusedVariables false
namespace Go
variable {p : Prop}
theorem ug_ (h : p := by
 intro w1 hw1 hF K hK; obtain ⟨B2, ys, cap, hv, h⟩ := hF _ (List.mem_cons_self ..) ⟨_, rfl, by decide⟩; subst hv; go_simp; exact hK _ _ (za.refl _) ⟨B2, ys, cap, rfl, h⟩) : p := h
theorem um_ (h : p := by
 intro w1 hw1 hF K hK; obtain ⟨g, c6, d6, A6, B6, e, hb, k6, k7⟩ := hF _ (List.mem_cons_self ..) ⟨_, rfl, by decide⟩; subst e; go_simp
 go_at_call 60
 refine (Ja A6 B6 c6 d6 g _ w1 hb k6 k7).mono ?_; rintro en w' ⟨B, ys, cap, rfl, hz, hm, hk, hg'⟩; exact ⟨_, rfl, hK _ _ hg' ⟨B, ys, cap, rfl, hz, hm, hk⟩⟩) : p := h
theorem uy_ (h : p := by
 intro w1 hw1 hF K hK; obtain ⟨B1, ys, cap, l, hv, hz, h⟩ := hF _ (List.mem_cons_self ..) ⟨_, rfl, by decide⟩; subst hv; go_simp; exact hK _ _ (za.refl _) ⟨B1, ys, cap, l, rfl, hz, h⟩) : p := h
theorem uH_ (h : p := by
 exact ⟨yX.pers _, yX.pers _, trivial⟩) : p := h
end Go
namespace Go.Proofs.YthhbiemnbkfobaaGreat
open Go.RowKit Go.Calm
/-! the library's sort and search of no rows -/
theorem NP (w : World) : Calls Tryz.prog 166 #[.int .u64 0] w fun e w' => e = .returned (.int .i64 0) /\ za w w' := by
  go_enter Tryz.func166, Tryz.ntmps166; go_wp2; go_ret; exact zx vP_ (za.refl _)
theorem T7 (w : World) : Calls Tryz.prog 135 #[.int .u64 0] w fun e w' => e = .returned (.int .i64 0) /\ za w w' := by
  go_enter Tryz.func135, Tryz.ntmps135
  go_wp2_with (go_at_call 166; ((with_reducible refine (NP _).mono ?_); rintro e w2 ⟨rfl, hg2⟩))
  go_ret; exact zx rfl hg2
theorem TR (F : Value) (w : World) : Calls Tryz.prog 157 #[.slice none 0 0, .int .i64 0, .int .i64 0, F] w fun e w' => e = .returned (.tuple #[]) /\ za w w' := by
  go_enter Tryz.func157, Tryz.ntmps157; go_wp2
  go_loopw [8] (fun i wr => i = .int .i64 1 /\ za w wr) (fun _ _ => 0)
  case atStart => exact ⟨by go_num, za.refl _⟩
  case round => exact wt_
theorem Um (F : Value) (w : World) : Calls Tryz.prog 134 #[.slice none 0 0, .int .i64 0, .int .i64 0, .int .i64 0, F] w fun e w' => e = .returned (.tuple #[]) /\ za w w' := by
  go_enter Tryz.func134, Tryz.ntmps134; go_wp2
  go_loopw [1, 2, 3, 10, 11] (fun a b l _ _ wr => a = .int .i64 0 /\ b = .int .i64 0 /\ za w wr) (fun _ _ _ _ _ _ => 0)
  case atStart => exact uV_
  case round =>
    obtain ⟨rfl, rfl, hg⟩ := hrel
    go_wp2_with (go_at_call 157; ((with_reducible refine (TR _ _).mono ?_); rintro e w2 ⟨rfl, hg2⟩))
    exact qX_ (v := .tuple #[]) (by simp [results, Tryz.results134, go_sem]) rfl ⟨rfl, hg.trans hg2⟩
theorem N4 (F : Value) (w : World) : Calls Tryz.prog 100 #[.slice none 0 0, F] w fun e w' => e = .returned (.tuple #[]) /\ za w w' := by
  go_enter Tryz.func100, Tryz.ntmps100
  go_wp2_with (first
    | (go_at_call 135; ((with_reducible refine (T7 _).mono ?_); rintro e w2 ⟨rfl, hg2⟩))
    | (go_at_call 134; ((with_reducible refine (Um _ _).mono ?_); rintro e w3 ⟨rfl, hg3⟩)))
  go_end0; exact ⟨rfl, hg2.trans hg3⟩
theorem Tj (v F : Value) (w : World) : Calls Tryz.prog 102 #[.slice none 0 0, v, F] w fun e w' => e = .returned (.tuple #[.int .i64 0, .bool false]) /\ za w w' := by
  go_enter Tryz.func102, Tryz.ntmps102; go_wp2
  go_loopw [9, 10] (fun i j wr => i = .int .i64 0 /\ j = .int .i64 0 /\ za w wr) (fun _ _ _ => 0)
  case atStart => exact uV_
  case round =>
    obtain ⟨rfl, rfl, hg⟩ := hrel; go_wp2; refine qX_ (by simp [results, Tryz.results102, go_sem] <;> rfl) rfl ?_; exact ⟨rfl, hg⟩
/-! the groups that a change touches: none -/
theorem ZE (es : List E) (Ae : Option Addr) (ce gx ox g3 g7 : Nat) (xs : List I) (A : Option Addr) (c : Nat) (w : World) (B7 : zc w g7 137 #[.slice none 0 0]) (B3 : zc w g3 60 #[.pointer (some ⟨gx, ox, none⟩)]) (hc : w.cell? ⟨gx, ox + 8, none⟩ = some (.slice Ae es.length ce)) (hE : Y6 w Ae es) (hz : yI w A xs) (hlen : xs.length <= 10000) (hr : ∀ y ∈ xs, y.row.length <= 1000) (hrv : ∀ y ∈ xs, ∀ v ∈ y.row, RV v) (hre : ∀ y ∈ xs, ∀ e ∈ es, RE y.row.length e) (hl : es.length <= 1000) :
    Calls Tryz.prog 101 #[.slice A xs.length c, .pointer (some ⟨g7, 0, none⟩), .pointer (some ⟨g3, 0, none⟩)] w fun en w' => en = .returned (.slice none 0 0) /\ za w w' := by
  have HB := hh_ (And.intro B7 (And.intro B3 hc)); have HE := hh_ hE; have HZ := hh_ hz; have HR := hh_ (And.intro hr (And.intro hrv hre)); clear B7 B3 hc hE hz hr hrv hre; go_enter Tryz.func101, Tryz.ntmps101; go_wp2
  go_loopw [5, 12] (fun t i wr => ∃ k : Nat, k <= xs.length /\ i = .int .i64 k /\ t = .slice none 0 0 /\ za w wr) (fun _ i _ => xs.length - (intOf i).toNat)
  case atStart => exact ⟨0, Nat.zero_le _, rfl, rfl, za.refl _⟩
  case round =>
    rename World => wr
    obtain ⟨k, hk, rfl, rfl, hg⟩ := hrel
    by_cases hlt : k < xs.length
    · obtain ⟨y, hyk⟩ : ∃ y, xs[k]? = some y := ⟨_, qQ_ hlt⟩
      obtain ⟨g9, o9, rfl, c1, c2, hyv⟩ := (HZ.out.grow hg) k y hyk; have hm := qZ_ hyk; have cv := fun W (h : za wr W) => xZ es Ae ce y.row y.A y.cap W hl (by have := HR.out.1 y hm; omega) (HE.out.grow (hg.trans h)) (HR.out.2.2 y hm) (HR.out.2.1 y hm) (hyv.grow h)
      have CV := hh_ cv; clear hyk hyv hm cv; go_upto_region 5 with fail
      refine zd (fun Z => zc Z wr.heap.size 54 #[.slice y.A y.row.length y.cap, .int .i64 y.w] /\ za wr Z) ⟨zc.new _ _ _, (za.refl wr).al _⟩ ?_; generalize wr.heap.size = gz; rintro Z ⟨Bz, Gz⟩; have BZ := hh_ Bz; have BB := hh_ (And.intro (HB.out.1.grow (hg.trans Gz)) (And.intro (HB.out.2.1.grow (hg.trans Gz)) ((hg.trans Gz).cell HB.out.2.2))); clear c1 c2 Bz; apply zb 14 vP_ vP_
      case h' =>
        intro Q0 hQ0; simp only [List.take_succ_cons, List.take_zero]
        repeat ((first | ((first | apply zh rfl | apply zo rfl rfl rfl); case h1 => (intro w1 hw1 hF K hK; obtain ⟨bz, fz⟩ := (BZ.out.grow hw1).rules; obtain ⟨b7, f7⟩ := (BB.out.1.grow hw1).rules; obtain ⟨b3, f3⟩ := (BB.out.2.1.grow hw1).rules; have c8 := hw1.cell BB.out.2.2; go_simp; first | exact hK _ (za.refl _))) | apply zm rfl rfl rfl rfl); intro K hK; go_simp; apply hK; clear hK K)
        apply ze (fun _ _ => True) rfl
        case h1 =>
          intro w1 hw1 hF K1 hK1; go_simp
          go_at_call 88
          refine (CV.out w1 (Gz.trans hw1)).mono ?_; rintro en w' ⟨B, cap, rfl, ho, hg'⟩; exact ⟨_, rfl, hK1 _ _ hg' trivial⟩
        intro v9 K1 hK1; go_simp; apply hK1; clear hK1 K1
        repeat ((first | ((first | apply zh rfl | apply zo rfl rfl rfl); case h1 => (intro w1 hw1 hF K hK; obtain ⟨bz, fz⟩ := (BZ.out.grow hw1).rules; go_simp; first | exact hK _ (za.refl _) | (go_at_call 102; ((with_reducible refine (Tj _ _ w1).mono ?_); rintro e w' ⟨rfl, hg⟩; exact ⟨_, rfl, hK _ hg⟩)))) | apply zm rfl rfl rfl rfl); intro K hK; go_simp; apply hK; clear hK K)
        refine zk ?_; intro w1 hw1 hF; apply hQ0; clear hQ0; simp only [List.drop_succ_cons, List.drop_zero]; clear hF; go_wp2; go_roundw
        case rel => exact ⟨k + 1, by omega, by go_num, rfl, hg.trans (Gz.trans hw1)⟩
        case measure => exact vZ_
      case hp' => exact ⟨fun _ _ _ _ _ => trivial, trivial⟩
    · obtain rfl : k = xs.length := by omega
      go_wp2; go_ret; exact ⟨rfl, hg⟩
def U5 (es : List E) (ag : List Ag) (v : Value) (W : World) : Prop := ∃ (B : Option Addr) (ys : List I) (cap : Nat) (l : List (List V)), v = .slice B ys.length cap /\ yI W B ys /\ zN B ys.length cap /\ ys.map zp = l.map (xk es ag []) /\ l.Nodup /\ (∀ q, q ∈ l ↔ q ∈ z0 es [])
theorem U5.pers (es : List E) (ag : List Ag) : qT (U5 es ag) := fun v w w' hg ⟨B, ys, cap, l, e, hz, h⟩ => ⟨B, ys, cap, l, e, hz.grow hg, h⟩
def yX (z : List Z) (v : Value) (W : World) : Prop := ∃ (B : Option Addr) (ys : List I) (cap : Nat), v = .slice B ys.length cap /\ yI W B ys /\ ys.map zp = z /\ zN B ys.length cap
theorem yX.pers (z : List Z) : qT (yX z) := fun v w w' hg ⟨B, ys, cap, e, h, m, k⟩ => ⟨B, ys, cap, e, h.grow hg, m, k⟩
def S0 (a b : S) (v : Value) (W : World) : Prop := ∃ g, v = .slice (some ⟨g, 0, none⟩) 2 2 /\ zc W g 34 #[.slice a.A a.xs.length a.cap, .slice b.A b.xs.length b.cap]
theorem S0.pers (a b : S) : qT (S0 a b) := fun v w w' hg ⟨g, e, h⟩ => ⟨g, e, h.grow hg⟩
theorem L6 {cols : List Int} {es : List E} {ag : List Ag} {z : List Z} (g : xe cols es ag z) : xe cols es ag [] := by
  have h := Q1 g.z (fun _ => false); rw [show z.filter (fun _ => false) = [] by simp] at h; exact ⟨g.n, g.es, g.ag, h⟩
theorem TO {cols : List Int} {es : List E} {ag : List Ag} (g : xe cols es ag []) {l m : List (List V)} (nl : l.Nodup) (nm : m.Nodup) (hl : ∀ q, q ∈ l ↔ q ∈ z0 es []) (hm : ∀ q, q ∈ m ↔ q ∈ z0 es []) : zW (l.map (xk es ag []) ++ zP (-1) (m.map (xk es ag []))) = [] := by
  have p : l.Perm m := (List.perm_ext_iff_of_nodup nl nm).2 fun q => (hl q).trans (hm q).symm
  have r1 := (g.rows (l := l) (fun q hq => (hl q).1 hq)).1; have r2 := (g.rows (l := m) (fun q hq => (hm q).1 hq)).1; exact Mt (fun y hy => (r1 y hy).2) (fun y hy => (r2 y hy).2) fun u => j8 (p.map _) u
theorem L7 {cols : List Int} {es : List E} {ag : List Ag} (g : xe cols es ag []) {ys : List I} {l : List (List V)} (m : ys.map zp = l.map (xk es ag [])) (nl : l.Nodup) (hl : ∀ q, q ∈ l ↔ q ∈ z0 es []) : yP ys /\ ys.length <= 1 := by
  have r := g.rows (l := l) (fun q hq => (hl q).1 hq)
  have hh : ∀ q ∈ l, q = [] := fun q hq => by
    have h := (hl q).1 hq; unfold z0 Q4 pg at h; simp at h; exact h.2
  have ll : l.length <= 1 := by
    match l, nl, hh with
    | [], _, _ => simp
    | [_], _, _ => simp
    | a :: b :: t, nl, hh =>
      rw [hh a vV_, hh b vV_] at nl; simp at nl
  have ly : ys.length = l.length := by have := congrArg List.length m; simpa using this
  have mem : ∀ y ∈ ys, zp y ∈ l.map (xk es ag []) := fun y hy => by rw [<- m]; exact qZ9 hy
  refine ⟨⟨by omega, fun y hy => ?_, fun y hy => (r.1 _ (mem y hy)).2, fun y hy => ?_⟩, by omega⟩
  · have := (r.1 _ (mem y hy)).1
    have e : (zp y).1 = y.row := rfl; rw [e] at this; omega
  · have := r.2 _ (mem y hy)
    have e : (zp y).2 = y.w := rfl; rw [e] at this; omega
theorem Qo {ys : List I} (h : ys.map zp = []) : ys = [] := List.map_eq_nil_iff.1 h
theorem L5 (cols : List Int) (p : PL) (gx ox : Nat) (was : S) (B : Option Addr) (cB : Nat) (w : World) (hx : zJ w gx ox p) (hE : Y6 w p.xs.A p.xs.l) (hA : kF w p.ag.A p.ag.l) (ok : xe cols p.xs.l p.ag.l was.z) (hw : In w was) (hkB : zN B 0 cB) :
    Calls Tryz.prog 66 #[.pointer (some ⟨gx, ox, none⟩), .slice was.A was.xs.length was.cap, .slice B 0 cB] w fun en w' => zK w w' en [] := by
  obtain ⟨_, hwz, hfit⟩ := zj ok.z; obtain ⟨a1, a2, a3, a4⟩ := S.facts hwz; obtain ⟨he8, hty⟩ := yW ok.es
  have hre : ∀ x ∈ was.xs, ∀ e ∈ p.xs.l, RE x.row.length e := fun x hx e he => ut_
  have okn := L6 ok; have cg : ∀ W, za w W -> Calls Tryz.prog 95 #[.slice p.xs.A p.xs.l.length p.xs.c, .slice p.ag.A p.ag.l.length p.ag.c, .slice none 0 0] W fun en w' => Lc p.xs.l p.ag.l [] W w' en := fun W h => ZD cols p.xs.l p.xs.A p.xs.c p.ag.l p.ag.A p.ag.c [] none 0 W okn (hE.grow h) (hA.grow h) (NH W)
  have OKN := hh_ okn; have CG := hh_ cg; have HW := hh_ (And.intro hw.z hw.sl); have HE := hh_ hE; have FX := hh_ (And.intro a2 (And.intro a3 (And.intro a4 hre))); have sok : yP (was.xs ++ []) := yP.app ⟨by omega, fun x hx => by have := a2 x hx; omega, a3, fun x hx => by have := a4 x hx; omega⟩ yP.nil vN_; have SOK := hh_ sok; have HX := hh_ (And.intro hx.c8 hx.c9); have lE : p.xs.l.length <= 1000 := by omega
  clear ok hwz hfit a2 a3 a4 hty hre okn cg hw hE hA sok hx; go_enter Tryz.func66, Tryz.ntmps66; go_upto_region 2 with fail
  refine zd (fun X => zc X w.heap.size 60 #[.pointer (some ⟨gx, ox, none⟩)] /\ zc X (w.heap.size + 1) 137 #[.slice none 0 0] /\ za w X) ⟨(zc.new _ _ _).grow ((za.refl _).al _), zc.new' _ _ _ vV_, ((za.refl _).al _).al _⟩ ?_; generalize w.heap.size + 1 = g7; generalize w.heap.size = g3; rintro X ⟨B3, B7, G⟩; have HB := hh_ (And.intro B7 (And.intro B3 (And.intro (G.cell HX.out.1) (G.cell HX.out.2)))); clear B3 B7; go_wp2
  go_loopw [15] (fun i wr => i = .int .i64 0 /\ za X wr) (fun _ _ => 0)
  case atStart => exact ⟨rfl, za.refl _⟩
  case round =>
    rename World => wr
    obtain ⟨rfl, hg⟩ := hrel; obtain ⟨b7, f7⟩ := (HB.out.1.grow hg).rules; go_upto_region 9 with (go_at_call 100; ((with_reducible refine (N4 _ _).mono ?_); rintro e w2 ⟨rfl, hg2⟩)); have G2 := hg.trans hg2; have GW := G.trans G2; clear b7 f7; have BB := hh_ (And.intro (HB.out.1.grow G2) (And.intro (HB.out.2.1.grow G2) (And.intro (G2.cell HB.out.2.2.1) (G2.cell HB.out.2.2.2)))); apply zb 13 vP_ vP_
    case h' =>
      intro Q0 hQ0; simp only [List.take_succ_cons, List.take_zero]
      repeat ((first | ((first | apply zh rfl | apply zo rfl rfl rfl); case h1 => (intro w1 hw1 hF K hK; obtain ⟨b3, f3⟩ := (BB.out.2.1.grow hw1).rules; have c8 := hw1.cell BB.out.2.2.1; have c9 := hw1.cell BB.out.2.2.2; go_simp; first | exact hK _ (za.refl _) | (go_at_call 101; ((with_reducible refine (ZE p.xs.l p.xs.A p.xs.c gx ox g3 g7 was.xs was.A was.cap w1 (BB.out.1.grow hw1) (BB.out.2.1.grow hw1) (hw1.cell BB.out.2.2.1) (HE.out.grow (GW.trans hw1)) (HW.out.1.grow (GW.trans hw1)) vU_ (fun y hy => by have := FX.out.1 y hy; omega) FX.out.2.1 FX.out.2.2.2 lE).mono ?_); rintro e w' ⟨rfl, hg⟩; exact ⟨_, rfl, hK _ hg⟩)))) | apply zm rfl rfl rfl rfl); intro K hK; go_simp; apply hK; clear hK K)
      apply ze (U5 p.xs.l p.ag.l) rfl
      case h1 =>
        intro w1 hw1 hF K hK; go_simp
        go_at_call 95
        refine (CG.out w1 (GW.trans hw1)).mono ?_; rintro en w' ⟨B1, ys, cap, l, rfl, hz, hk, hm, hn, hi, hg'⟩; exact ⟨_, rfl, hK _ _ hg' ⟨B1, ys, cap, l, rfl, hz, hk, hm, hn, hi⟩⟩
      intro v44 K hK; go_simp; apply hK; clear hK K; apply ze (U5 p.xs.l p.ag.l) rfl
      case h1 => exact uy_
      intro v11 K hK; go_simp; apply hK; clear hK K; refine zk ?_; intro w1 hw1 hF; apply hQ0; clear hQ0; simp only [List.drop_succ_cons, List.drop_zero]; obtain ⟨B1, ys1, cap1, l1, hv, z1, k1, m1, n1, i1⟩ := hF _ (List.mem_cons_self ..); subst hv; have O1 := hh_ (And.intro z1 (And.intro k1 (And.intro m1 (And.intro n1 i1)))); have GW1 := GW.trans hw1; have BC := hh_ (And.intro (BB.out.1.grow hw1) (And.intro (BB.out.2.1.grow hw1) (And.intro (hw1.cell BB.out.2.2.1) (hw1.cell BB.out.2.2.2)))); clear hF z1 k1 m1 n1 i1; rename World => w4
      go_upto_region 10 with fail
      apply zb 16 vP_ vP_
      case h' =>
        intro Q0 hQ0; simp only [List.take_succ_cons, List.take_zero]
        repeat ((first | ((first | apply zh rfl | apply zo rfl rfl rfl); case h1 => (intro w1 hw1 hF K hK; obtain ⟨b3, f3⟩ := (BC.out.2.1.grow hw1).rules; have c8 := hw1.cell BC.out.2.2.1; have c9 := hw1.cell BC.out.2.2.2; go_simp; first | exact hK _ (za.refl _))) | apply zm rfl rfl rfl rfl); intro K hK; go_simp; apply hK; clear hK K)
        apply ze (S0 was ⟨B, [], cB⟩) rfl
        case h1 => exact vY_
        intro v56 K hK; go_simp; apply hK; clear hK K; apply ze (yX (zW (was.z ++ []))) rfl
        case h1 =>
          intro w1 hw1 hF K hK; obtain ⟨g, e, hb⟩ := hF _ (List.mem_cons_self ..) ⟨_, rfl, by decide⟩; subst e; go_simp
          go_at_call 60
          refine (qL was ⟨B, [], cB⟩ g _ w1 hb (HW.out.1.grow (GW1.trans hw1)) (zu _ _) HW.out.2 hkB SOK.out).mono ?_; rintro en w' ⟨B2, ys, cap, rfl, hz, hm, hk, hg'⟩; exact ⟨_, rfl, hK _ _ hg' ⟨B2, ys, cap, rfl, hz, hm, hk⟩⟩
        intro v57 K hK; go_simp; apply hK; clear hK K; apply zh rfl
        case h1 =>
          intro w1 hw1 hF K hK; obtain ⟨B2, ys2, cap2, hv, hz, hm, hk⟩ := hF _ (List.mem_cons_self ..) ⟨_, rfl, by decide⟩; subst hv
          have src : ∀ y ∈ ys2, ∃ x ∈ was.xs, y.row = zg x.row := fun y hy => by
            have h1 : zp y ∈ zW (was.z ++ []) := by rw [<- hm]; exact qZ9 hy
            obtain ⟨x, hx, e⟩ := Xe h1; rw [List.append_nil] at hx; obtain ⟨x', hx', rfl⟩ := List.mem_map.1 hx; exact ⟨x', hx', e⟩
          have l2 : ys2.length <= 400 := by
            have h1 := congrArg List.length hm; have h2 := Xd (was.z ++ []); simp [S.z] at h1 h2; omega
          go_simp
          go_at_call 101
          refine (ZE p.xs.l p.xs.A p.xs.c gx ox g3 g7 ys2 B2 cap2 w1 (BC.out.1.grow hw1) (BC.out.2.1.grow hw1) (hw1.cell BC.out.2.2.1) (HE.out.grow (GW1.trans hw1)) hz vU_ (fun y hy => by obtain ⟨x, hx, e⟩ := src y hy; have := FX.out.1 x hx; rw [e, qr]; omega) (fun y hy => by obtain ⟨x, hx, e⟩ := src y hy; rw [e]; exact yy (FX.out.2.1 x hx)) (fun y hy e he => by obtain ⟨x, hx, e2⟩ := src y hy; rw [e2, qr]; exact FX.out.2.2.2 x hx e he) lE).mono ?_; rintro en w' ⟨rfl, hg'⟩; exact ⟨_, rfl, hK _ hg'⟩
        intro K hK; go_simp; apply hK; clear hK K; apply ze (U5 p.xs.l p.ag.l) rfl
        case h1 =>
          intro w1 hw1 hF K hK; go_simp
          go_at_call 95
          refine (CG.out w1 (GW1.trans hw1)).mono ?_; rintro en w' ⟨B1, ys, cap, l, rfl, hz, hk, hm, hn, hi, hg'⟩; exact ⟨_, rfl, hK _ _ hg' ⟨B1, ys, cap, l, rfl, hz, hk, hm, hn, hi⟩⟩
        intro v59 K hK; go_simp; apply hK; clear hK K; apply ze (U5 p.xs.l p.ag.l) rfl
        case h1 => exact uy_
        intro v12 K hK; go_simp; apply hK; clear hK K; refine zk ?_; intro w1 hw1 hF; apply hQ0; clear hQ0; simp only [List.drop_succ_cons, List.drop_zero]; obtain ⟨B2, ys2, cap2, l2, hv, z2, k2, m2, n2, i2⟩ := hF _ (List.mem_cons_self ..); subst hv; have O2 := hh_ (And.intro z2 (And.intro k2 (And.intro m2 (And.intro n2 i2)))); have q1 := hh_ (L7 OKN.out O1.out.2.2.1 O1.out.2.2.2.1 O1.out.2.2.2.2); have q2 := hh_ (L7 OKN.out m2 n2 i2); have gq := hw1; clear hF z2 k2 m2 n2 i2
        go_wp2_with (first
          | (go_at_call 62; ((with_reducible refine (KF ys1 B1 cap1 _ (by have := q1.out.2; omega) (O1.out.1.grow gq) q1.out.1.w).mono ?_); rintro e w5 ⟨B5, zs, cap5, rfl, e5, z5, k5, hg5⟩; have O5 := hh_ (And.intro e5 (And.intro z5 k5)); clear e5 z5 k5))
          | (go_at_call 60; ((with_reducible refine (qL ⟨B2, ys2, cap2⟩ ⟨B5, zs, cap5⟩ _ _ _ (zc.new _ _ _) (O2.out.1.grow (hg5.al _)) (O5.out.2.1.grow ((za.refl _).al _)) O2.out.2.1 O5.out.2.2 (q2.out.1.app (q1.out.1.neg O5.out.1) (by have h1 := q1.out.2; have h2 := q2.out.2; have h3 := congrArg List.length O5.out.1; simp at h3; show ys2.length + zs.length <= 10000; omega))).mono ?_); rintro e w6 ⟨B6, ys6, cap6, rfl, hz6, hm6, hk6, hg6⟩; have O6 := hh_ (And.intro hz6 (And.intro hm6 hk6)); clear hz6 hm6 hk6)))
        go_ret; refine ⟨B6, ys6, cap6, rfl, O6.out.1, ?_, O6.out.2.2, GW1.trans (gq.trans ((hg5.al _).trans hg6))⟩; rw [O6.out.2.1]; show zW (ys2.map zp ++ zs.map zp) = _; rw [O2.out.2.2.1, O5.out.1, Cy, O1.out.2.2.1]; exact TO OKN.out O2.out.2.2.2.1 O1.out.2.2.2.1 O2.out.2.2.2.2 O1.out.2.2.2.2
      case hp' => exact ⟨S0.pers _ _, yX.pers _, U5.pers _ _, U5.pers _ _, trivial⟩
    case hp' => exact ⟨U5.pers _ _, U5.pers _ _, trivial⟩
theorem Bi (we : World) (base : Nat) (caps : Array Value) (a : S) (B : Option Addr) (c : Nat) : Kd we base 105 caps a ⟨B, [], c⟩ Unit (fun _ _ _ => True) (fun _ _ => True) where
  ent := fun args W => Nq Tryz.func105 vP_ rfl args W
  grow := fun W W' s h hs hg => trivial
  new := fun W s h q hs hq => trivial
  step := fun W s h i k y z B cap hs hge hbw hy hz hl hr => by simp at hz
theorem By (n k : Nat) : (List.replicate n false).set k false = List.replicate n false := by
  apply List.ext_getElem vV_; intro i h1 h2; rw [List.getElem_set]; simp
theorem jS {w w' : World} {base cap : Nat} {B : Option Addr} (h : w'.ownsRow base 54 2 (.slice B 0 cap) 0 (zq [])) (hg : za w w') : zK w w' (.returned (.slice B 0 cap)) [] := by
  obtain ⟨B', cap', e, hz, hk⟩ := qN (ys := []) h (fun y hy => by simp at hy); simp at e; obtain ⟨rfl, rfl⟩ := e; exact ⟨B, [], cap, rfl, hz, rfl, hk, hg⟩
theorem ZN (p : PL) (gx ox g4 g7 gi ci c0 c1 : Nat) (B0 B1 : Option Addr) (xs : List I) (A : Option Addr) (c : Nat) (w : World) (hx : zJ w gx ox p) (hX : EX w p.x) (B4 : zc w g4 60 #[.pointer (some ⟨gx, ox, none⟩)]) (B7 : zc w g7 32 #[.slice (some ⟨gi, 0, none⟩) 2 ci]) (i0 : w.cell? ⟨gi, 0, none⟩ = some (.slice B0 0 c0)) (i1 : w.cell? ⟨gi, 1, none⟩ = some (.slice B1 0 c1)) (hz : yI w A xs) (hr : ∀ y ∈ xs, XH y.row = 0) (ok : y8 p.x ⟨A, xs, c⟩ ⟨B1, [], c1⟩) :
    Calls Tryz.prog 104 #[.slice A xs.length c, .pointer (some ⟨g7, 0, none⟩), .pointer (some ⟨g4, 0, none⟩)] w fun en w' => zK w w' en [] := by
  have mk := fun W => Q5 xs.length (by have := ok.la; simp at this; omega) W
  have hl : xs.length <= 400 := ok.la; have HX := hh_ (And.intro hx hX); have HB := hh_ (And.intro B4 (And.intro B7 (And.intro i0 i1))); have HZ := hh_ hz; have HR := hh_ hr; have OK := hh_ ok; have lt := hh_ (And.intro B4.lt B7.lt); clear hx hX B4 B7 i0 i1 hz hr ok; go_enter Tryz.func104, Tryz.ntmps104; go_upto_region 2 with fail
  clear mk; refine zd (fun X => BV X w.heap.size (List.replicate xs.length false) /\ zc X (w.heap.size + 1) 130 #[.slice (some ⟨w.heap.size, 0, none⟩) xs.length xs.length] /\ za w X) ?_ ?_
  · refine ⟨?_, zc.new' _ _ _ vV_, ((za.refl _).al _).al _⟩
    refine BV.grow ?_ ((za.refl _).al _); unfold BV; rw [show ((List.replicate xs.length false).map Value.bool).toArray = Array.replicate xs.length (Value.bool false) from by simp]; exact zc.new _ _ _
  obtain ⟨sz, hsz⟩ : ∃ sz, w.heap.size = sz := ⟨_, rfl⟩
  rw [hsz]; obtain ⟨g5, hg5⟩ : ∃ g, sz + 1 = g := ⟨_, rfl⟩
  rw [hg5]; rintro X ⟨BV0, B5, G⟩; have H0 := hh_ (And.intro BV0 B5); have HS := hh_ (And.intro hsz hg5); clear BV0 B5 hsz hg5; go_wp2
  go_loopw [13] (fun i wr => ∃ k : Nat, k <= xs.length /\ i = .int .i64 k /\ BV wr sz (List.replicate xs.length false) /\ zc wr g5 130 #[.slice (some ⟨sz, 0, none⟩) xs.length xs.length] /\ za w wr) (fun i _ => xs.length - (intOf i).toNat)
  case atStart => exact ⟨0, Nat.zero_le _, rfl, H0.out.1, H0.out.2, G⟩
  case round =>
    rename World => wr
    obtain ⟨k, hk, rfl, hbv, hb5, hg⟩ := hrel; have HV := hh_ (And.intro hbv hb5); clear hbv hb5
    by_cases hlt : k < xs.length
    · obtain ⟨y, hyk⟩ : ∃ y, xs[k]? = some y := ⟨_, qQ_ hlt⟩
      obtain ⟨g9, o9, rfl, e1, e2, hyv⟩ := (HZ.out.grow hg) k y hyk; have hm := qZ_ hyk; have cw := fun W (h : za wr W) => MR [] B0 c0 y.row y.A y.cap W (zu _ _) rfl (hyv.grow h) (HR.out y hm)
      have CW := hh_ (show ∀ W, za wr W -> Calls Tryz.prog 99 #[.slice B0 0 c0, .slice y.A y.row.length y.cap] W fun en w' => en = .returned (.int .i64 0) /\ za W w' from cw); clear hyk hyv hm cw; go_upto_region 5 with fail
      refine zd (fun Z => zc Z wr.heap.size 54 #[.slice y.A y.row.length y.cap, .int .i64 y.w] /\ za wr Z) ⟨zc.new _ _ _, (za.refl wr).al _⟩ ?_; generalize wr.heap.size = gz; rintro Z ⟨Bz, Gz⟩; have BZ := hh_ Bz; have G2 := hg.trans Gz; have BB := hh_ (And.intro (HB.out.2.1.grow G2) (And.intro (G2.cell HB.out.2.2.1) (And.intro (HV.out.1.grow Gz) (HV.out.2.grow Gz)))); have q0 : (0 : Int) <= (k : Int) := by omega
      have q1 : (k : Int) < (xs.length : Int) := by omega
      clear e1 e2 Bz; apply zb 10 vP_ vP_
      case h' =>
        intro Q0 hQ0; simp only [List.take_succ_cons, List.take_zero]
        repeat ((first | ((first | apply zh rfl | apply zo rfl rfl rfl); case h1 => (intro w1 hw1 hF K hK; obtain ⟨bz, fz⟩ := (BZ.out.grow hw1).rules; obtain ⟨b7, f7⟩ := (BB.out.1.grow hw1).rules; obtain ⟨b5, f5⟩ := (BB.out.2.2.2.grow hw1).rules; have d0 := hw1.cell BB.out.2.1; go_simp; first | exact hK _ (za.refl _) | (go_at_call 99; ((with_reducible refine (CW.out w1 (Gz.trans hw1)).mono ?_); rintro e w' ⟨rfl, hg⟩; exact ⟨_, rfl, hK _ hg⟩)))) | apply zm rfl rfl rfl rfl); intro K hK; go_simp; apply hK; clear hK K)
        refine zk ?_; intro w1 hw1 hF; apply hQ0; clear hQ0; simp only [List.drop_succ_cons, List.drop_zero]; clear hF; have bv1 := BB.out.2.2.1.grow hw1; have z1 := bv1.at (show (List.replicate xs.length false)[k]? = some false by simp [hlt]); have f1 := bv1.frozen; have BV1 := hh_ bv1; have B51 := hh_ (BB.out.2.2.2.grow hw1); clear bv1; go_wp2; go_roundw
        case rel => exact ⟨k + 1, by omega, by go_num, by have h := BV1.out.put k false; rw [By] at h; exact h, zc.far B51.out (by show g5 ≠ sz; have := HS.out; omega) _, (G2.trans hw1).set (by show w.heap.size <= sz; have := HS.out; omega) _⟩
        case measure => exact vZ_
      case hp' => exact trivial
    · obtain rfl : k = xs.length := by omega
      have BB := hh_ (And.intro (HB.out.1.grow hg) (And.intro (HB.out.2.1.grow hg) (hg.cell HB.out.2.2.2))); have C2 := hh_ (HX.out.1.grow hg).c2; obtain ⟨m, hm⟩ : ∃ m : I -> Bool, m = fun _ => false := ⟨_, rfl⟩
      have ef : xs.filter (fun y => m y == true) = [] := by rw [hm]; simp
      have em : xs.map m = List.replicate xs.length false := by rw [hm, List.map_const']
      have cc := fun W (h : za w W) (hf : BV W sz (List.replicate xs.length false)) => jj xs A c m sz true W hl (HZ.out.grow h) (by rw [em]; exact hf)
      rw [ef] at cc; have CC := hh_ (show ∀ W, za w W -> BV W sz (List.replicate xs.length false) -> Calls Tryz.prog 90 #[.slice A xs.length c, .slice (some ⟨sz, 0, none⟩) xs.length xs.length, .bool true] W fun en w' => ∃ (B : Option Addr) (cap : Nat), en = .returned (.slice B 0 cap) /\ w'.ownsRow W.heap.size 54 2 (.slice B 0 cap) 0 (zq []) /\ za W w' from cc); clear ef em hm cc; go_upto_region 7 with fail
      apply zb 9 vP_ vP_
      case h' =>
        intro Q0 hQ0; simp only [List.take_succ_cons, List.take_zero]
        repeat ((first | ((first | apply zh rfl | apply zo rfl rfl rfl); case h1 => (intro w1 hw1 hF K hK; obtain ⟨b4, f4⟩ := (BB.out.1.grow hw1).rules; obtain ⟨b7, f7⟩ := (BB.out.2.1.grow hw1).rules; have d1 := hw1.cell BB.out.2.2; have c2 := hw1.cell C2.out; go_simp; first | exact hK _ (za.refl _))) | apply zm rfl rfl rfl rfl); intro K hK; go_simp; apply hK; clear hK K)
        apply zh rfl
        case h1 =>
          intro w1 hw1 hF K hK; go_simp
          go_at_call 97
          refine (Zl 105 #[.pointer (some ⟨g5, 0, none⟩)] w1 gx (ox + 2) p.x ⟨A, xs, c⟩ ⟨B1, [], c1⟩ w1 (Bi w1 w1.heap.size _ _ _ _) () trivial (za.refl _) (HX.out.2.grow (hg.trans hw1)) (HX.out.1.grow (hg.trans hw1)).e (HZ.out.grow (hg.trans hw1)) (zu _ _) OK.out).mono ?_; rintro en w' ⟨rfl, s, _, hg'⟩; exact ⟨_, rfl, hK _ hg'⟩
        intro K hK; go_simp; apply hK; clear hK K; refine zk ?_; intro w1 hw1 hF; apply hQ0; clear hQ0; simp only [List.drop_succ_cons, List.drop_zero]; clear hF; obtain ⟨b5, f5⟩ := (HV.out.2.grow hw1).rules; have G4 := hg.trans hw1
        go_wp2_with (go_at_call 90; ((with_reducible refine (CC.out _ G4 (HV.out.1.grow hw1)).mono ?_); rintro e w5 ⟨B5, cap5, rfl, own5, hg5⟩; have Own5 := hh_ own5; clear own5))
        go_ret; exact jS Own5.out (G4.trans hg5)
      case hp' => exact trivial
theorem JT (p : PL) (gx ox g4 g5 n : Nat) (hn : n <= 8) (A : Option Addr) (c : Nat) (b : S) (w : World) (hx : zJ w gx ox p) (hX : EX w p.x) (B4 : zc w g4 60 #[.pointer (some ⟨gx, ox, none⟩)]) (B5 : zc w g5 3 #[.int .i64 n]) (hb : yI w b.A b.xs) (ok : y8 p.x ⟨A, [], c⟩ b) :
    Calls Tryz.prog 106 #[.slice A 0 c, .slice b.A b.xs.length b.cap, .pointer (some ⟨g4, 0, none⟩), .pointer (some ⟨g5, 0, none⟩)] w fun en w' => zK w w' en [] := by
  have cm : ∀ W, za w W -> Calls Tryz.prog 91 #[.pointer (some ⟨gx, ox + 2, none⟩), .slice A 0 c, .slice b.A b.xs.length b.cap] W fun en w' => ∃ g, en = .returned (.slice (some ⟨g, 0, none⟩) 0 0) /\ BV w' g [] /\ za W w' := fun W h => Qe gx (ox + 2) p.x ⟨A, [], c⟩ b W (hX.grow h) (hx.grow h).e (zu _ _) (hb.grow h) ok
  have cc : ∀ (want : Bool) g W, BV W g [] -> Calls Tryz.prog 90 #[.slice A 0 c, .slice (some ⟨g, 0, none⟩) 0 0, .bool want] W fun en w' => ∃ (B : Option Addr) (cap : Nat), en = .returned (.slice B 0 cap) /\ w'.ownsRow W.heap.size 54 2 (.slice B 0 cap) 0 (zq []) /\ za W w' := fun want g W hf => jj [] A c (fun _ => false) g want W (Nat.zero_le _) (zu _ _) hf
  have co : ∀ W, za w W -> Calls Tryz.prog 92 #[.pointer (some ⟨gx, ox + 2, none⟩), .int .i64 n, .slice A 0 c, .slice b.A b.xs.length b.cap] W fun en w' => zK W w' en [] := fun W h => (JD gx (ox + 2) p.x n ⟨A, [], c⟩ b W hn (hX.grow h) (hx.grow h).e (zu _ _) (hb.grow h) ok).mono (by
    rintro en w' ⟨B, ys, cap, rfl, own, hr, m, hg⟩
    have e : ys.map zp = [] := by
      rw [m]; unfold xj; rw [show S.z ⟨A, [], c⟩ = [] from rfl, ZH]; rfl
    obtain rfl : ys = [] := List.map_eq_nil_iff.1 e
    exact jS own hg)
  have HX := hh_ hx; have HB := hh_ (And.intro B4 B5); have CM := hh_ cm; have CC := hh_ cc; have CO := hh_ co; obtain ⟨b4, f4⟩ := B4.rules; have c0 := hx.c0; clear hx hX B4 B5 hb ok cm cc co; go_enter Tryz.func106, Tryz.ntmps106
  by_cases h5 : p.k = 5
  · rw [h5] at c0
    go_wp2_with (first
      | (go_at_call 91; ((with_reducible refine (CM.out _ (za.refl _)).mono ?_); rintro e w2 ⟨g, rfl, bv, hg2⟩))
      | (go_at_call 90; ((with_reducible refine (CC.out true g _ bv).mono ?_); rintro e w3 ⟨B3, cap3, rfl, own3, hg3⟩)))
    go_ret; exact jS own3 (hg2.trans hg3)
  · have d5 : (p.k == 5) = false := by simpa using h5
    by_cases h6 : p.k = 6
    · rw [h6] at c0
      go_wp2_with (first
        | (go_at_call 91; ((with_reducible refine (CM.out _ (za.refl _)).mono ?_); rintro e w2 ⟨g, rfl, bv, hg2⟩))
        | (go_at_call 90; ((with_reducible refine (CC.out false g _ bv).mono ?_); rintro e w3 ⟨B3, cap3, rfl, own3, hg3⟩)))
      go_ret; exact jS own3 (hg2.trans hg3)
    · have d6 : (p.k == 6) = false := by simpa using h6
      go_upto_region 6 with fail
      apply zb 8 vP_ vP_
      case h' =>
        intro Q0 hQ0; simp only [List.take_succ_cons, List.take_zero]
        repeat ((first | ((first | apply zh rfl | apply zo rfl rfl rfl); case h1 => (intro w1 hw1 hF K hK; obtain ⟨b4, f4⟩ := (HB.out.1.grow hw1).rules; obtain ⟨b5, f5⟩ := (HB.out.2.grow hw1).rules; have c2 := (HX.out.grow hw1).c2; go_simp; first | exact hK _ (za.refl _))) | apply zm rfl rfl rfl rfl); intro K hK; go_simp; apply hK; clear hK K)
        apply ze (yX []) rfl
        case h1 =>
          intro w1 hw1 hF K hK; go_simp
          go_at_call 92
          refine (CO.out w1 hw1).mono ?_; rintro en w' ⟨B, ys, cap, rfl, hz, hm, hk, hg'⟩; exact ⟨_, rfl, hK _ _ hg' ⟨B, ys, cap, rfl, hz, hm, hk⟩⟩
        intro v37 K hK; go_simp; apply hK; clear hK K; apply ze (yX []) rfl
        case h1 =>
          intro w1 hw1 hF K hK; obtain ⟨B, ys, cap, hv, hz⟩ := hF _ (List.mem_cons_self ..) ⟨_, rfl, by decide⟩; subst hv; go_simp; exact hK _ _ (za.refl _) ⟨B, ys, cap, rfl, hz⟩
        intro v6 K hK; go_simp; apply hK; clear hK K; refine zk ?_; intro w1 hw1 hF; apply hQ0; clear hQ0; simp only [List.drop_succ_cons, List.drop_zero]; obtain ⟨B, ys, cap, hv, hz, hm, hk⟩ := hF _ (List.mem_cons_self ..); subst hv; have Out := hh_ (And.intro hz (And.intro hm hk)); clear hF hz hm hk; go_wp2; go_ret; exact ⟨B, ys, cap, rfl, Out.out.1, Out.out.2.1, Out.out.2.2, hw1⟩
      case hp' => exact uH_
def Et (v : Value) (W : World) : Prop := ∃ (g c d : Nat) (A B : Option Addr), v = .slice (some ⟨g, 0, none⟩) 2 2 /\ zc W g 34 #[.slice A 0 c, .slice B 0 d] /\ zN A 0 c /\ zN B 0 d
theorem Et.pers : qT Et := fun v w w' hg ⟨g, c, d, A, B, e, h, k⟩ => ⟨g, c, d, A, B, e, h.grow hg, k⟩
theorem Ja (A B : Option Addr) (c d g : Nat) (t : TypeId) (w : World) (hb : zc w g t #[.slice A 0 c, .slice B 0 d]) (k1 : zN A 0 c) (k2 : zN B 0 d) :
    Calls Tryz.prog 60 #[.slice (some ⟨g, 0, none⟩) 2 2] w fun en w' => zK w w' en [] :=
  qL ⟨A, [], c⟩ ⟨B, [], d⟩ g t w hb (zu _ _) (zu _ _) k1 k2 yP.nil
theorem yX.none {v : Value} {W : World} (h : yX [] v W) : ∃ (B : Option Addr) (c : Nat), v = .slice B 0 c /\ zN B 0 c := by
  obtain ⟨B, ys, c, e, hz, hm, hk⟩ := h; obtain rfl := Qo hm; exact ⟨B, c, e, hk⟩
theorem Mk (A : Option Addr) (c : Nat) (w : World) : Calls Tryz.prog 62 #[.slice A 0 c] w fun en w' => zK w w' en [] :=
  (KF [] A c w (Nat.zero_le _) (zu _ _) (fun x hx => by simp at hx)).mono (by
    rintro en w' ⟨B, zs, cap, rfl, rfl, hz, hk, hg⟩
    exact ⟨B, [], cap, rfl, hz, rfl, hk, hg⟩)
theorem C5 (r : List V) : ∀ z : List Z, zE z (zg r) = zE z r
  | [] => rfl
  | x :: z => by rw [zl, zl, zU, C5 r z]
theorem jW {s : S} (h : zw s.z = 0) {ys : List I} (hm : ys.map zp = zW (s.z ++ [])) : ys.length <= 400 /\ ∀ y ∈ ys, y.row.length <= 8 /\ (∀ v ∈ y.row, RV v) /\ (-1000000 <= y.w /\ y.w <= 1000000) := by
  rw [List.append_nil] at hm; have sm := SM.of h; obtain ⟨c, w⟩ := yB s.z sm.rv; refine ⟨?_, fun y hy => ?_⟩
  · have h1 := congrArg List.length hm
    have h2 := Xd s.z; have h3 := sm.len; simp at h1; omega
  · have h1 : zp y ∈ zW s.z := by rw [<- hm]; exact qZ9 hy
    obtain ⟨x, hx, e⟩ := Xe h1; have e : y.row = zg x.1 := e; have k1 : zE (zW s.z) y.row = y.w := jI c.up c.rv _ h1; have k2 := jI sm.up sm.rv x hx; have k3 : y.w = x.2 := by rw [<- k1, w, e, C5, k2]
    have ok := sm.ok x hx; have bd := sm.bd x hx; exact ⟨by rw [e, qr]; exact ok.1, by rw [e]; exact yy ok.2, by rw [k3]; omega⟩
theorem Bq {x : E} {a b : S} (h : y8 x a b) (wb : zw b.z = 0) {ys : List I} (hm : ys.map zp = zW (b.z ++ [])) (A B : Option Addr) (c d : Nat) : y8 x ⟨A, [], c⟩ ⟨B, ys, d⟩ := by
  obtain ⟨f1, f2⟩ := jW wb hm; exact ⟨Nat.zero_le _, f1, fun y hy => by simp at hy, fun y hy => (f2 y hy).1, fun y hy => by simp at hy, fun y hy => (f2 y hy).2.2, fun y hy => by simp at hy, fun y hy => by simp at hy⟩
theorem Bt {x : E} {a : S} (wa : zw a.z = 0) {ys : List I} (hm : ys.map zp = zW (a.z ++ [])) (A B : Option Addr) (c d : Nat) : y8 x ⟨B, ys, d⟩ ⟨A, [], c⟩ := by
  obtain ⟨f1, f2⟩ := jW wa hm; exact ⟨f1, Nat.zero_le _, fun y hy => (f2 y hy).1, fun y hy => by simp at hy, fun y hy => (f2 y hy).2.2, fun y hy => by simp at hy, fun y hy => (f2 y hy).2.1, fun y hy z hz => by simp at hz⟩
theorem WL (p : PL) (gx ox n gw cw gi ci c0 c1 : Nat) (a b : S) (B0 B1 : Option Addr) (w : World) (hn : n <= 8) (hx : zJ w gx ox p) (hX : EX w p.x) (w0 : w.cell? ⟨gw, 0, none⟩ = some (.slice a.A a.xs.length a.cap)) (w1 : w.cell? ⟨gw, 1, none⟩ = some (.slice b.A b.xs.length b.cap)) (i0 : w.cell? ⟨gi, 0, none⟩ = some (.slice B0 0 c0)) (i1 : w.cell? ⟨gi, 1, none⟩ = some (.slice B1 0 c1)) (ha : In w a) (hb : In w b) (k0 : zN B0 0 c0) (k1 : zN B1 0 c1) (ok : y8 p.x a b) (wa : zw a.z = 0) (wb : zw b.z = 0) :
    Calls Tryz.prog 68 #[.pointer (some ⟨gx, ox, none⟩), .int .i64 n, .slice (some ⟨gw, 0, none⟩) 2 cw, .slice (some ⟨gi, 0, none⟩) 2 ci] w fun en w' => zK w w' en [] := by
  obtain ⟨a1, a2, a3, a4⟩ := S.facts wa; obtain ⟨b1, b2, b3, b4⟩ := S.facts wb; have rowa : ∀ y ∈ a.xs, XH y.row = 0 := fun y hy => (jc _).2 ⟨a2 y hy, a3 y hy⟩
  have soka : yP (a.xs ++ []) := yP.app ⟨by omega, fun x hx => by have := a2 x hx; omega, a3, fun x hx => by have := a4 x hx; omega⟩ yP.nil vN_; have sokb : yP (b.xs ++ []) := yP.app ⟨by omega, fun x hx => by have := b2 x hx; omega, b3, fun x hx => by have := b4 x hx; omega⟩ yP.nil vN_; have FA := hh_ (And.intro a1 (And.intro a2 (And.intro a3 rowa))); have FB := hh_ (And.intro b1 (And.intro b2 b3)); have SA := hh_ (And.intro soka sokb); have HX := hh_ (And.intro hx hX); have HC := hh_ (And.intro w0 (And.intro w1 (And.intro i0 i1))); have HA := hh_ (And.intro ha.z ha.sl); have HB := hh_ (And.intro hb.z hb.sl); have OK := hh_ ok; have WB := hh_ wb; have WA := hh_ wa; clear a1 a2 a3 a4 b1 b2 b3 b4 rowa soka sokb hx hX w0 w1 i0 i1 ha hb ok wa wb; go_enter Tryz.func68, Tryz.ntmps68; go_upto_region 1 with fail
  refine zd (fun X => zc X w.heap.size 60 #[.pointer (some ⟨gx, ox, none⟩)] /\ zc X (w.heap.size + 1) 3 #[.int .i64 n] /\ zc X (w.heap.size + 2) 32 #[.slice (some ⟨gi, 0, none⟩) 2 ci] /\ za w X) ⟨(zc.new _ _ _).grow (((za.refl _).al _).al _), (zc.new' _ _ _ vV_).grow ((za.refl _).al _), zc.new' _ _ _ vV_, (((za.refl _).al _).al _).al _⟩ ?_; generalize w.heap.size + 2 = g7; generalize w.heap.size + 1 = g5; generalize w.heap.size = g4; rintro X ⟨B4, B5, B7, G⟩; have BB := hh_ (And.intro B4 (And.intro B5 B7)); have CC := hh_ (And.intro (G.cell HC.out.1) (And.intro (G.cell HC.out.2.1) (And.intro (G.cell HC.out.2.2.1) (G.cell HC.out.2.2.2)))); clear B4 B5 B7; apply zb 9 vP_ vP_
  case h' =>
    intro Q0 hQ0; simp only [List.take_succ_cons, List.take_zero]
    repeat ((first | ((first | apply zh rfl | apply zo rfl rfl rfl); case h1 => (intro w1 hw1 hF K hK; obtain ⟨b7, f7⟩ := (BB.out.2.2.grow hw1).rules; have d0 := hw1.cell CC.out.1; have d2 := hw1.cell CC.out.2.2.1; go_simp; first | exact hK _ (za.refl _))) | apply zm rfl rfl rfl rfl); intro K hK; go_simp; apply hK; clear hK K)
    apply ze (S0 a ⟨B0, [], c0⟩) rfl
    case h1 => exact vY_
    intro v19 K hK; go_simp; apply hK; clear hK K; apply ze (yX (zW (a.z ++ []))) rfl
    case h1 =>
      intro w1 hw1 hF K hK; obtain ⟨g, e, hb⟩ := hF _ (List.mem_cons_self ..) ⟨_, rfl, by decide⟩; subst e; go_simp
      go_at_call 60
      refine (qL a ⟨B0, [], c0⟩ g _ w1 hb (HA.out.1.grow (G.trans hw1)) (zu _ _) HA.out.2 k0 SA.out.1).mono ?_; rintro en w' ⟨B2, ys, cap, rfl, hz, hm, hk, hg'⟩; exact ⟨_, rfl, hK _ _ hg' ⟨B2, ys, cap, rfl, hz, hm, hk⟩⟩
    intro v20 K hK; go_simp; apply hK; clear hK K; apply ze (yX (zW (a.z ++ []))) rfl
    case h1 => exact ug_
    intro v9 K hK; go_simp; apply hK; clear hK K; refine zk ?_; intro w1 hw1 hF; apply hQ0; clear hQ0; simp only [List.drop_succ_cons, List.drop_zero]; obtain ⟨Bn, ns, cn, hv, zn, mn, kn⟩ := hF _ (List.mem_cons_self ..); subst hv; clear hF; rename World => w4
    have okn : y8 p.x ⟨Bn, ns, cn⟩ ⟨B1, [], c1⟩ := Bt WA.out mn B1 Bn c1 cn; have rown : ∀ y ∈ ns, XH y.row = 0 := fun y hy => (jc _).2 ⟨((jW WA.out mn).2 y hy).1, ((jW WA.out mn).2 y hy).2.1⟩
    have HN := hh_ (And.intro zn (And.intro okn rown)); have G1 := G.trans hw1; have BC := hh_ (And.intro (BB.out.1.grow hw1) (And.intro (BB.out.2.1.grow hw1) (BB.out.2.2.grow hw1))); have CD := hh_ (And.intro (hw1.cell CC.out.1) (And.intro (hw1.cell CC.out.2.1) (And.intro (hw1.cell CC.out.2.2.1) (hw1.cell CC.out.2.2.2)))); clear okn rown zn mn kn; go_upto_region 4 with fail
    apply zb 14 vP_ vP_
    case h' =>
      intro Q0 hQ0; simp only [List.take_succ_cons, List.take_zero]
      repeat ((first | ((first | apply zh rfl | apply zo rfl rfl rfl); case h1 => (intro w1 hw1 hF K hK; go_simp; first | exact hK _ (za.refl _))) | apply zm rfl rfl rfl rfl); intro K hK; go_simp; apply hK; clear hK K)
      apply ze (yX []) rfl
      case h1 =>
        intro w1 hw1 hF K hK; go_simp
        go_at_call 104
        refine (ZN p gx ox g4 g7 gi ci c0 c1 B0 B1 ns Bn cn w1 (HX.out.1.grow (G1.trans hw1)) (HX.out.2.grow (G1.trans hw1)) (BC.out.1.grow hw1) (BC.out.2.2.grow hw1) (hw1.cell CD.out.2.2.1) (hw1.cell CD.out.2.2.2) (HN.out.1.grow hw1) HN.out.2.2 HN.out.2.1).mono ?_; rintro en w' ⟨B, ys, cap, rfl, hz, hm, hk, hg'⟩; exact ⟨_, rfl, hK _ _ hg' ⟨B, ys, cap, rfl, hz, hm, hk⟩⟩
      intro v26 K hK; go_simp; apply hK; clear hK K
      repeat ((first | ((first | apply zh rfl | apply zo rfl rfl rfl); case h1 => (intro w1 hw1 hF K hK; obtain ⟨b7, f7⟩ := (BC.out.2.2.grow hw1).rules; have d1 := hw1.cell CD.out.2.1; have d3 := hw1.cell CD.out.2.2.2; go_simp; first | exact hK _ (za.refl _))) | apply zm rfl rfl rfl rfl); intro K hK; go_simp; apply hK; clear hK K)
      apply ze (S0 b ⟨B1, [], c1⟩) rfl
      case h1 => exact vY_
      intro v33 K hK; go_simp; apply hK; clear hK K; apply ze (yX (zW (b.z ++ []))) rfl
      case h1 =>
        intro w1 hw1 hF K hK; obtain ⟨g, e, hb⟩ := hF _ (List.mem_cons_self ..) ⟨_, rfl, by decide⟩; subst e; go_simp
        go_at_call 60
        refine (qL b ⟨B1, [], c1⟩ g _ w1 hb (HB.out.1.grow (G1.trans hw1)) (zu _ _) HB.out.2 k1 SA.out.2).mono ?_; rintro en w' ⟨B2, ys, cap, rfl, hz, hm, hk, hg'⟩; exact ⟨_, rfl, hK _ _ hg' ⟨B2, ys, cap, rfl, hz, hm, hk⟩⟩
      intro v34 K hK; go_simp; apply hK; clear hK K; apply ze (yX []) rfl
      case h1 =>
        intro w1 hw1 hF K hK; obtain ⟨B2, ys2, cap2, hv, hz, hm, hk⟩ := hF _ (List.mem_cons_self ..) ⟨_, rfl, by decide⟩; obtain ⟨B3, c3, hv3, k3⟩ := yX.none (hF _ (List.mem_cons_of_mem _ (List.mem_cons_of_mem _ (List.mem_cons_self ..))) ⟨_, rfl, by decide⟩); subst hv hv3; go_simp
        go_at_call 106
        refine (JT p gx ox g4 g5 n hn B3 c3 ⟨B2, ys2, cap2⟩ w1 (HX.out.1.grow (G1.trans hw1)) (HX.out.2.grow (G1.trans hw1)) (BC.out.1.grow hw1) (BC.out.2.1.grow hw1) hz (Bq OK.out WB.out hm B3 B2 c3 cap2)).mono ?_; rintro en w' ⟨B, ys, cap, rfl, hz, hm, hk, hg'⟩; exact ⟨_, rfl, hK _ _ hg' ⟨B, ys, cap, rfl, hz, hm, hk⟩⟩
      intro v35 K hK; go_simp; apply hK; clear hK K; apply ze (yX []) rfl
      case h1 => exact ug_
      intro v12 K hK; go_simp; apply hK; clear hK K; refine zk ?_; intro w1 hw1 hF; apply hQ0; clear hQ0; simp only [List.drop_succ_cons, List.drop_zero]; obtain ⟨B4, c4, hv, k4⟩ := yX.none (hF _ (List.mem_cons_self ..)); subst hv; clear hF; rename World => w5
      have G2 := G1.trans hw1; have BD := hh_ (And.intro (BC.out.1.grow hw1) (And.intro (BC.out.2.1.grow hw1) (BC.out.2.2.grow hw1))); have CE := hh_ (And.intro (hw1.cell CD.out.1) (And.intro (hw1.cell CD.out.2.1) (And.intro (hw1.cell CD.out.2.2.1) (hw1.cell CD.out.2.2.2)))); go_upto_region 5 with fail
      apply zb 15 vP_ vP_
      case h' =>
        intro Q0 hQ0; simp only [List.take_succ_cons, List.take_zero]
        repeat ((first | ((first | apply zh rfl | apply zo rfl rfl rfl); case h1 => (intro w1 hw1 hF K hK; have d0 := hw1.cell CE.out.1; go_simp; first | exact hK _ (za.refl _))) | apply zm rfl rfl rfl rfl); intro K hK; go_simp; apply hK; clear hK K)
        apply ze (yX []) rfl
        case h1 =>
          intro w1 hw1 hF K hK; go_simp
          go_at_call 104
          refine (ZN p gx ox g4 g7 gi ci c0 c1 B0 B1 a.xs a.A a.cap w1 (HX.out.1.grow (G2.trans hw1)) (HX.out.2.grow (G2.trans hw1)) (BD.out.1.grow hw1) (BD.out.2.2.grow hw1) (hw1.cell CE.out.2.2.1) (hw1.cell CE.out.2.2.2) (HA.out.1.grow (G2.trans hw1)) FA.out.2.2.2 (Ur OK.out B1 c1)).mono ?_; rintro en w' ⟨B, ys, cap, rfl, hz, hm, hk, hg'⟩; exact ⟨_, rfl, hK _ _ hg' ⟨B, ys, cap, rfl, hz, hm, hk⟩⟩
        intro v42 K hK; go_simp; apply hK; clear hK K
        repeat ((first | ((first | apply zh rfl | apply zo rfl rfl rfl); case h1 => (intro w1 hw1 hF K hK; have d1 := hw1.cell CE.out.2.1; go_simp; first | exact hK _ (za.refl _))) | apply zm rfl rfl rfl rfl); intro K hK; go_simp; apply hK; clear hK K)
        apply ze (yX []) rfl
        case h1 =>
          intro w1 hw1 hF K hK; obtain ⟨B3, c3, hv3, k3⟩ := yX.none (hF _ (List.mem_cons_self ..) ⟨_, rfl, by decide⟩); subst hv3; go_simp
          go_at_call 106
          refine (JT p gx ox g4 g5 n hn B3 c3 b w1 (HX.out.1.grow (G2.trans hw1)) (HX.out.2.grow (G2.trans hw1)) (BD.out.1.grow hw1) (BD.out.2.1.grow hw1) (HB.out.1.grow (G2.trans hw1)) (Uq OK.out B3 c3)).mono ?_; rintro en w' ⟨B, ys, cap, rfl, hz, hm, hk, hg'⟩; exact ⟨_, rfl, hK _ _ hg' ⟨B, ys, cap, rfl, hz, hm, hk⟩⟩
        intro v46 K hK; go_simp; apply hK; clear hK K; apply ze (yX []) rfl
        case h1 =>
          intro w1 hw1 hF K hK; obtain ⟨B3, c3, hv3, k3⟩ := yX.none (hF _ (List.mem_cons_self ..) ⟨_, rfl, by decide⟩); subst hv3; go_simp
          go_at_call 62
          refine (Mk B3 c3 w1).mono ?_; rintro en w' ⟨B, ys, cap, rfl, hz, hm, hk, hg'⟩; exact ⟨_, rfl, hK _ _ hg' ⟨B, ys, cap, rfl, hz, hm, hk⟩⟩
        intro v47 K hK; go_simp; apply hK; clear hK K; apply ze Et rfl
        case h1 =>
          intro w1 hw1 hF K hK; obtain ⟨B3, c3, hv3, k3⟩ := yX.none (hF _ (List.mem_cons_self ..) ⟨_, rfl, by decide⟩); subst hv3; go_simp; exact hK _ _ ((za.refl _).al _) ⟨_, _, _, _, _, rfl, zc.new _ _ _, k4, k3⟩
        intro v48 K hK; go_simp; apply hK; clear hK K; apply ze (yX []) rfl
        case h1 => exact um_
        intro v49 K hK; go_simp; apply hK; clear hK K; apply ze (yX []) rfl
        case h1 => exact ug_
        intro v8 K hK; go_simp; apply hK; clear hK K; refine zk ?_; intro w1 hw1 hF; apply hQ0; clear hQ0; simp only [List.drop_succ_cons, List.drop_zero]; obtain ⟨B, ys, cap, hv, hz, hm, hk⟩ := hF _ (List.mem_cons_self ..); subst hv; have Out := hh_ (And.intro hz (And.intro hm hk)); clear hF hz hm hk; go_wp2; go_ret; exact ⟨B, ys, cap, rfl, Out.out.1, Out.out.2.1, Out.out.2.2, G2.trans hw1⟩
      case hp' => exact ⟨yX.pers _, yX.pers _, yX.pers _, Et.pers, yX.pers _, yX.pers _, trivial⟩
    case hp' => exact ⟨yX.pers _, S0.pers _ _, yX.pers _, yX.pers _, yX.pers _, trivial⟩
  case hp' => exact ⟨S0.pers _ _, yX.pers _, yX.pers _, trivial⟩
