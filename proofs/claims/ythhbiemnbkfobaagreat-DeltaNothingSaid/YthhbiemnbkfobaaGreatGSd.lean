/- Parts of a proof. No condition. -/
import Derived.Test.YthhbiemnbkfobaaGreatGTd
import Derived.Test.YthhbiemnbkfobaaGreatGWa
set_option maxRecDepth 100000
set_option maxHeartbeats 4000000
set_option linter.unusedSimpArgs false
set_option linter.unusedVariables false
namespace Go.Proofs.YthhbiemnbkfobaaGreat
open Go.RowKit Go.Calm
structure KD where
  k : KS
  gx : Nat
  ox : Nat
theorem Tp (K : KS) (x y : I) : jK K y x = - jK K x y := u3_
theorem Tq {K : KS} {x y z : I} (h1 : jK K x y <= 0) (h2 : jK K y z <= 0) : jK K x z <= 0 := uN_
structure Yr (K : KD) (g : Nat) (w0 : World) (x : I) : Prop where
  sl : ∀ W, GX g w0 W -> xd W x.A x.row
  ks : ∀ W, GX g w0 W -> zc W K.k.gk 60 #[.pointer (some ⟨K.gx, K.ox, none⟩)] /\ W.cell? ⟨K.gx, K.ox + 8, none⟩ = some (.slice K.k.A K.k.es.length K.k.c) /\ Y6 W K.k.A K.k.es
  len : x.row.length <= 9223372036854775807
  kl : K.k.es.length <= 1000
  rv : ∀ v ∈ x.row, RV v
  re : ∀ e ∈ K.k.es, RE x.row.length e
theorem Yr.kv {K : KD} {g : Nat} {w0 : World} {x : I} (h : Yr K g w0 x) : ∀ v ∈ qZ K.k x, RV v := fun v hv => wl_
theorem Vr {K : KD} {g : Nat} {w0 : World} {x y : I} (hx : Yr K g w0 x) (hy : Yr K g w0 y) (ht : tg y x) : jK K.k x y < 0 ↔ ZZ K.k x y < 0 := by
  have e := yb (qZ K.k x) (qZ K.k y) hx.kv hy.kv; have s := zY zX ya x.row y.row; unfold tg zv at ht; unfold jK ZZ; rw [e]; split <;> omega
theorem Vu (K : KD) (x y : I) (g : Nat) (w0 w : World) (hx : Yr K g w0 x) (hy : Yr K g w0 y) (hg : GX g w0 w) : Calls Tryz.prog 139 #[x.val, y.val, .pointer (some ⟨K.k.gk, 0, none⟩)] w fun e w' => e = .returned (.int .i64 (ZZ K.k x y)) /\ za w w' := by
  have cx := fun W (h : za w W) => xZ K.k.es K.k.A K.k.c x.row x.A x.cap W hx.kl hx.len (hx.ks _ (hg.grow h)).2.2 hx.re hx.rv (hx.sl _ (hg.grow h))
  have cy := fun W (h : za w W) => xZ K.k.es K.k.A K.k.c y.row y.A y.cap W hx.kl hy.len (hx.ks _ (hg.grow h)).2.2 hy.re hy.rv (hy.sl _ (hg.grow h))
  have KB := hh_ (hx.ks _ hg).1; have KC := hh_ (hx.ks _ hg).2.1; have lk := hx.kl; obtain ⟨KX, hKX⟩ : ∃ q, K.k.es.map (yk x.row) = q := ⟨_, rfl⟩
  obtain ⟨KY, hKY⟩ : ∃ q, K.k.es.map (yk y.row) = q := ⟨_, rfl⟩
  have lx : KX.length = K.k.es.length := by rw [<- hKX]; simp
  have ly : KY.length = K.k.es.length := by rw [<- hKY]; simp
  rw [hKX] at cx; rw [hKY] at cy; have fin : ZZ K.k x y = zB xP KX KY := by unfold ZZ qZ; rw [hKX, hKY]
  rw [fin]; have cr := fun B1 c1 B2 c2 W (h1 : xd W B1 KX) (h2 : xd W B2 KY) => qd KX KY B1 B2 c1 c2 W vU_ vU_ h1 h2
  rw [lx, ly] at cr; have Lx := hh_ lx; have Ly := hh_ ly; clear hKX hKY fin hx hy hg lx ly; unfold I.val; go_enter Tryz.func139, Tryz.ntmps139; go_upto_region 1 with fail
  refine zd (fun X => zc X w.heap.size 54 #[.slice x.A x.row.length x.cap, .int .i64 x.w] /\ zc X (w.heap.size + 1) 54 #[.slice y.A y.row.length y.cap, .int .i64 y.w] /\ za w X) ⟨(zc.new _ _ _).grow ((za.refl _).al _), zc.new' _ _ _ vV_, ((za.refl _).al _).al _⟩ ?_; generalize w.heap.size + 1 = g2; generalize w.heap.size = g1; rintro X ⟨B1, B2, G⟩; have BX := hh_ B1; have BY := hh_ B2; have BK := hh_ (KB.out.grow G); have CK := hh_ (G.cell KC.out); clear B1 B2 KB KC; apply zb 16 vP_ vP_
  case h' =>
    intro Q0 hQ0; simp only [List.take_succ_cons, List.take_zero]
    repeat ((first | ((first | apply zh rfl | apply zo rfl rfl rfl); case h1 => (intro w1 hw1 hF K hK; obtain ⟨bx, fx⟩ := (BX.out.grow hw1).rules; obtain ⟨by1, fy⟩ := (BY.out.grow hw1).rules; obtain ⟨bk, fk⟩ := (BK.out.grow hw1).rules; have ck := hw1.cell CK.out; go_simp; first | exact hK _ (za.refl _))) | apply zm rfl rfl rfl rfl); intro K hK; go_simp; apply hK; clear hK K)
    apply ze (FF K.k.es.length KX) rfl
    case h1 => exact uA_
    intro v9 K1 hK1; go_simp; apply hK1; clear hK1 K1
    repeat ((first | ((first | apply zh rfl | apply zo rfl rfl rfl); case h1 => (intro w1 hw1 hF K hK; obtain ⟨bx, fx⟩ := (BX.out.grow hw1).rules; obtain ⟨by1, fy⟩ := (BY.out.grow hw1).rules; obtain ⟨bk, fk⟩ := (BK.out.grow hw1).rules; have ck := hw1.cell CK.out; go_simp; first | exact hK _ (za.refl _))) | apply zm rfl rfl rfl rfl); intro K hK; go_simp; apply hK; clear hK K)
    apply ze (FF K.k.es.length KY) rfl
    case h1 => exact uB_
    intro v13 K1 hK1; go_simp; apply hK1; clear hK1 K1; apply zh rfl
    case h1 => exact ue_
    intro K1 hK1; go_simp; apply hK1; clear hK1 K1
    repeat ((first | ((first | apply zh rfl | apply zo rfl rfl rfl); case h1 => (intro w1 hw1 hF K hK; obtain ⟨bx, fx⟩ := (BX.out.grow hw1).rules; go_simp; first | exact hK _ (za.refl _))) | apply zm rfl rfl rfl rfl); intro K hK; go_simp; apply hK; clear hK K)
    refine zk ?_; intro w1 hw1 hF; apply hQ0; clear hQ0; simp only [List.drop_succ_cons, List.drop_zero]; clear hF; go_wp2; go_ret; exact ⟨rfl, G.trans hw1⟩
  case hp' => exact uM_
abbrev Cr (K : KD) : Value := .func (.func 139) #[] #[.pointer (some ⟨K.k.gk, 0, none⟩)]
def Cd (K : KD) : Cm (.d K.k.gk) I where
  A := I.A
  n := fun x => x.row.length
  cap := I.cap
  w := I.w
  b := fun _ => 0
  cmp := jK K.k
  ans := ZZ K.k
  tg := tg
  good := Yr K
  trans := fun _ _ _ h1 h2 => Tq h1 h2
  swap := fun _ _ => Tp _ _ _
  lt := Vr
  call := Vu K
theorem Nz (K : KD) : ∀ xs : List I, (Cd K).flat xs = zq xs
  | [] => rfl
  | x :: xs => by have h := Nz K xs; unfold Cm.flat at *; unfold zq; rw [<- h]; rfl
theorem KR {K : KD} (L : List I) (N c g : Nat) (w0 w : World) (hN : N = L.length) (hmax : N <= 500000) (hT : L.Pairwise tg) (hG : ∀ x ∈ L, Yr K g w0 x) (hg0 : GX g w0 w) (hd : kN w g L) :
    Calls Tryz.prog 72 #[.slice (some ⟨g, 0, none⟩) N c, (Cr K)] w fun en w' => en = .returned (.tuple #[]) /\ (∃ M' : List I, M'.Perm L /\ FG K.k M' /\ kN w' g M') /\ GX g w w' := by
  obtain ⟨rs, hd⟩ := hd; refine (Wl (Cd K) rs L N c g w0 w hN hmax hT hG hg0 (by unfold DY; rw [Nz]; exact hd)).mono ?_; rintro en w' ⟨rfl, ⟨M, p, u, d⟩, hg⟩; exact ⟨rfl, ⟨M, p, u, rs, by unfold DY at d; rw [Nz] at d; exact d⟩, hg⟩
