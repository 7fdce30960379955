/-
 Joined texts of this claim: Tt0, Tt3. What each proves its own head says; no condition beside those that each theorem names.
-/
import Derived.Test.YtcaedcpjdmlilaaGreatGH
import Derived.Test.YtcaedcpjdmlilaaGreatGS
set_option maxRecDepth 100000
set_option maxHeartbeats 2000000
namespace Go.Proofs.YtcaedcpjdmlilaaGreat
open Go.RowKit Go.Calm
set_option linter.unusedSimpArgs false
set_option linter.unusedVariables false
def GQ (w : World) (g : Nat) (xs : List I) : Prop := ∃ rest : List Value, zb w g 62 (zt xs ++ rest).toArray
theorem GQ.at {w : World} {g : Nat} {xs : List I} (h : GQ w g xs) {i : Nat} {x : I} (hx : xs[i]? = some x) : w.cell? ⟨g, i * 2, none⟩ = some (.slice x.A x.row.length x.cap) /\ w.cell? ⟨g, i * 2 + 1, none⟩ = some (.int .i64 x.w) := by
 obtain ⟨r, h⟩ := h; obtain ⟨a, b⟩ := x9 xs i x hx; have la := (List.getElem?_eq_some_iff.1 a).1; have lb := (List.getElem?_eq_some_iff.1 b).1; rw [zb.cell h, zb.cell h]; rw [List.getElem?_toArray, List.getElem?_toArray, List.getElem?_append_left la, List.getElem?_append_left lb]; exact ⟨a, b⟩
theorem za3 {w : World} {base n cap g : Nat} {xs : List I} (h : w.ownsRow base 62 2 (.slice (some ⟨g, 0, none⟩) n cap) n (zt xs)) : GQ w g xs /\ base <= g := by
 rcases h.2 with ⟨e, _⟩ | ⟨g', cap', cur, e, hB, hgb, _, _, _, ht⟩
 ·simp at e
 ·simp at e; obtain ⟨rfl, rfl⟩ := e; refine ⟨⟨cur.toList.drop (n * 2), ?_⟩, hB⟩; unfold zb; rw [<- ht, List.take_append_drop]; simpa using hgb
theorem GQ.zin {w : World} {g : Nat} {xs : List I} (h : GQ w g xs) (hv : ∀ x ∈ xs, xp w x.A x.row) : xF w (some ⟨g, 0, none⟩) xs := fun i x hx => by
 obtain ⟨a, b⟩ := h.at hx; exact ⟨g, 0, rfl, by simpa using a, by simpa using b, hv x (List.mem_of_getElem? hx)⟩
structure KS where
 es : List E
 A : Option Addr
 c : Nat
 gk : Nat
def ZE (K : KS) (x : I) : List V := K.es.map (yt x.row)
def Ul (K : KS) (x y : I) : Int := zB x7 (ZE K x) (ZE K y)
def Jw (K : KS) (x y : I) : Int := if zB zU (ZE K x) (ZE K y) ≠ 0 then zB zU (ZE K x) (ZE K y) else zB zU x.row y.row
def tg (x y : I) : Prop := zG x.row y.row < 0
structure kw (K : KS) (g : Nat) (w0 : World) (x : I) : Prop where
 sl : ∀ W, GX g w0 W -> xp W x.A x.row
 ks : ∀ W, GX g w0 W -> zb W K.gk 25 #[.slice K.A K.es.length K.c] /\ KG W K.A K.es
 len : x.row.length <= 9223372036854775807
 kl : K.es.length <= 1000
 rv : ∀ v ∈ x.row, RV v
 re : ∀ e ∈ K.es, RE x.row.length e
theorem kw.kv {K : KS} {g : Nat} {w0 : World} {x : I} (h : kw K g w0 x) : ∀ v ∈ ZE K x, RV v := fun v hv => by
 obtain ⟨e, he, rfl⟩ := List.mem_map.1 hv; exact WH x.row h.rv e (h.re e he)
theorem Uo {K : KS} {g : Nat} {w0 : World} {x y : I} (hx : kw K g w0 x) (hy : kw K g w0 y) : Jw K y x = - Jw K x y := by
 have h1 := yh zU yk (ZE K x) (ZE K y); have h2 := yh zU yk x.row y.row; unfold Jw; split <;> split <;> omega
theorem YT (a b c : List V) : (zB zU a b <= 0 -> zB zU b c <= 0 -> zB zU a c <= 0) /\ (zB zU a b <= 0 -> zB zU b c <= 0 -> zB zU a c = 0 -> zB zU a b = 0 /\ zB zU b c = 0) := by
 have t1 := qf a b c; have t2 := qf c a b; have t3 := qf b c a; have s1 := yh zU yk a b; have s2 := yh zU yk b c; have s3 := yh zU yk a c; refine ⟨t1, fun h1 h2 h3 => ?_⟩; omega
theorem RS {K : KS} {g : Nat} {w0 : World} {x y z : I} (hx : kw K g w0 x) (hy : kw K g w0 y) (hz : kw K g w0 z) (h1 : Jw K x y <= 0) (h2 : Jw K y z <= 0) : Jw K x z <= 0 := by
 have k := YT (ZE K x) (ZE K y) (ZE K z); have r := YT x.row y.row z.row; unfold Jw at *; split at h1 <;> split at h2 <;> split <;> omega
abbrev UpT (K : KS) (L : List I) : Prop := L.Pairwise (fun x y => Jw K x y <= 0)
theorem EG {K : KS} {g : Nat} {w0 : World} {x y : I} (hx : kw K g w0 x) (hy : kw K g w0 y) (ht : tg y x) : Jw K x y < 0 ↔ Ul K x y < 0 := by
 have e := zW (ZE K x) (ZE K y) hx.kv hy.kv; have s := yh zU yk x.row y.row; unfold tg zG at ht; unfold Jw Ul; rw [e]; split <;> omega
theorem MY {w : World} {base cap n : Nat} {B : Option Addr} {ys : List V} (hn : ys.length = n) (h : w.ownsRow base 24 3 (.slice B n cap) n (zH ys)) : xp w B ys := by
 rw [<- hn] at h; obtain ⟨B', c', e, hv⟩ := MZ h; simp at e; rw [e.1]; exact hv
def PVs (n : Nat) (vs : List V) (v : Value) (W : World) : Prop := ∃ (B : Option Addr) (cap : Nat), v = .slice B n cap /\ xp W B vs
theorem EH (K : KS) (x y : I) (g : Nat) (w0 w : World) (hx : kw K g w0 x) (hy : kw K g w0 y) (hg : GX g w0 w) : Calls Tryz.prog 157 #[x.val, y.val, .pointer (some ⟨K.gk, 0, none⟩)] w fun e w' => e = .returned (.int .i64 (Ul K x y)) /\ za w w' := by
 have cx := fun W (h : za w W) => XG K.es K.A K.c x.row x.A x.cap W hx.kl hx.len (hx.ks _ (hg.grow h)).2 hx.re hx.rv (hx.sl _ (hg.grow h))
 have cy := fun W (h : za w W) => XG K.es K.A K.c y.row y.A y.cap W hx.kl hy.len (hx.ks _ (hg.grow h)).2 hy.re hy.rv (hy.sl _ (hg.grow h))
 have KB := Lib.hid (hx.ks _ hg).1; have lk := hx.kl; obtain ⟨KX, hKX⟩ : ∃ q, K.es.map (yt x.row) = q := ⟨_, rfl⟩
 obtain ⟨KY, hKY⟩ : ∃ q, K.es.map (yt y.row) = q := ⟨_, rfl⟩
 have lx : KX.length = K.es.length := by rw [<- hKX]; simp
 have ly : KY.length = K.es.length := by rw [<- hKY]; simp
 rw [hKX] at cx; rw [hKY] at cy; have fin : Ul K x y = zB x7 KX KY := by unfold Ul ZE; rw [hKX, hKY]
 rw [fin]; have cr := fun B1 c1 B2 c2 W (h1 : xp W B1 KX) (h2 : xp W B2 KY) => qH KX KY B1 B2 c1 c2 W (by omega) (by omega) h1 h2
 rw [lx, ly] at cr; have Lx := Lib.hid lx; have Ly := Lib.hid ly; clear hKX hKY fin hx hy hg lx ly; unfold I.val; go_enter Tryz.func157, Tryz.ntmps157; go_upto_region 1 with fail
 refine zc (fun X => zb X w.heap.size 62 #[.slice x.A x.row.length x.cap, .int .i64 x.w] /\ zb X (w.heap.size + 1) 62 #[.slice y.A y.row.length y.cap, .int .i64 y.w] /\ za w X) ⟨(zb.new _ _ _).grow ((za.refl _).al _), zb.new' _ _ _ (by simp), ((za.refl _).al _).al _⟩ ?_; generalize w.heap.size + 1 = g2; generalize w.heap.size = g1; rintro X ⟨B1, B2, G⟩; have BX := Lib.hid B1; have BY := Lib.hid B2; have BK := Lib.hid (KB.out.grow G); clear B1 B2 KB; apply wp_region_calm 10 (by kernel_rfl) (by kernel_rfl)
 case h' =>
  intro Q0 hQ0; simp only [List.take_succ_cons, List.take_zero]
  repeat ((first | ((first | apply calm_p rfl | apply zg rfl rfl rfl); case h1 => (intro w1 hw1 hF K hK; obtain ⟨bx, fx⟩ := (BX.out.grow hw1).rules; obtain ⟨by1, fy⟩ := (BY.out.grow hw1).rules; obtain ⟨bk, fk⟩ := (BK.out.grow hw1).rules; go_simp; first | exact hK _ (za.refl _))) | apply ze rfl rfl rfl rfl); intro K hK; go_simp; apply hK; clear hK K)
  apply calm_fp (PVs K.es.length KX) rfl
  case h1 =>
   intro w1 hw1 hF K1 hK1; go_simp
   go_at_call 148
   refine (cx w1 (G.trans hw1)).mono ?_; rintro en w' ⟨B, cap, rfl, ho, hg'⟩; exact ⟨_, rfl, hK1 _ _ hg' ⟨B, cap, rfl, MY Lx.out ho⟩⟩
  intro v9 K1 hK1; go_simp; apply hK1; clear hK1 K1
  repeat ((first | ((first | apply calm_p rfl | apply zg rfl rfl rfl); case h1 => (intro w1 hw1 hF K hK; obtain ⟨bx, fx⟩ := (BX.out.grow hw1).rules; obtain ⟨by1, fy⟩ := (BY.out.grow hw1).rules; obtain ⟨bk, fk⟩ := (BK.out.grow hw1).rules; go_simp; first | exact hK _ (za.refl _))) | apply ze rfl rfl rfl rfl); intro K hK; go_simp; apply hK; clear hK K)
  apply calm_fp (PVs K.es.length KY) rfl
  case h1 =>
   intro w1 hw1 hF K1 hK1; go_simp
   go_at_call 148
   refine (cy w1 (G.trans hw1)).mono ?_; rintro en w' ⟨B, cap, rfl, ho, hg'⟩; exact ⟨_, rfl, hK1 _ _ hg' ⟨B, cap, rfl, MY Ly.out ho⟩⟩
  intro v13 K1 hK1; go_simp; apply hK1; clear hK1 K1; apply calm_p rfl
  case h1 =>
   intro w1 hw1 hF K1 hK1; obtain ⟨B2, c2, hv2, h2⟩ := hF _ (List.mem_cons_self ..) ⟨_, rfl, by decide⟩; obtain ⟨B1, c1, hv1, h1⟩ := hF _ (List.mem_cons_of_mem _ (List.mem_cons_self ..)) ⟨_, rfl, by decide⟩; subst hv1 hv2; go_simp
   go_at_call 85
   refine (cr B1 c1 B2 c2 w1 h1 h2).mono ?_; rintro en w' ⟨rfl, hg'⟩; exact ⟨_, rfl, hK1 _ hg'⟩
  intro K1 hK1; go_simp; apply hK1; clear hK1 K1
  repeat ((first | ((first | apply calm_p rfl | apply zg rfl rfl rfl); case h1 => (intro w1 hw1 hF K hK; obtain ⟨bx, fx⟩ := (BX.out.grow hw1).rules; go_simp; first | exact hK _ (za.refl _))) | apply ze rfl rfl rfl rfl); intro K hK; go_simp; apply hK; clear hK K)
  refine calm_nil ?_; intro w1 hw1 hF; apply hQ0; clear hQ0; simp only [List.drop_succ_cons, List.drop_zero]; clear hF; go_wp2; go_ret; exact ⟨rfl, G.trans hw1⟩
 case hp' => exact ⟨fun v w w' hg ⟨B, c, e, h⟩ => ⟨B, c, e, h.grow hg⟩, fun v w w' hg ⟨B, c, e, h⟩ => ⟨B, c, e, h.grow hg⟩, trivial⟩
end Go.Proofs.YtcaedcpjdmlilaaGreat

