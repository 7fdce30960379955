/- Parts of a proof. No condition. -/
import Derived.Test.YthhbiemnbkfobaaGreatGJ
set_option maxRecDepth 100000
set_option maxHeartbeats 8000000
set_option maxRecDepth 100000
set_option linter.unusedSimpArgs false
set_option linter.unusedVariables false
namespace Go
variable {p : Prop}
theorem ov_ (h : p := by simp [results, Tryz.results26, go_sem] <;> rfl) : p := h
theorem ow_ (h : p := by simp [results, Tryz.results22, go_sem] <;> rfl) : p := h
theorem v4_ (h : p := by
 rename_i h1; exact absurd (Prod.mk.inj h).2 h1) : p := h
theorem v8_ (h : p := by
 rename_i h2; exact absurd (Prod.mk.inj h).2 h2) : p := h
end Go
namespace Go.Proofs.YthhbiemnbkfobaaGreat
open Go.RowKit Go.Calm
theorem Eo {w : World} {g : Nat} {xs : List I} (h : DB w g xs) (hv : ∀ x ∈ xs, xd w x.A x.row) : yI w (some ⟨g, 0, none⟩) xs := fun i x hx => by
  obtain ⟨a, b⟩ := h.at hx; exact ⟨g, 0, rfl, by rw [Nat.zero_add]; exact a, by rw [Nat.zero_add]; exact b, hv x (qZ_ hx)⟩
def nV (n : Int) : V := ⟨3, n, ⟨#[]⟩⟩
theorem VS {ys : List I} {r : List V} {n : Int} (h : ys.map zp = [(r, n)]) : ∃ y, ys = [y] /\ y.row = r /\ y.w = n := by
  match ys, h with
  | [y], h =>
    simp [zp] at h; exact ⟨y, rfl, h.1, h.2⟩
inductive Ek | n | p | d
@[reducible] def Ek.F : Ek -> Nat
  | .n => 27
  | .p => 93
  | .d => 94
def kP (w w' : World) (e : Ending) (r : List Z × Int) : Prop := ∃ (B : Option Addr) (ys : List I) (cap : Nat), e = .returned (.tuple #[.slice B ys.length cap, .int .i64 r.2]) /\ w'.ownsRow w.heap.size 54 2 (.slice B ys.length cap) ys.length (zq ys) /\ (∀ y ∈ ys, ∃ g, y.A = some ⟨g, 0, none⟩ /\ DV w' g y.row) /\ ys.map zp = r.1 /\ za w w'
theorem kP.gives {w w' : World} {e : Ending} {r : List Z × Int} (h : kP w w' e r) : yK w w' e r := by
  obtain ⟨B, ys, cap, rfl, own, dv, m, hg⟩ := h; obtain ⟨B2, cap2, e2, hz, hk⟩ := kY own (fun y hy => by obtain ⟨g, h1, h2⟩ := dv y hy; rw [h1]; exact h2.vsl); simp only [Value.slice.injEq] at e2; obtain ⟨rfl, _, rfl⟩ := e2; exact ⟨B, ys, cap, rfl, hz, m, hk, hg⟩
theorem QG (ek : Ek) (f : Int -> Int) (hf : ∀ n W, -1000000 <= n -> n <= 1000000 -> Calls Tryz.prog ek.F #[.int .i64 n] W fun e w' => e = .returned (.int .i64 (f n)) /\ za W w') (A : Option Addr) (xs : List I) (c : Nat) (w : World) (ha : In w ⟨A, xs, c⟩) :
    Calls Tryz.prog 26 #[.slice A xs.length c, .func (.func ek.F) #[] #[]] w fun en w' => kP w w' en (yO f (xs.map zp)) := by
  cases ek
  all_goals as_aux_lemma =>
    dsimp only [Ek.F] at hf ⊢; have Ha := hh_ ha; have Hf := hh_ hf; clear ha hf; go_enter Tryz.func26, Tryz.ntmps26; obtain ⟨E, hE⟩ : ∃ E, zw (xs.map zp) = E := ⟨_, rfl⟩
    have cr := fun W (h1 : zc W w.heap.size 34 #[.slice A xs.length c]) (hg : za w W) => Pf ⟨A, xs, c⟩ w.heap.size W _ h1 (Ha.out.grow hg)
    rw [show zw (S.z ⟨A, xs, c⟩) = E from hE] at cr; have HE := hh_ hE; clear hE; go_upto_region 2 with (go_at_call 37; ((with_reducible refine (cr _ (zc.new _ _ _) zi).mono ?_); rintro e w2 ⟨rfl, hg2⟩)); have G2 := ((za.refl w).al _).trans hg2; clear cr
    by_cases h0 : E = 0
    · have d0 : (E != 0) = false := by simpa using h0
      obtain ⟨a1, a2, a3, a4⟩ := S.facts (s := ⟨A, xs, c⟩) (HE.out.trans h0); have A2 := hh_ a2; have A4 := hh_ a4; have fin : yO f (xs.map zp) = (yo f (xs.map zp), 0) := by unfold yO; rw [HE.out, if_neg vE_]
      have Fin := hh_ fin; clear fin a2 a3 a4; go_wp2
      go_loopw [7, 19] (fun t i wr => ∃ (k : Nat) (out : List I), k <= xs.length /\ i = .int .i64 k /\ wr.ownsRow w.heap.size 54 2 t out.length (zq out) /\ out.map zp = yo f ((xs.take k).map zp) /\ (∀ y ∈ out, ∃ g, y.A = some ⟨g, 0, none⟩ /\ DV wr g y.row) /\ out.length <= k /\ za w wr) (fun _ i _ => xs.length - (intOf i).toNat)
      case atStart => exact ⟨0, [], Nat.zero_le _, rfl, World.ownsRow_nil _ _ _ _, rfl, fun y hy => by simp at hy, Nat.le_refl _, G2⟩
      case round =>
        obtain ⟨k, out, hk, rfl, hown, hmap, hdv, hol, hg⟩ := hrel; have Own := hh_ hown; have Map := hh_ hmap; have Dvs := hh_ hdv; clear hown hmap hdv
        by_cases hlt : k < xs.length
        · obtain ⟨x, hxk⟩ : ∃ x, xs[k]? = some x := ⟨_, qQ_ hlt⟩
          obtain ⟨gx, ox, rfl, c1, c2, hxv⟩ := (Ha.out.z.grow hg) k x hxk; have hmem := qZ_ hxk; have hlx := A2.out x hmem; have cb := fun W (h : za wr W) => WV x.row x.A x.cap W vU_ (hxv.grow h)
          have cf := fun W => Hf.out x.w W (A4.out x hmem).1 (A4.out x hmem).2
          have es := Np f hxk; rw [<- Map.out] at es; have Es := hh_ es; obtain ⟨m, hm⟩ : ∃ m, f x.w = m := ⟨_, rfl⟩
          rw [hm] at cf; have Hm := hh_ hm; clear hxk hxv hmem es hm; go_upto_region 8 with fail
          refine zd (fun X => zc X wr.heap.size 54 #[.slice x.A x.row.length x.cap, .int .i64 x.w] /\ za wr X) ⟨zc.new _ _ _, (za.refl wr).al _⟩ ?_; rintro X ⟨Bx, G⟩; obtain ⟨bx, fx⟩ := Bx.rules; go_upto_region 9 with ((first | (go_at_call 27; skip) | (go_at_call 93; skip) | (go_at_call 94; skip)); (with_reducible refine (cf _).mono ?_); rintro e w3 ⟨rfl, hg3⟩); have Bx3 := Bx.grow hg3; obtain ⟨bx3, fx3⟩ := Bx3.rules; have G3 := G.trans hg3; have Own3 := hh_ (zr Own.out G3)
          by_cases hm0 : m = 0
          · have dm : (m != 0) = false := by simpa using hm0
            go_wp2; go_roundw
            case rel => exact ⟨k + 1, out, by omega, by go_num, Own3.out, by rw [Es.out, Hm.out, if_neg (by simpa using hm0), List.append_nil], fun y hy => by obtain ⟨g, h1, h2⟩ := Dvs.out y hy; exact ⟨g, h1, h2.grow G3⟩, by omega, hg.trans G3⟩
            case measure => exact vZ_
          · have dm : (m != 0) = true := by simpa using hm0
            go_wp2_with (first
              | (go_at_call 39; ((with_reducible refine (cb _ G3).mono ?_); rintro e w4 ⟨gi, rfl, hdv4, hge, hg4⟩; have Dv4 := hh_ hdv4; have Own4 := hh_ (zr Own3.out hg4); clear hdv4))
              | (at_builtin; refine zZ rfl _ _ rfl w.heap.size _ out.length out rfl (Own4.out.alloc _) _ [I.mk (some ⟨gi, 0, none⟩) (zg x.row) x.row.length m] rfl (jD (qr x.row) (zc.new _ _ _)) vN_ (by have := (hg.trans (G3.trans hg4)).size; simp; omega) ?_; intro v7 w7 own7 gr7))
            have G7 : za w w7 := yg ((hg.trans (G3.trans hg4)).al _) gr7 (Own4.out.alloc _); have Own7 := hh_ own7; have Dv7 := hh_ (DV.kept (Dv4.out.grow ((za.refl _).al _)) (Own4.out.alloc _) gr7)
            have Dvs7 : ∀ y ∈ out, ∃ g, y.A = some ⟨g, 0, none⟩ /\ DV w7 g y.row := fun y hy => by
              obtain ⟨g, h1, h2⟩ := Dvs.out y hy; exact ⟨g, h1, DV.kept (h2.grow ((G3.trans hg4).al _)) (Own4.out.alloc _) gr7⟩
            have DVS7 := hh_ Dvs7; clear own7 gr7 Dvs7; go_roundw
            case rel =>
              refine ⟨k + 1, out ++ [I.mk (some ⟨gi, 0, none⟩) (zg x.row) x.row.length m], by omega, by go_num, by simpa using Own7.out, ?_, fun y hy => ?_, by simp; omega, G7⟩
              · rw [Es.out, Hm.out, if_pos hm0]; simp [zp]
              · rcases List.mem_append.1 hy with hy | hy
                · exact DVS7.out y hy
                · simp at hy; subst hy; exact ⟨gi, rfl, Dv7.out⟩
            case measure => exact vZ_
        · obtain rfl : k = xs.length := by omega
          obtain ⟨B, cap, rfl, _, _⟩ := kY Own.out (fun y hy => by obtain ⟨g, h1, h2⟩ := Dvs.out y hy; rw [h1]; exact h2.vsl); have hm2 : out.map zp = yo f (xs.map zp) := by rw [Map.out, List.take_length]
          have Hm2 := hh_ hm2; clear hm2; go_wp2; refine qX_ ov_ rfl ?_; exact ⟨B, out, cap, by rw [Fin.out], Own.out, Dvs.out, by rw [Fin.out]; exact Hm2.out, hg⟩
    · have d0 : (E != 0) = true := by simpa using h0
      go_wp2; refine qX_ ov_ rfl ?_; have e : yO f (xs.map zp) = ([], E) := by unfold yO; rw [HE.out, if_pos h0]
      exact ⟨none, [], 0, by rw [e]; rfl, World.ownsRow_nil _ _ _ _, fun y hy => by simp at hy, by rw [e]; rfl, G2⟩
theorem DF (n : Int) (w : World) (h1 : -1000000 <= n) (h2 : n <= 1000000) : Calls Tryz.prog 27 #[.int .i64 n] w fun e w' => e = .returned (.int .i64 (-n)) /\ za w w' := by
  have hwp : IntKind.i64.wrap (-n) = -n := by rw [IntKind.wrap_i64]; omega
  go_enter Tryz.func27, Tryz.ntmps27; go_wp2; go_ret; exact zx rfl (za.refl _)
theorem DZ (n : Int) (w : World) (h1 : -1000000 <= n) (h2 : n <= 1000000) : Calls Tryz.prog 93 #[.int .i64 n] w fun e w' => e = .returned (.int .i64 (yQ n)) /\ za w w' := by
  go_enter Tryz.func93, Tryz.ntmps93
  by_cases h : n < 0
  · have e : yQ n = 0 := by unfold yQ; rw [if_pos h]
    rw [e]; go_wp2; go_ret; exact zx vU_ (za.refl _)
  · have e : yQ n = n := by unfold yQ; rw [if_neg h]
    rw [e]; go_wp2; go_ret; exact zx vU_ (za.refl _)
theorem Dq (n : Int) (w : World) (h1 : -1000000 <= n) (h2 : n <= 1000000) : Calls Tryz.prog 94 #[.int .i64 n] w fun e w' => e = .returned (.int .i64 (YB n)) /\ za w w' := by
  go_enter Tryz.func94, Tryz.ntmps94
  by_cases h : 0 < n
  · have e : YB n = 1 := by unfold YB; rw [if_pos h]
    rw [e]; go_wp2; go_ret; exact zx vU_ (za.refl _)
  · have e : YB n = 0 := by unfold YB; rw [if_neg h]
    rw [e]; go_wp2; go_ret; exact zx vU_ (za.refl _)
theorem VV (a : S) (w : World) (ha : In w a) :
    Calls Tryz.prog 14 #[.slice a.A a.xs.length a.cap] w fun en w' => kP w w' en (yO (fun n => -n) a.z) := by
  have cs := QG .n (fun n => -n) (fun n W h1 h2 => DF n W h1 h2) a.A a.xs a.cap w ha; go_enter Tryz.func14, Tryz.ntmps14
  go_wp2_with (go_at_call 26; ((with_reducible refine cs.mono ?_); rintro en w3 ⟨C, zs, cap2, rfl, own, dv, hm, hg3⟩; have Fin := hh_ (And.intro own (And.intro dv hm)); clear own dv hm))
  refine qX_ (by simp [results, Tryz.results14, go_sem] <;> rfl) rfl ?_; exact ⟨C, zs, cap2, rfl, Fin.out.1, Fin.out.2.1, Fin.out.2.2, hg3⟩
theorem VU (a : S) (w : World) (ha : In w a) :
    Calls Tryz.prog 14 #[.slice a.A a.xs.length a.cap] w fun en w' => yK w w' en (yO (fun n => -n) a.z) := (VV a w ha).mono fun _ _ h => h.gives
theorem PG (a : S) (w : World) (ha : In w a) :
    Calls Tryz.prog 54 #[.slice a.A a.xs.length a.cap] w fun en w' => kP w w' en (yO yQ a.z) := by
  have cs := QG .p yQ (fun n W h1 h2 => DZ n W h1 h2) a.A a.xs a.cap w ha; go_enter Tryz.func54, Tryz.ntmps54
  go_wp2_with (go_at_call 26; ((with_reducible refine cs.mono ?_); rintro en w3 ⟨C, zs, cap2, rfl, own, dv, hm, hg3⟩; have Fin := hh_ (And.intro own (And.intro dv hm)); clear own dv hm))
  refine qX_ (by simp [results, Tryz.results54, go_sem] <;> rfl) rfl ?_; exact ⟨C, zs, cap2, rfl, Fin.out.1, Fin.out.2.1, Fin.out.2.2, hg3⟩
theorem Bu (a : S) (w : World) (ha : In w a) :
    Calls Tryz.prog 54 #[.slice a.A a.xs.length a.cap] w fun en w' => yK w w' en (yO yQ a.z) := (PG a w ha).mono fun _ _ h => h.gives
theorem VF (a : S) (w : World) (ha : In w a) :
    Calls Tryz.prog 55 #[.slice a.A a.xs.length a.cap] w fun en w' => kP w w' en (yO YB a.z) := by
  have cs := QG .d YB (fun n W h1 h2 => Dq n W h1 h2) a.A a.xs a.cap w ha; go_enter Tryz.func55, Tryz.ntmps55
  go_wp2_with (go_at_call 26; ((with_reducible refine cs.mono ?_); rintro en w3 ⟨C, zs, cap2, rfl, own, dv, hm, hg3⟩; have Fin := hh_ (And.intro own (And.intro dv hm)); clear own dv hm))
  refine qX_ (by simp [results, Tryz.results55, go_sem] <;> rfl) rfl ?_; exact ⟨C, zs, cap2, rfl, Fin.out.1, Fin.out.2.1, Fin.out.2.2, hg3⟩
theorem VD (a : S) (w : World) (ha : In w a) :
    Calls Tryz.prog 55 #[.slice a.A a.xs.length a.cap] w fun en w' => yK w w' en (yO YB a.z) := (VF a w ha).mono fun _ _ h => h.gives
theorem In.of {w : World} {B : Option Addr} {ys : List I} {cap : Nat} (hz : yI w B ys) (hk : zN B ys.length cap) (h : zw (ys.map zp) = 0) : In w ⟨B, ys, cap⟩ := by
  obtain ⟨a1, a2, a3, a4⟩ := S.facts (s := ⟨B, ys, cap⟩) h; exact ⟨hz, hk, by show ys.length <= _; have : ys.length <= 400 := a1; omega, fun x hx => by have := a2 x hx; omega⟩
theorem SQ {a b : List Z} (ha : zw a = 0) (hb : zw b = 0) : yL a b (-1) = yF (a ++ yo (fun n => -n) b) /\ zw (yo (fun n => -n) b) = 0 := by
  have sa := SM.of ha; have sb := SM.of hb; obtain ⟨s, e, _, ss, _⟩ := DG sb vU_ vU_; unfold yO at e; rw [if_neg (by rw [hb]; simp)] at e; have e1 : yo (fun n => -n) b = s := (Prod.mk.inj e).1; refine ⟨?_, by rw [e1]; exact ss.rz vU_ vU_⟩; unfold yL yF; rw [if_neg (by rw [ha]; simp), if_neg (by rw [hb]; simp)]; congr 1; refine Wg (fun x hx => ((kq sa.ok (JB sb.ok (-1))) x hx).2) (fun x hx => ((kq sa.ok (YN sb.ok _)) x hx).2) (fun q => ?_); rw [yf, yf, Rd]; congr 1; have : zP (-1) b = b.map (fun x => (x.1, -x.2)) := by simp [zP]
  rw [this]
theorem BS (a b : S) (w : World) (ha : In w a) (hb : In w b) :
    Calls Tryz.prog 22 #[.slice a.A a.xs.length a.cap, .slice b.A b.xs.length b.cap] w fun en w' => yK w w' en (yL a.z b.z (-1)) := by
  have Ha := hh_ ha; have Hb := hh_ hb; clear ha hb; go_enter Tryz.func22, Tryz.ntmps22; obtain ⟨E, hE⟩ : ∃ E, xF [a.z, b.z] = E := ⟨_, rfl⟩
  have cr := fun W (h1 : zc W w.heap.size 34 #[.slice a.A a.xs.length a.cap, .slice b.A b.xs.length b.cap]) (hg : za w W) => WC a b w.heap.size W _ h1 (Ha.out.grow hg) (Hb.out.grow hg)
  rw [hE] at cr; have HE := hh_ hE; clear hE; go_upto_region 2 with (go_at_call 37; ((with_reducible refine (cr _ (zc.new _ _ _) zi).mono ?_); rintro e w2 ⟨rfl, hg2⟩)); have G2 := ((za.refl w).al _).trans hg2; clear cr
  by_cases h0 : E = 0
  · have d0 : (E != 0) = false := by simpa using h0
    obtain ⟨ra, rb⟩ := JN (HE.out.trans h0); obtain ⟨a1, a2, a3, a4⟩ := S.facts ra; have fin := SQ ra rb; have en : yO (fun n => -n) b.z = (yo (fun n => -n) b.z, 0) := by unfold yO; rw [if_neg (by rw [rb]; simp)]
    have cn := fun W (h : za w W) => VU b W (Hb.out.grow h)
    rw [en] at cn; have Fin := hh_ fin; have Ra := hh_ ra; clear fin ra rb a2 a3 a4 en; go_upto_region 5 with (go_at_call 14; ((with_reducible refine (cn _ G2).mono ?_); rintro e w3 ⟨B, ys, cap, rfl, hz3, hm3, hk3, hg3⟩; have Y := hh_ (And.intro hz3 (And.intro hm3 hk3)); clear hz3 hm3 hk3)); have G3 := G2.trans hg3; have ry : zw (ys.map zp) = 0 := by rw [Y.out.2.1]; exact Fin.out.2
    have iy := In.of Y.out.1 Y.out.2.2 ry; obtain ⟨b1, _⟩ := S.facts (s := ⟨B, ys, cap⟩) ry; have b1 : ys.length <= 400 := b1; have cc := fun W (h1 : zc W w3.heap.size 34 #[.slice a.A a.xs.length a.cap, .slice B ys.length cap]) (hg : za w3 W) => QA a ⟨B, ys, cap⟩ w3.heap.size W _ h1 (Ha.out.grow (G3.trans hg)) (iy.grow hg) (by show a.xs.length + ys.length <= _; omega)
    have cs := fun B' cap' W hz => PY a ⟨B, ys, cap⟩ B' cap' W hz Ra.out ry
    have e2 : yL a.z b.z (-1) = yF (a.z ++ S.z ⟨B, ys, cap⟩) := by rw [Fin.out.1]; congr 2; exact Y.out.2.1.symm
    have E2 := hh_ e2; clear e2 ry iy
    go_wp2_with (first
      | (go_at_call 38; ((with_reducible refine (cc _ (zc.new _ _ _) ((za.refl _).al _)).mono ?_); rintro e w4 ⟨D, cap4, rfl, hz4, hk4, hg4⟩; have Hz4 := hh_ hz4; clear hz4 hk4))
      | (go_at_call 20; ((with_reducible refine (cs _ _ _ Hz4.out).mono ?_); rintro e w5 ⟨C, zs, cap5, rfl, hz5, hm5, hk5, hg5⟩; have Out := hh_ (And.intro hz5 (And.intro hm5 hk5)); clear hz5 hm5 hk5)))
    refine qX_ ow_ rfl ?_; exact ⟨C, zs, cap5, by rw [E2.out], Out.out.1, by rw [E2.out]; exact Out.out.2.1, Out.out.2.2, ((G3.al _).trans hg4).trans hg5⟩
  · have d0 : (E != 0) = true := by simpa using h0
    go_wp2; refine qX_ ow_ rfl ?_; have e : yL a.z b.z (-1) = ([], E) := by rw [Kf, HE.out, if_pos h0]
    exact ⟨none, [], 0, by rw [e]; rfl, zu _ _, by rw [e]; rfl, zN.nil, G2⟩
def WO (z : List Z) : Prop := z.length <= 400 /\ Y7 z
theorem KQ : WO [] := ⟨by simp, fun x hx => by simp at hx⟩
theorem S.sml {s : S} (h : WO s.z) : s.ok := ⟨by have := h.1; simp [S.z] at this; omega, fun x hx => by have := (h.2 (zp x) (qZ9 hx)).1; simp only [zp] at this; omega⟩
theorem In.sml {w : World} {B : Option Addr} {ys : List I} {cap : Nat} (hz : yI w B ys) (hk : zN B ys.length cap) (h : WO (ys.map zp)) : In w ⟨B, ys, cap⟩ := ⟨hz, hk, S.sml (s := ⟨B, ys, cap⟩) h⟩
theorem Jb {f : Int -> Int} {z d : List Z} (h : yO f z = (d, 0)) : zw z = 0 := by
  unfold yO at h; split at h
  · exact v4_
  · rename_i h1; simpa using h1
theorem NH (W : World) : In W ⟨none, [], 0⟩ := ⟨zu _ _, zN.nil, by show (0 : Nat) <= _; omega, fun x hx => by simp at hx⟩
theorem Z9 {a b s : List Z} {n : Int} (h : yL a b n = (s, 0)) : zw a = 0 /\ zw b = 0 /\ yJ s /\ zw s = 0 /\ ∀ q, zE s q = zE a q + n * zE b q := by
  unfold yL at h; split at h
  · exact v4_
  · rename_i h1
    split at h
    · exact v8_
    · rename_i h2
      have h1 : zw a = 0 := by simpa using h1
      have h2 : zw b = 0 := by simpa using h2
      have ok := kq (SM.of h1).ok (JB (SM.of h2).ok n); have sp := yB (a ++ zP n b) (fun x hx => (ok x hx).2); unfold yF at h; rcases XX (zW (a ++ zP n b)) with ⟨e, hl, hb⟩ | ⟨e, he, hf⟩
      · rw [e] at h
        have es : zW (a ++ zP n b) = s := (Prod.mk.inj h).1; rw [es] at sp hl hb; have oks : Y7 s := by rw [<- es]; exact Kz ok
        exact ⟨h1, h2, sp.1, (SM.canon sp.1 oks hb hl).rz vU_ vU_, fun q => by rw [sp.2, yf, xG]⟩
      · rw [hf] at h; exact absurd (Prod.mk.inj h).2 he
